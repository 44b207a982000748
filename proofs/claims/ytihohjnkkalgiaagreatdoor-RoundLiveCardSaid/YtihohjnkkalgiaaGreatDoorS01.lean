/- Parts of a proof, joined. -/
import Derived.Test.YtihohjnkkalgiaaGreatDoorS00
set_option linter.all false
set_option maxRecDepth 100000
set_option maxHeartbeats 4000000
section
open Go
namespace Dem
def lZ (es:Array MapEntry) (clock:Nat):Prop:=es.all (·.born<clock)=true∧(es.toList.map (·.born)).Nodup
mutual
def aL (w:World) (ok:Nat→Prop):D→Value→Prop
 |.bool b,v=>v=.bool b
 |.int k n,v=>v=.int k n
 |.str s,v=>v=.string ⟨s.toArray⟩
 |.sl es,v=>∃base cap,v=.slice base es.length cap∧es.length≤cap∧
  (es=[]∨∃blk off sz,base=some ⟨blk,off,none⟩∧ok blk∧ay w ok blk sz es off)
 |.fn f,v=>v=.func (.func f) #[] #[]
 |.mp ag es,v=>∃blk ms clock,v=.map (some blk)∧ok blk∧w.heap[blk]?=some (.map ms clock)∧lZ ms clock∧bt w ok ag es ms.toList
def aY (w:World) (ok:Nat→Prop) (blk:Nat):List D→Nat→Prop
 |[],_=>True
 |x::xs,off=>(∃u,w.cell? ⟨blk,off,none⟩=some u∧aL w ok x u)∧aY w ok blk xs (off+1)
def ay (w:World) (ok:Nat→Prop) (blk sz:Nat):List (List D)→Nat→Prop
 |[],_=>True
 |r::rs,off=>r.length=sz∧aY w ok blk r off∧ay w ok blk sz rs (off+sz)
def bt (w:World) (ok:Nat→Prop) (ag:Bool):List (List D)→List MapEntry→Prop
 |[],ms=>ms=[]
 |r::rs,ms=>∃m Fc,ms=m::Fc∧ia w ok ag r m∧bt w ok ag rs Fc
def ia (w:World) (ok:Nat→Prop) (ag:Bool):List D→MapEntry→Prop
 |[],_=>False
 |k::ds,m=>aL w ok k m.key∧∃cs,m.val=(bif ag then .agg ⟨cs⟩ else cs.headD undef)∧(ag=false→cs.length=1)∧cN w ok ds cs
def cN (w:World) (ok:Nat→Prop):List D→List Value→Prop
 |[],vs=>vs=[]
 |d::ds,vs=>∃v r,vs=v::r∧aL w ok d v∧cN w ok ds r
end
def jg (w w':World) (ok ok':Nat→Prop):Prop:=∀blk,ok blk→ok' blk∧w'.heap[blk]?=w.heap[blk]?
theorem nw {w w':World} {blk:Nat} (h:w'.heap[blk]?=w.heap[blk]?) (off:Nat) (sp:Option Nat):w'.cell? ⟨blk,off,sp⟩=w.cell? ⟨blk,off,sp⟩:=by
 simp only [World.cell?,h]
theorem jg.cell {w w':World} {ok ok':Nat→Prop} (h:jg w w' ok ok') {blk:Nat} (hb:ok blk) (off:Nat):w'.cell? ⟨blk,off,none⟩=w.cell? ⟨blk,off,none⟩:=nw (h blk hb).2 off _
mutual
theorem aL.mono {w w':World} {ok ok':Nat→Prop} (h:jg w w' ok ok'):∀(x:D) (v:Value),aL w ok x v→aL w' ok' x v
 |.bool b,v,hv=>by simpa [aL] using hv
 |.int k n,v,hv=>by simpa [aL] using hv
 |.str s,v,hv=>by simpa [aL] using hv
 |.sl es,v,hv=>by
  simp only [aL] at hv ⊢
  obtain ⟨base,cap,h1,h2,h3⟩:=hv
  refine ⟨base,cap,h1,h2,h3.imp id ?_⟩
  rintro ⟨blk,off,sz,e1,e2,e3⟩
  exact ⟨blk,off,sz,e1,(h blk e2).1,ay.mono h blk sz (h.cell e2) es off e3⟩
 |.fn f,v,hv=>by simpa [aL] using hv
 |.mp ag es,v,hv=>by
  simp only [aL] at hv ⊢
  obtain ⟨blk,ms,clock,h1,h2,h3,h4,h5⟩:=hv
  exact ⟨blk,ms,clock,h1,(h blk h2).1,by rw [(h blk h2).2];exact h3,h4,bt.mono h ag es _ h5⟩
theorem aY.mono {w w':World} {ok ok':Nat→Prop} (h:jg w w' ok ok') (blk:Nat) (hb:∀off,w'.cell? ⟨blk,off,none⟩=w.cell? ⟨blk,off,none⟩):∀(xs:List D) (off:Nat),aY w ok blk xs off→aY w' ok' blk xs off
 |[],_,_=>by simp [aY]
 |x::xs,off,hv=>by
  simp only [aY] at hv ⊢
  obtain ⟨⟨u,h1,h2⟩,h3⟩:=hv
  exact ⟨⟨u,by rw [hb];exact h1,aL.mono h x u h2⟩,aY.mono h blk hb xs _ h3⟩
theorem ay.mono {w w':World} {ok ok':Nat→Prop} (h:jg w w' ok ok') (blk sz:Nat) (hb:∀off,w'.cell? ⟨blk,off,none⟩=w.cell? ⟨blk,off,none⟩):∀(rs:List (List D)) (off:Nat),ay w ok blk sz rs off→ay w' ok' blk sz rs off
 |[],_,_=>by simp [ay]
 |r::rs,off,hv=>by
  simp only [ay] at hv ⊢
  exact ⟨hv.1,aY.mono h blk hb r _ hv.2.1,ay.mono h blk sz hb rs _ hv.2.2⟩
theorem bt.mono {w w':World} {ok ok':Nat→Prop} (h:jg w w' ok ok') (ag:Bool):∀(rs:List (List D)) (ms:List MapEntry),bt w ok ag rs ms→bt w' ok' ag rs ms
 |[],_,hv=>by simpa [bt] using hv
 |r::rs,ms,hv=>by
  simp only [bt] at hv ⊢
  obtain ⟨m,Fc,h1,h2,h3⟩:=hv
  exact ⟨m,Fc,h1,ia.mono h ag r m h2,bt.mono h ag rs Fc h3⟩
theorem ia.mono {w w':World} {ok ok':Nat→Prop} (h:jg w w' ok ok') (ag:Bool):∀(r:List D) (m:MapEntry),ia w ok ag r m→ia w' ok' ag r m
 |[],_,hv=>by simp [ia] at hv
 |k::ds,m,hv=>by
  simp only [ia] at hv ⊢
  obtain ⟨h1,cs,h2,h3,h4⟩:=hv
  exact ⟨aL.mono h k _ h1,cs,h2,h3,cN.mono h ds cs h4⟩
theorem cN.mono {w w':World} {ok ok':Nat→Prop} (h:jg w w' ok ok'):∀(ds:List D) (vs:List Value),cN w ok ds vs→cN w' ok' ds vs
 |[],_,hv=>by simpa [cN] using hv
 |d::ds,vs,hv=>by
  simp only [cN] at hv ⊢
  obtain ⟨v,r,h1,h2,h3⟩:=hv
  exact ⟨v,r,h1,aL.mono h d v h2,cN.mono h ds r h3⟩
end
def bp (β:Nat→Nat) (bx:List aA) (w:World) (X:Nat→Prop) (blk:Nat):Prop:=
 blk<w.heap.size∧¬X blk∧∀i b,bx[i]?=some b→b.live=true→β i≠blk
def zB (f:Nat):List Value→Value
 |.tuple fs::vs=>.func (.func f) fs ⟨vs⟩
 |vs=>.func (.func f) #[] ⟨vs⟩
theorem Fm (f:Nat) (vs:List Value):∃a b,zB f vs=.func (.func f) a b:=by unfold zB;split<;>exact ⟨_,_,rfl⟩
mutual
def ak (β:Nat→Nat) (bx:List aA) (w:World) (ok:Nat→Prop):AV→Value→Prop
 |.any,_=>True
 |.d x,v=>aL w ok x v
 |.k c,v=>v=c.val
 |.agg cs,v=>∃vs,v=.agg ⟨vs⟩∧an β bx w ok cs vs
 |.eA cs,v=>∃vs,v=.tuple ⟨vs⟩∧an β bx w ok cs vs
 |.ptr b off,v=>v=.pointer (some ⟨β b,off,none⟩)∧cj bx b
 |.rp b sz i j,v=>v=.pointer (some ⟨β b,i*sz+j,none⟩)∧cj bx b
 |.ep ds,v=>∃blk off,v=.pointer (some ⟨blk,off,none⟩)∧ok blk∧aY w ok blk ds off
 |.ow b sz n,v=>cj bx b∧((n=0∧∃base,v=.slice base 0 0)∨
  (n≠0∧∃cap c e f,v=.slice (some ⟨β b,0,none⟩) n cap∧n≤cap∧w.heap[β b]?=some (.cells c e f)∧cap*sz≤c.size))
 |.cl es,v=>∃base,v=.slice base es.length es.length∧(es=[]∨∃blk off sz,base=some ⟨blk,off,none⟩∧ok blk∧ay w ok blk sz es off)
 |.fn f jV,v=>∃vs,v=zB f vs∧an β bx w ok jV vs
 |.rY t x,v=>∃u,v=.iface t u∧ak β bx w ok x u
 |.cond p x,v=>(p=true→ak β bx w ok x v)∧(p=false→v=undef)
 |.vw b sz off n c ex,v=>cj bx b∧∃base cap cs e f,v=.slice base n cap∧n≤cap∧c≤cap∧(ex=true→cap=c)∧(cap=0∨base=some ⟨β b,off*sz,none⟩∧w.heap[β b]?=some (.cells cs e f)∧(off+cap)*sz≤cs.size)
 |.BJ b,v=>v=.map (some (β b))∧cj bx b
def an (β:Nat→Nat) (bx:List aA) (w:World) (ok:Nat→Prop):List AV→List Value→Prop
 |[],vs=>vs=[]
 |x::xs,vs=>∃u us,vs=u::us∧ak β bx w ok x u∧an β bx w ok xs us
end
def dz (β:Nat→Nat) (bx:List aA) (w:World) (ok:Nat→Prop):aA→Nat→Prop
 |.var cs,blk=>∃c e,w.heap[blk]?=some (.cells c e (0,0))∧an β bx w ok cs c.toList
 |.row sz es,blk=>es=[]∨∃c e,w.heap[blk]?=some (.cells c e (0,0))∧ay w ok blk sz es 0
 |.kI sz es,blk=>es=[]∨(ok blk∧ay w ok blk sz es 0)
 |.it s pos,blk=>w.heap[blk]?=some (.stringIter ⟨s.toArray⟩ pos)
 |.mp ag es,blk=>∃ms clock,w.heap[blk]?=some (.map ms clock)∧lZ ms clock∧bt w ok ag es ms.toList
 |.dead,_=>True
 |.bw,_=>True
structure cP (G:Nat→Option (List D)) (β:Nat→Nat) (bx:List aA) (w:World) (X:Nat→Prop):Prop where
 xs:∀blk,X blk→blk<w.heap.size
 yH:∀g ds,G g=some ds→bp β bx w X g∧aY w (bp β bx w X) g ds 0
 inj:∀i j bi bj,bx[i]?=some bi→bx[j]?=some bj→bi.live=true→bj.live=true→β i=β j→i=j
 box:∀i b,bx[i]?=some b→dz β bx w (bp β bx w X) b (β i)
 apart:∀i b,bx[i]?=some b→b.live=true→¬X (β i)
structure Ext (β:Nat→Nat) (bx:List aA) (w:World) (β':Nat→Nat) (aU:List aA) (w':World):Prop where
 os:w'.os=w.os
 tape:w'.tape=w.tape
 output:w'.output=w.output
 size:w.heap.size≤w'.heap.size
 block:∀k,k<w.heap.size→(∀i b,bx[i]?=some b→b.live=true→β i≠k)→w'.heap[k]?=w.heap[k]?
 shape:∀(k:Nat) (c:Array Value) (e:TypeId) (f:Nat×Nat),w.heap[k]?=some (.cells c e f)→∃c',w'.heap[k]?=some (.cells c' e f)∧c'.size=c.size
 born:∀i,cj bx i→β' i=β i∧cj aU i
 live:∀i b,aU[i]?=some b→b.live=true→w.heap.size≤β' i∨∃j b',bx[j]?=some b'∧b'.live=true∧β j=β' i
theorem Ext.refl (β:Nat→Nat) (bx:List aA) (w:World):Ext β bx w β bx w:=
 ⟨rfl,rfl,rfl,Nat.le_refl _,fun _ _ _=>rfl,fun _ c _ _ h=>⟨c,h,rfl⟩,fun _ h=>⟨rfl,h⟩,fun i b h1 h2=>.inr ⟨i,b,h1,h2,rfl⟩⟩
theorem rE {b:aA} (h:b.live=true):b.born=true:=by cases b<;>simp_all [aA.live,aA.born]
theorem Ext.trans {β β' β'':Nat→Nat} {bx aU Og:List aA} {w w' w'':World} (h:Ext β bx w β' aU w') (g:Ext β' aU w' β'' Og w''):Ext β bx w β'' Og w'':=by
 refine ⟨g.os.trans h.os,g.tape.trans h.tape,g.output.trans h.output,Nat.le_trans h.size g.size,?_,?_,?_,?_⟩
 ·intro k hk hl
  rw [g.block k (Nat.lt_of_lt_of_le hk h.size),h.block k hk hl]
  intro i b hb hlv he
  rcases h.live i b hb hlv with h1|⟨j,b',h1,h2,h3⟩
  ·omega
  exact hl j b' h1 h2 (h3.trans he)
 ·intro k c e f hk
  obtain ⟨c',h1,h2⟩:=h.shape k c e f hk
  obtain ⟨c'',h3,h4⟩:=g.shape k c' e f h1
  exact ⟨c'',h3,h4.trans h2⟩
 ·intro i hi
  obtain ⟨h1,h2⟩:=h.born i hi
  obtain ⟨h3,h4⟩:=g.born i h2
  exact ⟨h3.trans h1,h4⟩
 intro i b hb hlv
 rcases g.live i b hb hlv with h1|⟨j,b',h1,h2,h3⟩
 ·exact .inl (Nat.le_trans h.size h1)
 rcases h.live j b' h1 h2 with h4|⟨k,b'',h4,h5,h6⟩
 ·exact .inl (by omega)
 exact .inr ⟨k,b'',h4,h5,h6.trans h3⟩
theorem Ext.keeps {β β':Nat→Nat} {bx aU:List aA} {w w':World} (h:Ext β bx w β' aU w') (X:Nat→Prop):
 jg w w' (bp β bx w X) (bp β' aU w' X):=by
 rintro blk ⟨h1,h2,h3⟩
 refine ⟨⟨Nat.lt_of_lt_of_le h1 h.size,h2,?_⟩,h.block blk h1 h3⟩
 intro i b hb hlv he
 rcases h.live i b hb hlv with h4|⟨j,b',h4,h5,h6⟩
 ·omega
 exact h3 j b' h4 h5 (h6.trans he)
structure sw (β:Nat→Nat) (bx:List aA) (w:World) (ok:Nat→Prop) (β':Nat→Nat) (aU:List aA) (w':World) (ok':Nat→Prop):Prop where
 keeps:jg w w' ok ok'
 born:∀i,cj bx i→β' i=β i∧cj aU i
 shape:∀(k:Nat) (c:Array Value) (e:TypeId) (f:Nat×Nat),w.heap[k]?=some (.cells c e f)→∃c',w'.heap[k]?=some (.cells c' e f)∧c'.size=c.size
theorem Ext.eX {β β':Nat→Nat} {bx aU:List aA} {w w':World} (h:Ext β bx w β' aU w') (X:Nat→Prop):
 sw β bx w (bp β bx w X) β' aU w' (bp β' aU w' X):=⟨h.keeps X,h.born,h.shape⟩
mutual
theorem ak.mono {β β':Nat→Nat} {bx aU:List aA} {w w':World} {ok ok':Nat→Prop} (h:sw β bx w ok β' aU w' ok'):
 ∀(x:AV) (v:Value),ak β bx w ok x v→ak β' aU w' ok' x v
 |.any,_,_=>by simp [ak]
 |.d x,v,hv=>by simp only [ak] at hv ⊢;exact aL.mono h.keeps x v hv
 |.k c,v,hv=>by simpa [ak] using hv
 |.agg cs,v,hv=>by simp only [ak] at hv ⊢;obtain ⟨vs,e,g⟩:=hv;exact ⟨vs,e,an.mono h cs vs g⟩
 |.eA cs,v,hv=>by simp only [ak] at hv ⊢;obtain ⟨vs,e,g⟩:=hv;exact ⟨vs,e,an.mono h cs vs g⟩
 |.ptr b off,v,hv=>by simp only [ak] at hv ⊢;obtain ⟨e,g⟩:=hv;exact ⟨by rw [(h.born b g).1];exact e,(h.born b g).2⟩
 |.rp b sz i j,v,hv=>by simp only [ak] at hv ⊢;obtain ⟨e,g⟩:=hv;exact ⟨by rw [(h.born b g).1];exact e,(h.born b g).2⟩
 |.ep ds,v,hv=>by
  simp only [ak] at hv ⊢
  obtain ⟨blk,off,e,g1,g2⟩:=hv
  exact ⟨blk,off,e,(h.keeps blk g1).1,aY.mono h.keeps blk (h.keeps.cell g1) ds off g2⟩
 |.ow b sz n,v,hv=>by
  simp only [ak] at hv ⊢
  obtain ⟨g,hv⟩:=hv
  refine ⟨(h.born b g).2,hv.imp id ?_⟩
  rintro ⟨hn,cap,c,e,f,e1,e2,e3,e4⟩
  obtain ⟨c',e5,e6⟩:=h.shape _ _ _ _ e3
  rw [(h.born b g).1]
  exact ⟨hn,cap,c',e,f,e1,e2,e5,by rw [e6];exact e4⟩
 |.cl es,v,hv=>by
  simp only [ak] at hv ⊢
  obtain ⟨base,e,g⟩:=hv
  refine ⟨base,e,g.imp id ?_⟩
  rintro ⟨blk,off,sz,e1,e2,e3⟩
  exact ⟨blk,off,sz,e1,(h.keeps blk e2).1,ay.mono h.keeps blk sz (h.keeps.cell e2) es off e3⟩
 |.fn f jV,v,hv=>by simp only [ak] at hv ⊢;obtain ⟨vs,e,g⟩:=hv;exact ⟨vs,e,an.mono h jV vs g⟩
 |.rY t x,v,hv=>by simp only [ak] at hv ⊢;obtain ⟨u,e,g⟩:=hv;exact ⟨u,e,ak.mono h x u g⟩
 |.cond p x,v,hv=>by simp only [ak] at hv ⊢;exact ⟨fun hp=>ak.mono h x v (hv.1 hp),hv.2⟩
 |.vw b sz off n c ex,v,hv=>by
  simp only [ak] at hv ⊢
  obtain ⟨g,base,cap,cs,e,f,e1,e2,e3,e4,e5⟩:=hv
  rcases e5 with e5|⟨e5,e6,e7⟩
  ·exact ⟨(h.born b g).2,base,cap,cs,e,f,e1,e2,e3,e4,.inl e5⟩
  obtain ⟨c',k5,k6⟩:=h.shape _ _ _ _ e6
  rw [(h.born b g).1]
  exact ⟨(h.born b g).2,base,cap,c',e,f,e1,e2,e3,e4,.inr ⟨e5,k5,by rw [k6];exact e7⟩⟩
 |.BJ b,v,hv=>by simp only [ak] at hv ⊢;obtain ⟨e,g⟩:=hv;exact ⟨by rw [(h.born b g).1];exact e,(h.born b g).2⟩
theorem an.mono {β β':Nat→Nat} {bx aU:List aA} {w w':World} {ok ok':Nat→Prop} (h:sw β bx w ok β' aU w' ok'):
 ∀(xs:List AV) (vs:List Value),an β bx w ok xs vs→an β' aU w' ok' xs vs
 |[],vs,hv=>by simpa [an] using hv
 |x::xs,vs,hv=>by
  simp only [an] at hv ⊢
  obtain ⟨u,us,e,g1,g2⟩:=hv
  exact ⟨u,us,e,ak.mono h x u g1,an.mono h xs us g2⟩
end
theorem an.length {β:Nat→Nat} {bx:List aA} {w:World} {ok:Nat→Prop}:∀{xs:List AV} {vs:List Value},an β bx w ok xs vs→vs.length=xs.length
 |[],vs,h=>by simp only [an] at h;simp [h]
 |x::xs,vs,h=>by simp only [an] at h;obtain ⟨u,us,rfl,_,g⟩:=h;simp [an.length g]
theorem an.get {β:Nat→Nat} {bx:List aA} {w:World} {ok:Nat→Prop}:∀{xs:List AV} {vs:List Value} (i:Nat) (x:AV),an β bx w ok xs vs→xs[i]?=some x→∃v,vs[i]?=some v∧ak β bx w ok x v
 |[],_,i,x,_,hx=>by simp at hx
 |y::ys,vs,i,x,h,hx=>by
  simp only [an] at h
  obtain ⟨u,us,rfl,g1,g2⟩:=h
  cases i with
  |zero=>simp at hx;subst hx;exact ⟨u,by simp,g1⟩
  |succ i=>simp at hx;obtain ⟨v,h1,h2⟩:=an.get i x g2 hx;exact ⟨v,by simpa using h1,h2⟩
theorem an.drop {β:Nat→Nat} {bx:List aA} {w:World} {ok:Nat→Prop}:∀(n:Nat) {xs:List AV} {vs:List Value},an β bx w ok xs vs→an β bx w ok (xs.drop n) (vs.drop n)
 |0,xs,vs,h=>by simpa using h
 |n+1,[],vs,h=>by simp only [an] at h;subst h;simp [an]
 |n+1,x::xs,vs,h=>by
  simp only [an] at h
  obtain ⟨u,us,rfl,_,g2⟩:=h
  simpa using an.drop n g2
theorem an.take {β:Nat→Nat} {bx:List aA} {w:World} {ok:Nat→Prop}:∀(n:Nat) {xs:List AV} {vs:List Value},an β bx w ok xs vs→an β bx w ok (xs.take n) (vs.take n)
 |0,xs,vs,h=>by simp [an]
 |n+1,[],vs,h=>by simp only [an] at h;subst h;simp [an]
 |n+1,x::xs,vs,h=>by
  simp only [an] at h
  obtain ⟨u,us,rfl,g1,g2⟩:=h
  simp only [List.take_succ_cons,an]
  exact ⟨u,_,rfl,g1,an.take n g2⟩
theorem an.append {β:Nat→Nat} {bx:List aA} {w:World} {ok:Nat→Prop}:∀{xs ys:List AV} {vs us:List Value},an β bx w ok xs vs→an β bx w ok ys us→an β bx w ok (xs++ys) (vs++us)
 |[],ys,vs,us,h,g=>by simp only [an] at h;subst h;simpa using g
 |x::xs,ys,vs,us,h,g=>by
  simp only [an] at h
  obtain ⟨u,Oh,rfl,g1,g2⟩:=h
  simp only [List.cons_append,an]
  exact ⟨u,_,rfl,g1,an.append g2 g⟩
def bf:List Value→Nat→List Value→List Value
 |cs,_,[]=>cs
 |[],_,_::_=>[]
 |_::cs,0,v::vs=>v::bf cs 0 vs
 |c::cs,n+1,v::vs=>c::bf cs n (v::vs)
theorem an.eN {β:Nat→Nat} {bx:List aA} {w:World} {ok:Nat→Prop}:∀{xs:List AV} {vs:List Value} (n:Nat) {ys:List AV} {us:List Value},an β bx w ok xs vs→an β bx w ok ys us→
 an β bx w ok (Dem.eN xs n ys) (bf vs n us)
 |xs,vs,n,[],us,h,g=>by
  simp only [an] at g;subst g
  cases xs<;>cases vs<;>simpa [Dem.eN,bf] using h
 |[],vs,n,y::ys,us,h,g=>by
  simp only [an] at h g;obtain ⟨u,Oh,rfl,_,_⟩:=g;subst h
  simp [Dem.eN,bf,an]
 |x::xs,vs,0,y::ys,us,h,g=>by
  simp only [an] at h g
  obtain ⟨u,Oh,rfl,g1,g2⟩:=g
  obtain ⟨v,vs',rfl,h1,h2⟩:=h
  simp only [Dem.eN,bf,an]
  exact ⟨u,_,rfl,g1,an.eN 0 h2 g2⟩
 |x::xs,vs,n+1,y::ys,us,h,g=>by
  simp only [an] at h
  obtain ⟨v,vs',rfl,h1,h2⟩:=h
  have g0:=g
  simp only [an] at g
  obtain ⟨u,Oh,rfl,g1,g2⟩:=g
  simp only [Dem.eN,bf,an]
  exact ⟨v,_,rfl,h1,an.eN n h2 g0⟩
theorem dz.mono {β β':Nat→Nat} {bx aU:List aA} {w w':World} {ok ok':Nat→Prop} (h:sw β bx w ok β' aU w' ok') {b:aA} {blk:Nat}
 (hl:b.live=true→w'.heap[blk]?=w.heap[blk]?) (hb:dz β bx w ok b blk):dz β' aU w' ok' b blk:=by
 cases b with
 |var cs=>
  obtain ⟨c,e,h1,h2⟩:=hb
  exact ⟨c,e,by rw [hl rfl];exact h1,an.mono h _ _ h2⟩
 |row sz es=>
  cases es with
  |nil=>exact .inl rfl
  |cons r rs=>
   rcases hb with hb|⟨c,e,h1,h2⟩
   ·exact .inl hb
   exact .inr ⟨c,e,by rw [hl rfl];exact h1,ay.mono h.keeps blk sz (fun off=>nw (hl rfl) off _) _ _ h2⟩
 |kI sz es=>
  rcases hb with hb|⟨h1,h2⟩
  ·exact .inl hb
  exact .inr ⟨(h.keeps blk h1).1,ay.mono h.keeps blk sz (h.keeps.cell h1) _ _ h2⟩
 |it s pos=>simp only [dz] at hb ⊢;rw [hl rfl];exact hb
 |mp ag es=>
  obtain ⟨ms,clock,h1,h2,h3⟩:=hb
  exact ⟨ms,clock,by rw [hl rfl];exact h1,h2,bt.mono h.keeps ag es _ h3⟩
 |dead=>trivial
 |bw=>trivial
theorem cP.step {G:Nat→Option (List D)} {β β':Nat→Nat} {bx aU:List aA} {w w':World} {X:Nat→Prop} (cx:cP G β bx w X) (ex:Ext β bx w β' aU w')
 (Zb:∀i b,aU[i]?=some b→(bx[i]?=some b∧(b.live=true→w'.heap[β i]?=w.heap[β i]?))∨dz β' aU w' (bp β' aU w' X) b (β' i))
 (hinj:∀i j bi bj,aU[i]?=some bi→aU[j]?=some bj→bi.live=true→bj.live=true→β' i=β' j→i=j):cP G β' aU w' X:=by
 refine ⟨fun blk hb=>Nat.lt_of_lt_of_le (cx.xs blk hb) ex.size,?_,hinj,?_,?_⟩
 ·intro g ds hg
  obtain ⟨h1,h2⟩:=cx.yH g ds hg
  exact ⟨(ex.keeps X g h1).1,aY.mono (ex.keeps X) g ((ex.keeps X).cell h1) _ _ h2⟩
 ·intro i b hb
  rcases Zb i b hb with ⟨h1,h2⟩|h
  ·by_cases dW:b.born=true
   ·rw [(ex.born i ⟨b,h1,dW⟩).1]
    exact dz.mono (ex.eX X) h2 (cx.box i b h1)
   cases b<;>simp_all [aA.born,dz]
  exact h
 intro i b hb hl hX
 rcases ex.live i b hb hl with h|⟨j,b',h1,h2,h3⟩
 ·have:=cx.xs _ hX;omega
 exact cx.apart j b' h1 h2 (h3▸hX)
structure DR (w w':World):Prop where
 heap:w'.heap=w.heap
 os:w'.os=w.os
 tape:w'.tape=w.tape
 output:w'.output=w.output
theorem jh {β:Nat→Nat} {bx:List aA} {w w':World} (h:DR w w'):Ext β bx w β bx w':=
 ⟨h.os,h.tape,h.output,by rw [h.heap];exact Nat.le_refl _,fun k _ _=>by rw [h.heap],fun k c e f hk=>⟨c,by rw [h.heap];exact hk,rfl⟩,fun i hi=>⟨rfl,hi⟩,fun i b h1 h2=>.inr ⟨i,b,h1,h2,rfl⟩⟩
theorem pS {G:Nat→Option (List D)} {β:Nat→Nat} {bx:List aA} {w w':World} {X:Nat→Prop} (cx:cP G β bx w X) (h:DR w w'):cP G β bx w' X:=
 cx.step (jh h) (fun i b hb=>.inl ⟨hb,fun _=>by rw [h.heap]⟩) cx.inj
theorem fy (w:World):DR w {w with drawn:=w.drawn+1}:=⟨rfl,rfl,rfl,rfl⟩
theorem jk (w:World) (o:Obj) (k:Nat) (h:k<w.heap.size):({w with heap:=w.heap.push o}:World).heap[k]?=w.heap[k]?:=by
 show (w.heap.push o)[k]?=_
 rw [Array.getElem?_push,if_neg (by omega)]
theorem jv (w:World) (o:Obj):({w with heap:=w.heap.push o}:World).heap[w.heap.size]?=some o:=by
 show (w.heap.push o)[w.heap.size]?=_
 simp
theorem fh {w:World} {k:Nat} {o:Obj} (h:w.heap[k]?=some o):k<w.heap.size:=by
 rcases Nat.lt_or_ge k w.heap.size with h'|h'
 ·exact h'
 simp [Array.getElem?_eq_none h'] at h
theorem um {β:Nat→Nat} {bx:List aA} {w:World} (o:Obj):Ext β bx w β bx {w with heap:=w.heap.push o}:=by
 refine ⟨rfl,rfl,rfl,by simp,fun k hk _=>jk w o k hk,fun k c e f hk=>⟨c,?_,rfl⟩,fun i hi=>⟨rfl,hi⟩,fun i b h1 h2=>.inr ⟨i,b,h1,h2,rfl⟩⟩
 rw [jk w o k (fh hk)];exact hk
theorem dz.fJ {β:Nat→Nat} {bx:List aA} {w:World} {ok:Nat→Prop} {b:aA} {blk:Nat} (h:dz β bx w ok b blk) (hl:b.live=true):blk<w.heap.size:=by
 cases b with
 |var cs=>obtain ⟨c,e,h1,_⟩:=h;exact fh h1
 |row sz es=>
  cases es with
  |nil=>simp [aA.live] at hl
  |cons r rs=>
   rcases h with h|⟨c,e,h1,_⟩;· simp at h
   exact fh h1
 |it s pos=>exact fh h
 |mp ag es=>obtain ⟨ms,clock,h1,_⟩:=h;exact fh h1
 |kI _ _=>simp [aA.live] at hl
 |dead=>simp [aA.live] at hl
 |bw=>simp [aA.live] at hl
theorem Fo {G:Nat→Option (List D)} {β:Nat→Nat} {bx:List aA} {w:World} {X:Nat→Prop} (cx:cP G β bx w X) (o:Obj):cP G β bx {w with heap:=w.heap.push o} X:=
 cx.step (um o) (fun i b hb=>.inl ⟨hb,fun hl=>jk w o _ ((cx.box i b hb).fJ hl)⟩) cx.inj
def lg (β:Nat→Nat) (i blk:Nat):Nat→Nat:=fun j=>if j=i then blk else β j
theorem bu (β:Nat→Nat) (i blk:Nat):lg β i blk i=blk:=by simp [lg]
theorem dm (β:Nat→Nat) {i j:Nat} (blk:Nat) (h:j≠i):lg β i blk j=β j:=by simp [lg,h]
theorem eJ {bx:List aA} {B:aA} {i:Nat} {b:aA} (h:bx[i]?=some b):(bx++[B])[i]?=some b:=by
 have:i<bx.length:=by
  rcases Nat.lt_or_ge i bx.length with h'|h';· exact h'
  simp [List.getElem?_eq_none h'] at h
 rw [List.getElem?_append_left this];exact h
theorem bz {bx:List aA} {B:aA} {i:Nat} {b:aA} (h:(bx++[B])[i]?=some b):(bx[i]?=some b∧i<bx.length)∨(i=bx.length∧b=B):=by
 rcases Nat.lt_or_ge i bx.length with h'|h'
 ·rw [List.getElem?_append_left h'] at h;exact .inl ⟨h,h'⟩
 rw [List.getElem?_append_right h'] at h
 by_cases hi:i=bx.length
 ·subst hi;simp at h;exact .inr ⟨rfl,h.symm⟩
 simp [show i-bx.length≠0 by omega] at h
theorem fZ {β:Nat→Nat} {bx:List aA} {w:World} (o:Obj) (B:aA):Ext β bx w (lg β bx.length w.heap.size) (bx++[B]) {w with heap:=w.heap.push o}:=by
 refine ⟨rfl,rfl,rfl,by simp,fun k hk _=>jk w o k hk,fun k c e f hk=>⟨c,?_,rfl⟩,?_,?_⟩
 ·rw [jk w o k (fh hk)];exact hk
 ·rintro i ⟨b,h1,h2⟩
  have:i<bx.length:=by
   rcases Nat.lt_or_ge i bx.length with h'|h';· exact h'
   simp [List.getElem?_eq_none h'] at h1
  exact ⟨dm _ _ (by omega),b,eJ h1,h2⟩
 intro i b h1 h2
 rcases bz h1 with ⟨h3,h4⟩|⟨rfl,rfl⟩
 ·exact .inr ⟨i,b,h3,h2,(dm _ _ (by omega)).symm⟩
 exact .inl (by rw [bu];exact Nat.le_refl _)
theorem kK {G:Nat→Option (List D)} {β:Nat→Nat} {bx:List aA} {w:World} {X:Nat→Prop} (cx:cP G β bx w X) (o:Obj) (B:aA)
 (hB:dz (lg β bx.length w.heap.size) (bx++[B]) {w with heap:=w.heap.push o} (bp (lg β bx.length w.heap.size) (bx++[B]) {w with heap:=w.heap.push o} X) B w.heap.size):
 cP G (lg β bx.length w.heap.size) (bx++[B]) {w with heap:=w.heap.push o} X:=by
 refine cx.step (fZ o B) ?_ ?_
 ·intro i b hb
  rcases bz hb with ⟨h3,h4⟩|⟨rfl,rfl⟩
  ·exact .inl ⟨h3,fun hl=>jk w o _ ((cx.box i b h3).fJ hl)⟩
  exact .inr (by rw [bu];exact hB)
 intro i j bi bj h1 h2 l1 l2 he
 rcases bz h1 with ⟨h3,h4⟩|⟨rfl,rfl⟩<;>rcases bz h2 with ⟨h5,h6⟩|⟨rfl,rfl⟩
 ·rw [dm _ _ (by omega),dm _ _ (by omega)] at he
  exact cx.inj i j bi bj h3 h5 l1 l2 he
 ·rw [dm _ _ (by omega),bu] at he
  have:=(cx.box i bi h3).fJ l1;omega
 ·rw [bu,dm _ _ (by omega)] at he
  have:=(cx.box j bj h5).fJ l2;omega
 rfl
end Dem
end
section
open Go
namespace Dem
structure kD (P:Program) (T:Nat→Option TI):Prop where
 ti:∀t ti,T t=some ti→pF P t=some ti
 fields:∀t ti fs,T t=some ti→ti.kd=.struct fs→∀f∈fs,∃tf,T f.2=some tf
 deep:8≤P.depth
theorem aJ {P:Program} {t:Nat} {ti:TI} (h:pF P t=some ti):
 ∃i d,P.info? t=some i∧P.underlying t=some d∧ti.size=i.size∧ti.bytes=i.bytes∧ti.kd=cY d∧ti.zero=(match i.zero with|some z=>RC z|none=>.any):=by
 unfold pF at h
 split at h
 ·rename_i i d h1 h2
  simp at h;subst h
  exact ⟨i,d,h1,h2,rfl,rfl,rfl,rfl⟩
 simp at h
theorem Mi {P:Program} {t:Nat} {ti:TI} (h:pF P t=some ti) {nm:String} {f:Nat} (hi:ti.inv=some (nm,f)):
 ∃i d,P.info? t=some i∧P.underlying t=some d∧(∀e,d≠.pointer e)∧∃m,i.methods.find? (fun m=>m.name==nm)=some m∧m.path.toList=[]∧m.func=some (f,false):=by
 unfold pF at h
 split at h
 ·rename_i i d h1 h2
  simp only [osI] at h;subst h
  simp only at hi
  cases hp:(cY d).plain with
  |false=>simp [hp] at hi
  |true=>
  simp only [hp,cond_true] at hi
  refine ⟨i,d,h1,h2,fun e he=>by subst he;simp [cY,Kd.plain] at hp,?_⟩
  unfold TR at hi
  obtain ⟨WG,hn,hi⟩:=List.exists_of_findSome?_eq_some hi
  split at hi
  ·rename_i a b path g hm
   cases he:path.toList.isEmpty with
   |false=>simp [he] at hi
   |true=>
   simp only [he,cond_true,osI,Prod.mk.injEq] at hi
   obtain ⟨rfl,rfl⟩:=hi
   exact ⟨_,by rw [←Array.find?_toList];exact hm,by simpa using he,rfl⟩
  cases hi
 simp at h
theorem RH {P:Program} {t:Nat} {ti:TI} (h:pF P t=some ti) {d:TypeDesc} (hd:P.underlying t=some d):ti.eq=N7 P t d:=by
 unfold pF at h
 split at h
 ·rename_i i d' h1 h2
  rw [hd] at h2
  simp at h;subst h
  simp only [osI] at h2;subst h2;rfl
 simp at h
section
variable {P:Program} {w:World} {t:Nat}
theorem aV {d:TypeDesc} (h:P.underlying t=some d):(underlying t).run P w=.ok d w:=by
 simp [underlying,program,Sem.run,h,Bind.bind,Sem.bind,Pure.pure]
theorem l5 {i:TypeInfo} (h:P.info? t=some i):(typeInfo t).run P w=.ok i w:=by
 simp [typeInfo,program,Sem.run,h,Bind.bind,Sem.bind,Pure.pure]
theorem bX {i:TypeInfo} (h:P.info? t=some i):(Go.sizeOf t).run P w=.ok i.size w:=by
 simp [Go.sizeOf,l5 h]
theorem gJ {i:TypeInfo} {z:Value} (h:P.info? t=some i) (hz:i.zero=some z):(zeroValue t).run P w=.ok z w:=by
 simp [zeroValue,l5 h,hz]
theorem Ct {d:TypeDesc} (h:P.underlying t=some d):(isAgg t).run P w=.ok (cY d).isAgg w:=by
 simp [isAgg,aV h]
 cases d<;>simp [cY,Kd.isAgg]
theorem run_load {a:Addr} {v:Value} (h:w.cell? a=some v):(load a).run P w=.ok v w:=by
 simp [load,Sem.run,h]
end
theorem fM (blk off n:Nat):(⟨blk,off,none⟩:Addr).add n=⟨blk,off+n,none⟩:=by
 unfold Addr.add;split
 ·simp_all
 rfl
theorem run_loadCellsFrom {P:Program} {w:World} {blk off:Nat}:∀(vs:List Value) (i:Nat) (acc:Array Value),(∀j v,vs[j]?=some v→w.cell? ⟨blk,off+i+j,none⟩=some v)→
 (loadCellsFrom ⟨blk,off,none⟩ i vs.length acc).run P w=.ok (acc++vs.toArray) w
 |[],i,acc,_=>by simp [loadCellsFrom]
 |v::vs,i,acc,h=>by
  have h0:=h 0 v rfl
  simp only [List.length_cons,loadCellsFrom,fM,Sem.run_bind]
  rw [run_load (v:=v) (by simpa using h0)]
  simp only [Result.andThen_ok]
  rw [run_loadCellsFrom vs (i+1) (acc.push v) (fun j u hj=>by have:=h (j+1) u (by simpa using hj);rwa [show off+i+(j+1)=off+(i+1)+j by omega] at this)]
  simp
theorem run_loadCells {P:Program} {w:World} {blk off:Nat} (vs:List Value) (h:∀j v,vs[j]?=some v→w.cell? ⟨blk,off+j,none⟩=some v):
 (loadCells ⟨blk,off,none⟩ vs.length).run P w=.ok vs.toArray w:=by
 have:=run_loadCellsFrom (P:=P) vs 0 #[] (w:=w) (blk:=blk) (off:=off) (by simpa using h)
 simpa [loadCells] using this
def dH (G:Nat→Option (List D)) (β:Nat→Nat) (bx:List aA) (w:World) (X:Nat→Prop) (r:Result Next) (v:AV) (aU:List aA):Prop:=
 ∃β' w',Ext β bx w β' aU w'∧cP G β' aU w' X∧
  ((∃u,r=.ok (.value u) w'∧ak β' aU w' (bp β' aU w' X) v u)∨(r=.ok .skip w'∧v=.any))
section
variable {P:Program} {T:Nat→Option TI} {G:Nat→Option (List D)} {β:Nat→Nat} {bx:List aA} {w:World} {X:Nat→Prop}
theorem dH.pure {r:Result Next} {v:AV} {u:Value} (cx:cP G β bx w X) (hr:r=.ok (.value u) w) (h:ak β bx w (bp β bx w X) v u):dH G β bx w X r v bx:=
 ⟨β,w,Ext.refl _ _ _,cx,.inl ⟨u,hr,h⟩⟩
theorem rF {ok:Nat→Prop} {blk:Nat}:∀(ds:List D) (off:Nat),aY w ok blk ds off→∃vs,vs.length=ds.length∧(∀j v,vs[j]?=some v→w.cell? ⟨blk,off+j,none⟩=some v)∧
 an β bx w ok (ds.map .d) vs
 |[],off,_=>⟨[],rfl,by simp,by simp [an]⟩
 |x::xs,off,h=>by
  simp only [aY] at h
  obtain ⟨⟨u,h1,h2⟩,h3⟩:=h
  obtain ⟨vs,g1,g2,g3⟩:=rF xs (off+1) h3
  refine ⟨u::vs,by simp [g1],?_,?_⟩
  ·intro j v hj
   cases j with
   |zero=>simp at hj;subst hj;simpa using h1
   |succ j=>have:=g2 j v (by simpa using hj);rwa [show off+(j+1)=off+1+j by omega]
  simp only [List.map_cons,an,ak];exact ⟨u,vs,rfl,h2,g3⟩
theorem aY.drop {ok:Nat→Prop} {blk:Nat}:∀(n:Nat) (ds:List D) (off:Nat),aY w ok blk ds off→aY w ok blk (ds.drop n) (off+n)
 |0,ds,off,h=>by simpa using h
 |n+1,[],off,h=>by simp [aY]
 |n+1,x::xs,off,h=>by
  simp only [aY] at h
  have:=aY.drop n xs (off+1) h.2
  simpa [show off+(n+1)=off+1+n by omega] using this
theorem aY.take {ok:Nat→Prop} {blk:Nat}:∀(n:Nat) (ds:List D) (off:Nat),aY w ok blk ds off→aY w ok blk (ds.take n) off
 |0,ds,off,h=>by simp [aY]
 |n+1,[],off,h=>by simp [aY]
 |n+1,x::xs,off,h=>by
  simp only [aY] at h
  simp only [List.take_succ_cons,aY]
  exact ⟨h.1,aY.take n xs _ h.2⟩
theorem ay.get {ok:Nat→Prop} {blk sz:Nat}:∀(i:Nat) (es:List (List D)) (off:Nat),ay w ok blk sz es off→i<es.length→(es.getD i []).length=sz∧aY w ok blk (es.getD i []) (off+i*sz)
 |_,[],_,_,hi=>by simp at hi
 |0,r::rs,off,h,_=>by simp only [ay] at h;simpa using ⟨h.1,h.2.1⟩
 |i+1,r::rs,off,h,hi=>by
  simp only [ay] at h
  have:=ay.get i rs (off+sz) h.2.2 (by simpa using hi)
  simpa [Nat.add_mul,show off+sz+i*sz=off+(i*sz+sz) by omega] using this
theorem sU {ti:TI} {t:Nat} (ht:pF P t=some ti) {cs:List AV} {v:AV} {vs:List Value} {blk off:Nat} {ok:Nat→Prop}
 (hs:cR ti.kd.isAgg ti.size cs=some v) (hr:an β bx w ok cs vs) (hc:∀j v,vs[j]?=some v→w.cell? ⟨blk,off+j,none⟩=some v):
 ∃u,(loadVar t ⟨blk,off,none⟩).run P w=.ok u w∧ak β bx w ok v u:=by
 obtain ⟨i,d,h1,h2,h3,h4,h5,h6⟩:=aJ ht
 unfold cR at hs
 simp only [loadVar,Sem.run_bind,Ct h2,Result.andThen_ok,h5] at hs ⊢
 cases hk:(cY d).isAgg with
 |true=>
  simp only [hk,cond_true] at hs
  cases hle:Nat.ble ti.size cs.length with
  |false=>simp [hle] at hs
  |true=>
   simp only [hle,cond_true,osI] at hs
   subst hs
   have hlen:=an.length hr
   have hle':ti.size≤cs.length:=Nat.le_of_ble_eq_true hle
   have:=run_loadCells (P:=P) (w:=w) (blk:=blk) (off:=off) (vs.take ti.size) (fun j v hj=>by
    rw [List.getElem?_take] at hj
    split at hj
    ·exact hc j v hj
    simp at hj)
   rw [List.length_take,Nat.min_eq_left (by omega)] at this
   simp only [if_true,Sem.run_bind,bX h1,Result.andThen_ok,←h3,this]
   exact ⟨_,rfl,by simp only [ak];exact ⟨_,rfl,an.take _ hr⟩⟩
 |false=>
  simp only [hk,cond_false] at hs
  cases cs with
  |nil=>simp at hs
  |cons c cs=>
   simp at hs;subst hs
   simp only [an] at hr
   obtain ⟨u,us,rfl,g1,_⟩:=hr
   have:=hc 0 u rfl
   simp only [Bool.false_eq_true,if_false]
   exact ⟨u,run_load (by simpa using this),g1⟩
theorem zC (hT:kD P T) (cx:cP G β bx w X) {t:Nat} {ti:TI} (ht:T t=some ti) {a:AV} {u:Value} (ha:ak β bx w (bp β bx w X) a u)
 {c:Prop} {v:AV} {b:Option (List aA)} (hr:o9 ti a bx=some ⟨c,v,b⟩) (hc:c):
 b=none∧∃x,(Instr.loadAt t u).run P w=.ok x w∧ak β bx w (bp β bx w X) v x:=by
 have ht':=hT.ti t ti ht
 unfold o9 at hr
 split at hr
 ·rename_i b' off
  simp only [ak] at ha
  obtain ⟨rfl,hb⟩:=ha
  split at hr
  ·rename_i cs rG
   split at hr
   ·rename_i v' hs
    simp only [R.pure,osI,R.mk.injEq] at hr
    obtain ⟨_,rfl,rfl⟩:=hr
    obtain ⟨ca,e,h1,h2⟩:=cx.box _ _ rG
    have h3:=an.drop off h2
    obtain ⟨x,g1,g2⟩:=sU (P:=P) (w:=w) (blk:=β b') (off:=off) ht' hs h3 (fun j v hj=>by
     rw [List.getElem?_drop] at hj
     simp only [World.cell?,h1]
     simpa using hj)
    exact ⟨rfl,x,by simpa [Instr.loadAt,Instr.sureAddr] using g1,g2⟩
   simp at hr
  simp at hr
 ·rename_i ds
  simp only [ak] at ha
  obtain ⟨blk,off,rfl,hb,hrow⟩:=ha
  split at hr
  ·rename_i v' hs
   simp only [R.pure,osI,R.mk.injEq] at hr
   obtain ⟨_,rfl,rfl⟩:=hr
   obtain ⟨vs,g1,g2,g3⟩:=rF (β:=β) (bx:=bx) ds off hrow
   obtain ⟨x,k1,k2⟩:=sU (P:=P) (w:=w) (blk:=blk) (off:=off) ht' hs g3 g2
   exact ⟨rfl,x,by simpa [Instr.loadAt,Instr.sureAddr] using k1,k2⟩
  simp at hr
 ·rename_i b' sz i j
  simp only [ak] at ha
  obtain ⟨rfl,hb⟩:=ha
  have main:∀(s:Nat) (es:List (List D)),i<es.length→s=sz→ay w (bp β bx w X) (β b') s es 0→∀v',cR ti.kd.isAgg ti.size (List.map AV.d ((es.getD i []).drop j))=some v'→
   ∃x,(Instr.loadAt t (.pointer (some ⟨β b',i*sz+j,none⟩))).run P w=.ok x w∧ak β bx w (bp β bx w X) v' x:=by
   intro s es hi hs hrows v' hsp
   obtain ⟨_,hrow⟩:=ay.get i es 0 hrows hi
   have hrow:=aY.drop j _ _ hrow
   obtain ⟨vs,g1,g2,g3⟩:=rF (β:=β) (bx:=bx) _ _ hrow
   subst hs
   obtain ⟨x,k1,k2⟩:=sU (P:=P) (w:=w) (blk:=β b') (off:=0+i*s+j) ht' hsp g3 g2
   exact ⟨x,by simpa [Instr.loadAt,Instr.sureAddr] using k1,k2⟩
  split at hr
  ·rename_i s es rG
   split at hr
   ·rename_i v' hsp
    simp only [osI,R.mk.injEq] at hr
    obtain ⟨rfl,rfl,rfl⟩:=hr
    rcases cx.box _ _ rG with h|⟨ca,e,h1,h2⟩
    ·subst h;simp at hc
    exact ⟨rfl,main s es hc.2 hc.1 h2 _ hsp⟩
   simp at hr
  ·rename_i s es rG
   split at hr
   ·rename_i v' hsp
    simp only [osI,R.mk.injEq] at hr
    obtain ⟨rfl,rfl,rfl⟩:=hr
    rcases cx.box _ _ rG with h|⟨h1,h2⟩
    ·subst h;simp at hc
    exact ⟨rfl,main s es hc.2 hc.1 h2 _ hsp⟩
   simp at hr
  simp at hr
 simp at hr
def IA:Value→Prop
 |.agg _=>False
 |.tuple _=>False
 |_=>True
theorem aL.sc {ok:Nat→Prop} {x:D} {v:Value} (h:aL w ok x v):IA v:=by
 cases x<;>simp only [aL] at h
 ·subst h;trivial
 ·subst h;trivial
 ·subst h;trivial
 ·obtain ⟨_,_,rfl,_⟩:=h;trivial
 ·subst h;trivial
 obtain ⟨_,_,_,rfl,_⟩:=h;trivial
theorem ak.sc {ok:Nat→Prop} {x:AV} {v:Value} (hx:x.sc=true) (h:ak β bx w ok x v):IA v:=by
 cases x<;>simp only [AV.sc,Bool.false_eq_true] at hx<;>simp only [ak] at h
 ·exact aL.sc h
 ·rename_i c;subst h;cases c<;>trivial
 ·obtain ⟨rfl,_⟩:=h;trivial
 ·obtain ⟨rfl,_⟩:=h;trivial
 ·obtain ⟨_,_,rfl,_⟩:=h;trivial
 ·obtain ⟨_,h|h⟩:=h
  ·obtain ⟨_,_,rfl⟩:=h;trivial
  obtain ⟨_,_,_,_,_,rfl,_⟩:=h;trivial
 ·obtain ⟨_,rfl,_⟩:=h;trivial
 ·obtain ⟨vs,rfl,_⟩:=h;obtain ⟨a,b,e⟩:=Fm _ vs;rw [e];trivial
 ·obtain ⟨_,rfl,_⟩:=h;trivial
 obtain ⟨rfl,_⟩:=h;trivial
theorem an.sc {ok:Nat→Prop}:∀{xs:List AV} {vs:List Value},uf xs=true→an β bx w ok xs vs→∀v∈vs,IA v
 |[],vs,_,h=>by simp only [an] at h;subst h;simp
 |x::xs,vs,hx,h=>by
  simp only [an] at h
  obtain ⟨u,us,rfl,g1,g2⟩:=h
  cases hs:x.sc with
  |false=>simp [uf,hs] at hx
  |true=>
   simp only [uf,hs,cond_true] at hx
   intro v hv
   rcases List.mem_cons.1 hv with rfl|hv
   ·exact ak.sc hs g1
   exact an.sc hx g2 v hv
theorem nL {ok:Nat→Prop} {x:AV} {v:Value} {cs:List AV} (hx:x.cells?=some cs) (h:ak β bx w ok x v):
 ∃vs,v.cells=⟨vs⟩∧an β bx w ok cs vs∧(∀u∈vs,IA u):=by
 have one:∀(y:AV) (u:Value),y.sc=true→ak β bx w ok y u→∃vs,u.cells=⟨vs⟩∧an β bx w ok [y] vs∧(∀u∈vs,IA u):=by
  intro y u hy hu
  have:=ak.sc hy hu
  refine ⟨[u],?_,by simp only [an];exact ⟨u,[],rfl,hu,rfl⟩,by simpa using this⟩
  cases u<;>simp_all [Value.cells,IA]
 cases x with
 |any=>simp [AV.cells?] at hx
 |vw _ _ _ _ _ _=>simp [AV.cells?] at hx
 |eA _=>simp [AV.cells?] at hx
 |cond _ _=>simp [AV.cells?] at hx
 |agg as=>
  simp only [AV.cells?] at hx
  cases ha:uf as with
  |false=>simp [ha] at hx
  |true=>
   simp only [ha,cond_true,osI] at hx
   subst hx
   simp only [ak] at h
   obtain ⟨vs,rfl,g⟩:=h
   exact ⟨vs,rfl,g,an.sc ha g⟩
 |d x=>simp only [AV.cells?,osI] at hx;subst hx;exact one _ _ rfl h
 |k x=>simp only [AV.cells?,osI] at hx;subst hx;exact one _ _ rfl h
 |ptr _ _=>simp only [AV.cells?,osI] at hx;subst hx;exact one _ _ rfl h
 |rp _ _ _ _=>simp only [AV.cells?,osI] at hx;subst hx;exact one _ _ rfl h
 |ep _=>simp only [AV.cells?,osI] at hx;subst hx;exact one _ _ rfl h
 |ow _ _ _=>simp only [AV.cells?,osI] at hx;subst hx;exact one _ _ rfl h
 |cl _=>simp only [AV.cells?,osI] at hx;subst hx;exact one _ _ rfl h
 |fn _ _=>simp only [AV.cells?,osI] at hx;subst hx;exact one _ _ rfl h
 |rY _ _=>simp only [AV.cells?,osI] at hx;subst hx;exact one _ _ rfl h
 |BJ _=>simp only [AV.cells?,osI] at hx;subst hx;exact one _ _ rfl h
def eC (w:World) (blk:Nat) (o:Obj):World:={w with heap:=w.heap.setIfInBounds blk o}
theorem zD (w:World) (blk:Nat) (o:Obj) (k:Nat):(eC w blk o).heap[k]?=if k=blk then (w.heap[k]?).map (fun _=>o) else w.heap[k]?:=by
 show (w.heap.setIfInBounds blk o)[k]?=_
 rw [Array.getElem?_setIfInBounds]
 by_cases h:blk=k
 ·subst h
  by_cases hk:blk<w.heap.size
  ·simp [hk]
  simp [hk]
 simp [h,Ne.symm h]
theorem dY {w:World} {blk:Nat} {o o':Obj} (h:w.heap[blk]?=some o'):(eC w blk o).heap[blk]?=some o:=by rw [zD];simp [h]
theorem iM {w:World} {blk k:Nat} {o:Obj} (h:k≠blk):(eC w blk o).heap[k]?=w.heap[k]?:=by rw [zD];simp [h]
theorem DS (w:World) (blk:Nat) (o o':Obj):eC (eC w blk o) blk o'=eC w blk o':=by
 unfold eC
 simp
theorem Fp {w:World} {blk off:Nat} {c:Array Value} {e:TypeId} {f:Nat×Nat} (h:w.heap[blk]?=some (.cells c e f)) (v:Value):
 w.setCell ⟨blk,off,none⟩ v=eC w blk (.cells (c.setIfInBounds off v) e f):=by
 unfold World.setCell eC
 congr 1
 apply Array.ext_getElem?
 intro i
 rw [Array.getElem?_modify,Array.getElem?_setIfInBounds]
 by_cases hi:blk=i
 ·subst hi
  have hlt:=fh h
  have h':w.heap[blk]=.cells c e f:=by simpa [hlt] using h
  simp [hlt,h']
 simp [hi]
theorem ot:∀(l:List Value) (n:Nat) (v:Value) (vs:List Value),bf l n (v::vs)=bf (l.set n v) (n+1) vs
 |[],n,v,vs=>by cases vs<;>simp [bf]
 |c::cs,0,v,vs=>by
  simp only [bf,List.set_cons_zero]
  cases vs with
  |nil=>cases cs<;>simp [bf]
  |cons u us=>simp [bf]
 |c::cs,n+1,v,vs=>by
  simp only [bf,List.set_cons_succ]
  rw [ot cs n v vs]
  cases vs with
  |nil=>simp [bf]
  |cons u us=>simp [bf]
theorem IB {w:World} {blk off:Nat} {c:Array Value} {e:TypeId} (h:w.heap[blk]?=some (.cells c e (0,0))) (ho:off<c.size) {v:Value} (hv:IA v):
 (store ⟨blk,off,none⟩ v).run P w=.ok () (eC w blk (.cells (c.setIfInBounds off v) e (0,0))):=by
 have h1:w.cell? ⟨blk,off,none⟩=some c[off]:=by simp [World.cell?,h,ho]
 have h2:w.frozen? ⟨blk,off,none⟩=false:=by simp [World.frozen?,h]
 rw [←Fp h]
 cases v<;>simp [IA] at hv<;>simp [store,Sem.run,h1,h2]
theorem jw {blk off:Nat} {e:TypeId}:∀(vs:List Value) (i:Nat) (w:World) (c:Array Value),w.heap[blk]?=some (.cells c e (0,0))→(∀v∈vs,IA v)→off+i+vs.length≤c.size→
 (storeCells ⟨blk,off,none⟩ vs i).run P w=.ok () (eC w blk (.cells ⟨bf c.toList (off+i) vs⟩ e (0,0)))
 |[],i,w,c,h,_,_=>by
  have:eC w blk (.cells c e (0,0))=w:=by
   have:w.heap.setIfInBounds blk (.cells c e (0,0))=w.heap:=by
    apply Array.ext_getElem?
    intro k
    rw [Array.getElem?_setIfInBounds]
    split
    ·rename_i hk;subst hk;split<;>simp_all
    rfl
   simp [eC,this]
  cases hc:c.toList with
  |nil=>
   simp [storeCells,bf];have vS:c=#[]:=by simpa using hc
   subst vS;exact this.symm
  |cons x xs=>simp [storeCells,bf];rw [←hc];exact this.symm
 |v::vs,i,w,c,h,hs,hl=>by
  simp only [List.length_cons] at hl
  simp only [storeCells,Sem.run_bind,fM]
  rw [IB h (by omega) (hs v (by simp))]
  simp only [Result.andThen_ok]
  rw [jw vs (i+1) _ (c.setIfInBounds (off+i) v) (dY h) (fun u hu=>hs u (by simp [hu])) (by simp;omega),DS,ot]
  congr 4
  simp [show off+(i+1)=off+i+1 by omega]
theorem uo {t:Nat} {ti:TI} (ht:pF P t=some ti) {blk off:Nat} {w:World} {c:Array Value} {e:TypeId} (h:w.heap[blk]?=some (.cells c e (0,0))) {v:Value} {vs:List Value} (hv:v.cells=⟨vs⟩)
 (hs:∀u∈vs,IA u) (hn:vs.length=ti.size) (hl:off+vs.length≤c.size):
 (storeVar t ⟨blk,off,none⟩ v).run P w=.ok () (eC w blk (.cells ⟨bf c.toList off vs⟩ e (0,0))):=by
 obtain ⟨i,d,h1,h2,h3,h4,h5,h6⟩:=aJ ht
 have:=jw (P:=P) (off:=off) vs 0 w c h hs (by simpa using hl)
 simp only [Nat.add_zero] at this
 simp [storeVar,hv,bX h1,hn,h3,this]
theorem dA:∀(l:List Value) (n:Nat) (vs:List Value),(bf l n vs).length=l.length
 |l,n,[]=>by cases l<;>simp [bf]
 |[],n,v::vs=>by simp [bf]
 |c::cs,0,v::vs=>by simp [bf,dA cs 0 vs]
 |c::cs,n+1,v::vs=>by simp [bf,dA cs n (v::vs)]
end
end Dem
end
section
open Go
namespace Dem
section
variable {P:Program} {T:Nat→Option TI} {G:Nat→Option (List D)} {β:Nat→Nat} {bx:List aA} {w:World} {X:Nat→Prop}
theorem aP {b i:Nat} {B B':aA} (h:(bx.set b B')[i]?=some B):(i=b∧B=B'∧b<bx.length)∨(i≠b∧bx[i]?=some B):=by
 rw [List.getElem?_set] at h
 split at h
 ·rename_i xu;subst xu
  split at h
  ·simp at h;exact .inl ⟨rfl,h.symm,by assumption⟩
  simp at h
 rename_i xu;exact .inr ⟨fun e=>xu e.symm,h⟩
theorem jz {i:Nat} {B:aA} (h:bx[i]?=some B):i<bx.length:=by
 rcases Nat.lt_or_ge i bx.length with h'|h'
 ·exact h'
 simp [List.getElem?_eq_none h'] at h
theorem jB {b:Nat} {B B':aA} (h:bx[b]?=some B):(bx.set b B')[b]?=some B':=by
 have:=jz h
 simp [this]
theorem iE {b i:Nat} {B':aA} (hB:B'.born=true) (h:cj bx i):cj (bx.set b B') i:=by
 obtain ⟨B,h1,h2⟩:=h
 by_cases hi:i=b
 ·subst hi;exact ⟨B',jB h1,hB⟩
 exact ⟨B,by rw [List.getElem?_set_ne (Ne.symm hi)];exact h1,h2⟩
theorem l6 {b:Nat} {B B':aA} (hb:bx[b]?=some B) (hl:B.live=true) {c c':Array Value} {e:TypeId} (hh:w.heap[β b]?=some (.cells c e (0,0))) (hc:c'.size=c.size) (RI:B'.born=true):
 Ext β bx w β (bx.set b B') (eC w (β b) (.cells c' e (0,0))):=by
 refine ⟨rfl,rfl,rfl,by simp [eC],?_,?_,fun i hi=>⟨rfl,iE RI hi⟩,?_⟩
 ·intro k hk hl'
  exact iM (fun e=>hl' b B hb hl e.symm)
 ·intro k c1 e1 f1 hk
  by_cases h:k=β b
  ·subst h
   rw [hh] at hk
   simp only [osI,Obj.cells.injEq] at hk
   obtain ⟨rfl,rfl,rfl⟩:=hk
   exact ⟨c',dY hh,hc⟩
  exact ⟨c1,by rw [iM h];exact hk,rfl⟩
 intro i b' h1 h2
 rcases aP h1 with ⟨rfl,_,_⟩|⟨_,h3⟩
 ·exact .inr ⟨i,B,hb,hl,rfl⟩
 exact .inr ⟨i,b',h3,h2,rfl⟩
theorem sV (cx:cP G β bx w X) {b:Nat} {B B':aA} (hb:bx[b]?=some B) (hl:B.live=true) {c c':Array Value} {e:TypeId} (hh:w.heap[β b]?=some (.cells c e (0,0))) (hc:c'.size=c.size) (RI:B'.born=true)
 (hok:dz β (bx.set b B') (eC w (β b) (.cells c' e (0,0))) (bp β (bx.set b B') (eC w (β b) (.cells c' e (0,0))) X) B' (β b)):
 cP G β (bx.set b B') (eC w (β b) (.cells c' e (0,0))) X:=by
 refine cx.step (l6 hb hl hh hc RI) ?_ ?_
 ·intro i b' h1
  rcases aP h1 with ⟨rfl,rfl,_⟩|⟨h2,h3⟩
  ·exact .inr hok
  refine .inl ⟨h3,fun hl'=>iM (fun e=>h2 (cx.inj i b b' B h3 hb hl' hl e))⟩
 intro i j bi bj h1 h2 l1 l2 he
 rcases aP h1 with ⟨rfl,rfl,_⟩|⟨h3,h4⟩<;>rcases aP h2 with ⟨rfl,rfl,_⟩|⟨h5,h6⟩
 ·rfl
 ·exact cx.inj _ j B bj hb h6 hl l2 he
 ·exact cx.inj i _ bi B h4 hb l1 hl he
 exact cx.inj i j bi bj h4 h6 l1 l2 he
theorem iF {b:Nat} {B B':aA} (_hb:bx[b]?=some B) (RI:B'.live=false) (dW:B'.born=true):Ext β bx w β (bx.set b B') w:=by
 refine ⟨rfl,rfl,rfl,Nat.le_refl _,fun _ _ _=>rfl,fun k c e f h=>⟨c,h,rfl⟩,fun i hi=>⟨rfl,iE dW hi⟩,?_⟩
 intro i b' h1 h2
 rcases aP h1 with ⟨rfl,rfl,_⟩|⟨_,h3⟩
 ·rw [RI] at h2;simp at h2
 exact .inr ⟨i,b',h3,h2,rfl⟩
theorem ke (cx:cP G β bx w X) {b:Nat} {B B':aA} (hb:bx[b]?=some B) (RI:B'.live=false) (dW:B'.born=true)
 (hok:dz β (bx.set b B') w (bp β (bx.set b B') w X) B' (β b)):cP G β (bx.set b B') w X:=by
 refine cx.step (iF hb RI dW) ?_ ?_
 ·intro i b' h1
  rcases aP h1 with ⟨rfl,rfl,_⟩|⟨h2,h3⟩
  ·exact .inr hok
  exact .inl ⟨h3,fun _=>rfl⟩
 intro i j bi bj h1 h2 l1 l2 he
 rcases aP h1 with ⟨rfl,rfl,_⟩|⟨h3,h4⟩
 ·rw [RI] at l1;simp at l1
 rcases aP h2 with ⟨rfl,rfl,_⟩|⟨h5,h6⟩
 ·rw [RI] at l2;simp at l2
 exact cx.inj i j bi bj h4 h6 l1 l2 he
theorem K3 (cx:cP G β bx w X) {b:Nat} {sz:Nat} {es:List (List D)} (hb:bx[b]?=some (.row sz es)):
 Ext β bx w β (bx.set b (.kI sz es)) w∧cP G β (bx.set b (.kI sz es)) w X∧(es=[]∨bp β (bx.set b (.kI sz es)) w X (β b)∧ay w (bp β (bx.set b (.kI sz es)) w X) (β b) sz es 0):=by
 have ex:Ext β bx w β (bx.set b (.kI sz es)) w:=iF hb rfl rfl
 have key:es=[]∨bp β (bx.set b (.kI sz es)) w X (β b)∧ay w (bp β (bx.set b (.kI sz es)) w X) (β b) sz es 0:=by
  rcases cx.box b _ hb with h|⟨c,e,h1,h2⟩
  ·exact .inl h
  cases es with
  |nil=>exact .inl rfl
  |cons r rs=>
   refine .inr ⟨⟨fh h1,cx.apart b _ hb rfl,?_⟩,ay.mono (ex.keeps X) _ _ (fun _=>rfl) _ _ h2⟩
   intro i b' h3 h4 he
   rcases aP h3 with ⟨rfl,rfl,_⟩|⟨h5,h6⟩
   ·simp [aA.live] at h4
   exact h5 (cx.inj i b b' _ h6 hb h4 rfl he)
 exact ⟨ex,ke cx hb rfl rfl key,key⟩
theorem ay.lens {ok:Nat→Prop} {blk sz:Nat}:∀(es:List (List D)) (off:Nat),ay w ok blk sz es off→∀r∈es,r.length=sz
 |[],_,_=>by simp
 |r::rs,off,h=>by
  simp only [ay] at h
  intro x hx
  rcases List.mem_cons.1 hx with rfl|hx
  ·exact h.1
  exact ay.lens rs _ h.2.2 x hx
theorem kf {ok:Nat→Prop} {blk sz:Nat}:∀(es:List (List D)) (off:Nat),ay w ok blk sz es off→∃vs,vs.length=es.length*sz∧(∀j v,vs[j]?=some v→w.cell? ⟨blk,off+j,none⟩=some v)∧
 an β bx w ok (es.flatten.map .d) vs
 |[],off,_=>⟨[],by simp,by simp,by simp [an]⟩
 |r::rs,off,h=>by
  simp only [ay] at h
  obtain ⟨h1,h2,h3⟩:=h
  obtain ⟨vs,g1,g2,g3⟩:=rF (β:=β) (bx:=bx) r off h2
  obtain ⟨us,k1,k2,k3⟩:=kf rs (off+sz) h3
  refine ⟨vs++us,by simp [g1,k1,h1,Nat.add_mul];omega,?_,by simpa using an.append g3 k3⟩
  intro j v hj
  rcases Nat.lt_or_ge j vs.length with hlt|hge
  ·rw [List.getElem?_append_left hlt] at hj;exact g2 j v hj
  rw [List.getElem?_append_right hge] at hj
  have:=k2 _ v hj
  rwa [show off+sz+(j-vs.length)=off+j by omega] at this
theorem DT {ok:Nat→Prop} {blk:Nat}:∀(ds:List D) (off:Nat) (vs:List Value),(∀j v,vs[j]?=some v→w.cell? ⟨blk,off+j,none⟩=some v)→an β bx w ok (ds.map .d) vs→aY w ok blk ds off
 |[],_,_,_,_=>by simp [aY]
 |x::xs,off,vs,hc,h=>by
  simp only [List.map_cons,an,ak] at h
  obtain ⟨u,us,rfl,g1,g2⟩:=h
  simp only [aY]
  refine ⟨⟨u,by simpa using hc 0 u rfl,g1⟩,DT xs (off+1) us (fun j v hj=>?_) g2⟩
  have:=hc (j+1) v (by simpa using hj)
  rwa [show off+(j+1)=off+1+j by omega] at this
theorem mY {ok:Nat→Prop} {blk sz:Nat}:∀(es:List (List D)) (off:Nat) (vs:List Value),(∀r∈es,r.length=sz)→(∀j v,vs[j]?=some v→w.cell? ⟨blk,off+j,none⟩=some v)→
 an β bx w ok (es.flatten.map .d) vs→ay w ok blk sz es off
 |[],_,_,_,_,_=>by simp [ay]
 |r::rs,off,vs,hl,hc,h=>by
  simp only [List.flatten_cons,List.map_append] at h
  have h1:=an.take r.length h
  have h2:=an.drop r.length h
  rw [List.take_left' (by simp)] at h1
  rw [List.drop_left' (by simp)] at h2
  have hr:r.length=sz:=hl r (by simp)
  simp only [ay]
  refine ⟨hr,DT r off _ (fun j v hj=>?_) h1,mY rs (off+sz) _ (fun x hx=>hl x (by simp [hx])) (fun j v hj=>?_) h2⟩
  ·rw [List.getElem?_take] at hj
   split at hj
   ·exact hc j v hj
   simp at hj
  rw [List.getElem?_drop] at hj
  have:=hc _ v hj
  rwa [show off+(r.length+j)=off+sz+j by omega] at this
theorem zE {ok:Nat→Prop} {x:AV} {es:List (List D)} {u:Value} (hx:∀b sz n,x≠.ow b sz n) (N5:x.ug=false) (hr:x.rows bx=some es) (h:ak β bx w ok x u):
 ∃base cap,u=.slice base es.length cap∧es.length≤cap∧(es=[]∨∃blk off sz,base=some ⟨blk,off,none⟩∧ok blk∧ay w ok blk sz es off):=by
 cases x with
 |d y=>
  cases y with
  |sl es'=>simp only [AV.rows,osI] at hr;subst hr;simpa [ak,aL] using h
  |_=>simp [AV.rows] at hr
 |cl es'=>
  simp only [AV.rows,osI] at hr;subst hr
  simp only [ak] at h
  obtain ⟨base,rfl,g⟩:=h
  exact ⟨base,_,rfl,Nat.le_refl _,g⟩
 |ow b sz n=>exact absurd rfl (hx b sz n)
 |vw b sz off n c ex=>simp [AV.ug] at N5
 |_=>simp [AV.rows] at hr
theorem ay.Oi {ok:Nat→Prop} {blk sz:Nat}:∀(n:Nat) (es:List (List D)) (off:Nat),ay w ok blk sz es off→ay w ok blk sz (es.drop n) (off+n*sz)
 |0,es,off,h=>by simpa using h
 |n+1,[],off,h=>by simp [ay]
 |n+1,r::rs,off,h=>by
  simp only [ay] at h
  have:=ay.Oi n rs (off+sz) h.2.2
  simpa [Nat.add_mul,show off+sz+n*sz=off+(n*sz+sz) by omega] using this
theorem ay.Fq {ok:Nat→Prop} {blk sz:Nat}:∀(n:Nat) (es:List (List D)) (off:Nat),ay w ok blk sz es off→ay w ok blk sz (es.take n) off
 |0,es,off,h=>by simp [ay]
 |n+1,[],off,h=>by simp [ay]
 |n+1,r::rs,off,h=>by
  simp only [ay] at h
  simp only [List.take_succ_cons,ay]
  exact ⟨h.1,h.2.1,ay.Fq n rs _ h.2.2⟩
theorem Cu {s sz n m:Nat} {α:Type} {x y:α} (h:(bif Nat.beq s sz&&Nat.ble n m then some x else none)=some y):s=sz∧n≤m∧x=y:=by
 cases h1:Nat.beq s sz<;>cases h2:Nat.ble n m<;>simp [h1,h2] at h
 exact ⟨Nat.eq_of_beq_eq_true h1,Nat.le_of_ble_eq_true h2,h⟩
theorem ou {b sz off n c:Nat} {ex:Bool} {K4:List (List D)} {IC:Nat→Prop} {u:Value} {ok:Nat→Prop} (hn:off+n≤K4.length) (hrows:K4=[]∨ay w IC (β b) sz K4 0) (h:ak β bx w ok (.vw b sz off n c ex) u):
 ∃base cap,u=.slice base ((K4.drop off).take n).length cap∧((K4.drop off).take n).length≤cap∧((K4.drop off).take n=[]∨base=some ⟨β b,off*sz,none⟩∧ay w IC (β b) sz ((K4.drop off).take n) (off*sz)):=by
 simp only [ak] at h
 obtain ⟨_,base,cap,cs,e,f,rfl,h1,h2,h3,h4⟩:=h
 have hlen:((K4.drop off).take n).length=n:=by simp;omega
 refine ⟨base,cap,by rw [hlen],by rw [hlen];exact h1,?_⟩
 by_cases hn0:n=0
 ·subst hn0;exact .inl (by simp)
 right
 rcases h4 with h4|⟨h4,_⟩
 ·omega
 refine ⟨h4,?_⟩
 rcases hrows with rfl|hrows
 ·simp at hn;omega
 have:=ay.Fq n _ _ (ay.Oi off _ _ hrows)
 simpa using this
theorem Mj {s sz n m:Nat} {α:Type} {x y:α} (h:(bif Nat.beq s sz&&Nat.beq n m then some x else none)=some y):s=sz∧n=m∧x=y:=by
 cases h1:Nat.beq s sz<;>cases h2:Nat.beq n m<;>simp [h1,h2] at h
 exact ⟨Nat.eq_of_beq_eq_true h1,Nat.eq_of_beq_eq_true h2,h⟩
theorem uq (cx:cP G β bx w X) {b sz n:Nat} {es:List (List D)} {u:Value} (hr:(AV.ow b sz n).rows bx=some es) (h:ak β bx w (bp β bx w X) (.ow b sz n) u):
 n=es.length∧(∃base cap,u=.slice base es.length cap∧es.length≤cap∧(es=[]∧cap=0∨es≠[]∧base=some ⟨β b,0,none⟩∧ay w (bp β bx w X) (β b) sz es 0∧
  ∃c e f,w.heap[β b]?=some (.cells c e f)∧cap*sz≤c.size)):=by
 have main:∀es',n=es'.length→(es'=[]∨ay w (bp β bx w X) (β b) sz es' 0)→∃base cap,u=.slice base es'.length cap∧es'.length≤cap∧(es'=[]∧cap=0∨es'≠[]∧base=some ⟨β b,0,none⟩∧ay w (bp β bx w X) (β b) sz es' 0∧
  ∃c e f,w.heap[β b]?=some (.cells c e f)∧cap*sz≤c.size):=by
  intro es' hn hrows
  simp only [ak] at h
  obtain ⟨_,⟨h0,base,rfl⟩|⟨h0,cap,c,e,f,rfl,h1,h2,h3⟩⟩:=h
  ·have:es'=[]:=by simpa using (hn.symm.trans h0)
   subst this
   exact ⟨base,0,by simp,by simp,.inl ⟨rfl,rfl⟩⟩
  rcases hrows with rfl|hrows
  ·exact absurd (by simpa using hn) h0
  exact ⟨_,cap,by rw [hn],by omega,.inr ⟨by rintro rfl;exact h0 (by simpa using hn),rfl,hrows,c,e,f,h2,h3⟩⟩
 simp only [AV.rows] at hr
 split at hr
 ·rename_i s es' hb
  obtain ⟨rfl,rfl,rfl⟩:=Mj hr
  exact ⟨rfl,main _ rfl ((cx.box b _ hb).imp id fun ⟨_,_,_,g⟩=>g)⟩
 ·rename_i s es' hb
  obtain ⟨rfl,rfl,rfl⟩:=Mj hr
  exact ⟨rfl,main _ rfl ((cx.box b _ hb).imp id fun ⟨_,g⟩=>g)⟩
 simp at hr
theorem UE {b sz n:Nat} {y:D} (h:(AV.ow b sz n).rm bx=some y):∃es,y=.sl es∧(AV.ow b sz n).rows bx=some es:=by
 simp only [AV.rm] at h
 simp only [AV.rows]
 split at h
 ·rename_i s es hb
  obtain ⟨rfl,rfl,rfl⟩:=Mj h
  exact ⟨es,rfl,by simp [hb]⟩
 ·rename_i s es hb
  obtain ⟨rfl,rfl,rfl⟩:=Mj h
  exact ⟨es,rfl,by simp [hb]⟩
 simp at h
theorem kg (cx:cP G β bx w X) {x:AV} {es:List (List D)} {u:Value} (hr:x.rows bx=some es) (h:ak β bx w (bp β bx w X) x u):
 Ext β bx w β (x.cC bx) w∧cP G β (x.cC bx) w X∧
 ∃base cap,u=.slice base es.length cap∧es.length≤cap∧(es=[]∨∃blk off sz,base=some ⟨blk,off,none⟩∧bp β (x.cC bx) w X blk∧ay w (bp β (x.cC bx) w X) blk sz es off):=by
 by_cases hx:∃b sz n,x=.ow b sz n
 ·obtain ⟨b,sz,n,rfl⟩:=hx
  obtain ⟨hn,base,cap,rfl,h1,h2⟩:=uq cx hr h
  simp only [AV.rows] at hr
  split at hr
  ·rename_i s es' hb
   obtain ⟨rfl,_,rfl⟩:=Mj hr
   obtain ⟨g1,g2,g3⟩:=K3 cx hb
   have pT:(AV.ow b s n).cC bx=bx.set b (.kI s es'):=by simp [AV.cC,hb]
   rw [pT]
   refine ⟨g1,g2,base,cap,rfl,h1,?_⟩
   rcases h2 with ⟨rfl,_⟩|⟨hne,rfl,_⟩
   ·exact .inl rfl
   rcases g3 with rfl|⟨g3,g4⟩
   ·exact .inl rfl
   exact .inr ⟨β b,0,s,rfl,g3,g4⟩
  ·rename_i s es' hb
   obtain ⟨rfl,_,rfl⟩:=Mj hr
   have pT:(AV.ow b s n).cC bx=bx:=by simp [AV.cC,hb]
   rw [pT]
   refine ⟨Ext.refl _ _ _,cx,base,cap,rfl,h1,?_⟩
   rcases h2 with ⟨rfl,_⟩|⟨hne,rfl,g,_⟩
   ·exact .inl rfl
   rcases cx.box b _ hb with rfl|⟨g3,g4⟩
   ·exact .inl rfl
   exact .inr ⟨β b,0,s,rfl,g3,g4⟩
  simp at hr
 have hx':∀b sz n,x≠.ow b sz n:=fun b sz n e=>hx ⟨b,sz,n,e⟩
 cases hv:x.ug with
 |true=>
  cases x with
  |vw b sz off n c ex=>
   simp only [AV.rows] at hr
   split at hr
   ·rename_i s es' hb
    obtain ⟨rfl,hle,rfl⟩:=Cu hr
    obtain ⟨g1,g2,g3⟩:=K3 cx hb
    have pT:(AV.vw b s off n c ex).cC bx=bx.set b (.kI s es'):=by simp [AV.cC,hb]
    rw [pT]
    refine ⟨g1,g2,?_⟩
    obtain ⟨base,cap,rfl,k1,k2⟩:=ou (IC:=bp β (bx.set b (.kI s es')) w X) hle (g3.imp id fun g=>g.2) h
    refine ⟨base,cap,rfl,k1,?_⟩
    rcases g3 with rfl|⟨g3,_⟩
    ·left;simp
    rcases k2 with k2|⟨rfl,k3⟩
    ·exact .inl k2
    exact .inr ⟨β b,off*s,s,rfl,g3,k3⟩
   ·rename_i s es' hb
    obtain ⟨rfl,hle,rfl⟩:=Cu hr
    have pT:(AV.vw b s off n c ex).cC bx=bx:=by simp [AV.cC,hb]
    rw [pT]
    refine ⟨Ext.refl _ _ _,cx,?_⟩
    have g3:=cx.box b _ hb
    obtain ⟨base,cap,rfl,k1,k2⟩:=ou (IC:=bp β bx w X) hle (g3.imp id fun g=>g.2) h
    refine ⟨base,cap,rfl,k1,?_⟩
    rcases g3 with rfl|⟨g3,_⟩
    ·left;simp
    rcases k2 with k2|⟨rfl,k3⟩
    ·exact .inl k2
    exact .inr ⟨β b,off*s,s,rfl,g3,k3⟩
   simp at hr
  |_=>simp [AV.ug] at hv
 |false=>
 have pT:x.cC bx=bx:=by cases x<;>simp_all [AV.cC,AV.ug]
 rw [pT]
 exact ⟨Ext.refl _ _ _,cx,zE hx' hv hr h⟩
theorem zF (cx:cP G β bx w X) {x:AV} {y:D} {u:Value} (hd:x.rm bx=some y) (h:ak β bx w (bp β bx w X) x u):
 Ext β bx w β (x.cC bx) w∧cP G β (x.cC bx) w X∧aL w (bp β (x.cC bx) w X) y u:=by
 cases x with
 |d x=>simp only [AV.rm,osI] at hd;subst hd;exact ⟨Ext.refl _ _ _,cx,h⟩
 |cl es=>
  simp only [AV.rm,osI] at hd;subst hd
  obtain ⟨g1,g2,g3⟩:=kg cx (x:=.cl es) (es:=es) rfl h
  exact ⟨g1,g2,by simpa [aL] using g3⟩
 |ow b sz n=>
  obtain ⟨es,rfl,hr⟩:=UE hd
  obtain ⟨g1,g2,g3⟩:=kg cx hr h
  exact ⟨g1,g2,by simpa [aL] using g3⟩
 |fn f cs=>
  cases cs with
  |nil=>
   simp only [AV.rm,osI] at hd;subst hd
   simp only [ak,an] at h
   obtain ⟨vs,rfl,rfl⟩:=h
   exact ⟨Ext.refl _ _ _,cx,by simp [zB,aL]⟩
  |cons c cs=>simp [AV.rm] at hd
 |_=>simp [AV.rm] at hd
theorem ur {z:AV} {i s:Nat} {es:List (List D)} (h:bx[i]?=some (.row s es)∨bx[i]?=some (.kI s es)):(z.cC bx)[i]?=some (.row s es)∨(z.cC bx)[i]?=some (.kI s es):=by
 cases z with
 |ow b sz n=>
  simp only [AV.cC]
  split
  ·rename_i s' es' hb
   by_cases hi:i=b
   ·subst hi
    rw [hb] at h
    simp at h
    obtain ⟨rfl,rfl⟩:=h
    exact .inr (jB hb)
   rw [List.getElem?_set_ne (Ne.symm hi)];exact h
  exact h
 |vw b sz off n c ex=>
  simp only [AV.cC]
  split
  ·rename_i s' es' hb
   by_cases hi:i=b
   ·subst hi
    rw [hb] at h
    simp at h
    obtain ⟨rfl,rfl⟩:=h
    exact .inr (jB hb)
   rw [List.getElem?_set_ne (Ne.symm hi)];exact h
  exact h
 |_=>exact h
theorem Cv {x z:AV} {y:D} (h:x.rm bx=some y):x.rm (z.cC bx)=some y:=by
 cases x with
 |ow b sz n=>
  simp only [AV.rm] at h ⊢
  split at h
  ·rename_i s es hb
   rcases ur (z:=z) (.inl hb) with g|g<;>simp [g,h]
  ·rename_i s es hb
   rcases ur (z:=z) (.inr hb) with g|g<;>simp [g,h]
  simp at h
 |fn f cs=>cases cs with
  |nil=>exact h
  |cons c cs=>exact h
 |_=>exact h
theorem sW {z:AV}:∀{xs:List AV} {ys:List D},iV bx xs=some ys→iV (z.cC bx) xs=some ys
 |[],ys,h=>h
 |x::xs,ys,h=>by
  simp only [iV] at h ⊢
  split at h
  ·rename_i y ys' hy hys
   rw [Cv hy,sW hys];exact h
  simp at h
theorem vY:∀(xs:List AV) (bx:List aA) (ys:List D) (vs:List Value),cP G β bx w X→iV bx xs=some ys→an β bx w (bp β bx w X) xs vs→
 Ext β bx w β (eE bx xs) w∧cP G β (eE bx xs) w X∧an β (eE bx xs) w (bp β (eE bx xs) w X) (ys.map .d) vs
 |[],bx,ys,vs,cx,hd,h=>by simp [iV] at hd;subst hd;exact ⟨Ext.refl _ _ _,cx,by simpa [eE] using h⟩
 |x::xs,bx,ys,vs,cx,hd,h=>by
  simp only [iV] at hd
  split at hd
  ·rename_i y ys' hy hys
   simp at hd;subst hd
   simp only [an] at h
   obtain ⟨u,us,rfl,g1,g2⟩:=h
   obtain ⟨e1,c1,r1⟩:=zF cx hy g1
   obtain ⟨e2,c2,r2⟩:=vY xs (x.cC bx) ys' us c1 (sW hys) (an.mono (e1.eX X) _ _ g2)
   refine ⟨e1.trans e2,c2,?_⟩
   simp only [eE,List.map_cons,an,ak]
   exact ⟨u,us,rfl,aL.mono (e2.keeps X) _ _ r1,r2⟩
  simp at hd
theorem l7:∀(l m:List Value) (n:Nat) (vs:List Value),n+vs.length≤l.length→bf (l++m) n vs=bf l n vs++m
 |l,m,n,[],_=>by cases l<;>cases m<;>simp [bf]
 |[],m,n,v::vs,h=>by simp at h
 |c::cs,m,0,v::vs,h=>by
  simp only [List.length_cons] at h
  simp only [List.cons_append,bf]
  rw [l7 cs m 0 vs (by omega)]
 |c::cs,m,n+1,v::vs,h=>by
  simp only [List.length_cons] at h
  simp only [List.cons_append,bf]
  rw [l7 cs m n (v::vs) (by simp;omega)]
theorem l8:∀(l:List D) (n:Nat) (vs:List D),(be l n vs).length=l.length
 |l,n,[]=>by cases l<;>simp [be]
 |[],n,v::vs=>by simp [be]
 |c::cs,0,v::vs=>by simp [be,l8 cs 0 vs]
 |c::cs,n+1,v::vs=>by simp [be,l8 cs n (v::vs)]
theorem pU:∀(l:List D) (n:Nat) (vs:List D),(be l n vs).map AV.d=eN (l.map .d) n (vs.map .d)
 |l,n,[]=>by cases l<;>simp [be,eN]
 |[],n,v::vs=>by simp [be,eN]
 |c::cs,0,v::vs=>by simp [be,eN,pU cs 0 vs]
 |c::cs,n+1,v::vs=>by simp [be,eN];rw [pU cs n (v::vs)];simp
theorem uu:∀(l m:List D) (n:Nat) (vs:List D),be (l++m) (l.length+n) vs=l++be m n vs
 |[],m,n,vs=>by simp
 |c::cs,m,n,vs=>by
  cases vs with
  |nil=>cases m<;>simp [be]
  |cons v vs=>
   rw [show (c::cs).length+n=(cs.length+n)+1 by simp;omega]
   simp only [List.cons_append,be]
   rw [uu cs m n (v::vs)]
theorem ny:∀(l m:List D) (n:Nat) (vs:List D),n+vs.length≤l.length→be (l++m) n vs=be l n vs++m
 |l,m,n,[],_=>by cases l<;>cases m<;>simp [be]
 |[],m,n,v::vs,h=>by simp at h
 |c::cs,m,0,v::vs,h=>by
  simp only [List.length_cons] at h
  simp only [List.cons_append,be]
  rw [ny cs m 0 vs (by omega)]
 |c::cs,m,n+1,v::vs,h=>by
  simp only [List.length_cons] at h
  simp only [List.cons_append,be]
  rw [ny cs m n (v::vs) (by simp;omega)]
theorem pV {sz:Nat}:∀(es:List (List D)) (i j:Nat) (ds:List D),(∀r∈es,r.length=sz)→i<es.length→j+ds.length≤(es.getD i []).length→
 (es.set i (be (es.getD i []) j ds)).flatten=be es.flatten (i*sz+j) ds
 |[],i,j,ds,_,h,_=>by simp at h
 |r::rs,0,j,ds,hl,_,hj=>by
  simp at hj
  simp only [List.set_cons_zero,List.flatten_cons,Nat.zero_mul,Nat.zero_add]
  rw [ny r _ j ds hj]
  simp
 |r::rs,i+1,j,ds,hl,hi,hj=>by
  have hr:r.length=sz:=hl r (by simp)
  simp at hi hj
  have:=pV rs i j ds (fun x hx=>hl x (by simp [hx])) hi (by simpa using hj)
  simp only [List.set_cons_succ,List.flatten_cons,List.getD_cons_succ]
  rw [this,show (i+1)*sz+j=r.length+(i*sz+j) by rw [hr,Nat.add_mul];omega,uu]
theorem Oj {ok:Nat→Prop} {x:AV} {y:D} {u:Value} (h:x.rm []=some y) (hx:ak β bx w ok x u):aL w ok y u:=by
 cases x with
 |d x=>simp only [AV.rm,osI] at h;subst h;simpa [ak] using hx
 |cl es=>
  simp only [AV.rm,osI] at h;subst h
  simp only [ak] at hx
  obtain ⟨base,rfl,g⟩:=hx
  simp only [aL];exact ⟨base,_,rfl,Nat.le_refl _,g⟩
 |ow b sz n=>simp [AV.rm] at h
 |fn f cs=>
  cases cs with
  |nil=>
   simp only [AV.rm,osI] at h;subst h
   simp only [ak,an] at hx
   obtain ⟨vs,rfl,rfl⟩:=hx
   simp [aL,zB]
  |cons c cs=>simp [AV.rm] at h
 |_=>simp [AV.rm] at h
theorem rH {ok:Nat→Prop}:∀{xs:List AV} {ys:List D} {us:List Value},iV [] xs=some ys→an β bx w ok xs us→an β bx w ok (ys.map .d) us
 |[],ys,us,h,hx=>by simp [iV] at h;subst h;simpa using hx
 |x::xs,ys,us,h,hx=>by
  simp only [iV] at h
  split at h
  ·rename_i y ys' h1 h2
   simp only [osI] at h;subst h
   simp only [an] at hx
   obtain ⟨u,Oh,rfl,g1,g2⟩:=hx
   simp only [List.map_cons,an,ak]
   exact ⟨u,Oh,rfl,Oj h1 g1,rH h2 g2⟩
  simp at h
end
end Dem
end
