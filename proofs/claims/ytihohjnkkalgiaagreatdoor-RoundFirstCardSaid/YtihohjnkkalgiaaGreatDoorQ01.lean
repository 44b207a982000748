/- Parts of a proof, joined. -/
import Derived.Test.YtihohjnkkalgiaaGreatDoorQ00
set_option linter.all false
set_option maxRecDepth 100000
set_option maxHeartbeats 4000000
section
open Go
namespace Dem
def lM (es:Array MapEntry) (clock:Nat):Prop:=es.all (·.born<clock)=true∧(es.toList.map (·.born)).Nodup
mutual
def aS (w:World) (ok:Nat→Prop):D→Value→Prop
 |.bool b,v=>v=.bool b
 |.int k n,v=>v=.int k n
 |.str s,v=>v=.string ⟨s.toArray⟩
 |.sl es,v=>∃base cap,v=.slice base es.length cap∧es.length≤cap∧
  (es=[]∨∃blk off sz,base=some ⟨blk,off,none⟩∧ok blk∧ay w ok blk sz es off)
 |.fn f,v=>v=.func (.func f) #[] #[]
 |.mp ag es,v=>∃blk ms clock,v=.map (some blk)∧ok blk∧w.heap[blk]?=some (.map ms clock)∧lM ms clock∧bA w ok ag es ms.toList
def bp (w:World) (ok:Nat→Prop) (blk:Nat):List D→Nat→Prop
 |[],_=>True
 |x::xs,off=>(∃u,w.cell? ⟨blk,off,none⟩=some u∧aS w ok x u)∧bp w ok blk xs (off+1)
def ay (w:World) (ok:Nat→Prop) (blk sz:Nat):List (List D)→Nat→Prop
 |[],_=>True
 |r::rs,off=>r.length=sz∧bp w ok blk r off∧ay w ok blk sz rs (off+sz)
def bA (w:World) (ok:Nat→Prop) (ag:Bool):List (List D)→List MapEntry→Prop
 |[],ms=>ms=[]
 |r::rs,ms=>∃m ET,ms=m::ET∧ia w ok ag r m∧bA w ok ag rs ET
def ia (w:World) (ok:Nat→Prop) (ag:Bool):List D→MapEntry→Prop
 |[],_=>False
 |k::ds,m=>aS w ok k m.key∧∃cs,m.val=(bif ag then .agg ⟨cs⟩ else cs.headD undef)∧(ag=false→cs.length=1)∧cH w ok ds cs
def cH (w:World) (ok:Nat→Prop):List D→List Value→Prop
 |[],vs=>vs=[]
 |d::ds,vs=>∃v r,vs=v::r∧aS w ok d v∧cH w ok ds r
end
def iW (w w':World) (ok ok':Nat→Prop):Prop:=∀blk,ok blk→ok' blk∧w'.heap[blk]?=w.heap[blk]?
theorem m5 {w w':World} {blk:Nat} (h:w'.heap[blk]?=w.heap[blk]?) (off:Nat) (sp:Option Nat):w'.cell? ⟨blk,off,sp⟩=w.cell? ⟨blk,off,sp⟩:=by
 simp only [World.cell?,h]
theorem iW.cell {w w':World} {ok ok':Nat→Prop} (h:iW w w' ok ok') {blk:Nat} (hb:ok blk) (off:Nat):w'.cell? ⟨blk,off,none⟩=w.cell? ⟨blk,off,none⟩:=m5 (h blk hb).2 off _
mutual
theorem aS.mono {w w':World} {ok ok':Nat→Prop} (h:iW w w' ok ok'):∀(x:D) (v:Value),aS w ok x v→aS w' ok' x v
 |.bool b,v,hv=>by simpa [aS] using hv
 |.int k n,v,hv=>by simpa [aS] using hv
 |.str s,v,hv=>by simpa [aS] using hv
 |.sl es,v,hv=>by
  simp only [aS] at hv ⊢
  obtain ⟨base,cap,h1,h2,h3⟩:=hv
  refine ⟨base,cap,h1,h2,h3.imp id ?_⟩
  rintro ⟨blk,off,sz,e1,e2,e3⟩
  exact ⟨blk,off,sz,e1,(h blk e2).1,ay.mono h blk sz (h.cell e2) es off e3⟩
 |.fn f,v,hv=>by simpa [aS] using hv
 |.mp ag es,v,hv=>by
  simp only [aS] at hv ⊢
  obtain ⟨blk,ms,clock,h1,h2,h3,h4,h5⟩:=hv
  exact ⟨blk,ms,clock,h1,(h blk h2).1,by rw [(h blk h2).2];exact h3,h4,bA.mono h ag es _ h5⟩
theorem bp.mono {w w':World} {ok ok':Nat→Prop} (h:iW w w' ok ok') (blk:Nat) (hb:∀off,w'.cell? ⟨blk,off,none⟩=w.cell? ⟨blk,off,none⟩):∀(xs:List D) (off:Nat),bp w ok blk xs off→bp w' ok' blk xs off
 |[],_,_=>by simp [bp]
 |x::xs,off,hv=>by
  simp only [bp] at hv ⊢
  obtain ⟨⟨u,h1,h2⟩,h3⟩:=hv
  exact ⟨⟨u,by rw [hb];exact h1,aS.mono h x u h2⟩,bp.mono h blk hb xs _ h3⟩
theorem ay.mono {w w':World} {ok ok':Nat→Prop} (h:iW w w' ok ok') (blk sz:Nat) (hb:∀off,w'.cell? ⟨blk,off,none⟩=w.cell? ⟨blk,off,none⟩):∀(rs:List (List D)) (off:Nat),ay w ok blk sz rs off→ay w' ok' blk sz rs off
 |[],_,_=>by simp [ay]
 |r::rs,off,hv=>by
  simp only [ay] at hv ⊢
  exact ⟨hv.1,bp.mono h blk hb r _ hv.2.1,ay.mono h blk sz hb rs _ hv.2.2⟩
theorem bA.mono {w w':World} {ok ok':Nat→Prop} (h:iW w w' ok ok') (ag:Bool):∀(rs:List (List D)) (ms:List MapEntry),bA w ok ag rs ms→bA w' ok' ag rs ms
 |[],_,hv=>by simpa [bA] using hv
 |r::rs,ms,hv=>by
  simp only [bA] at hv ⊢
  obtain ⟨m,ET,h1,h2,h3⟩:=hv
  exact ⟨m,ET,h1,ia.mono h ag r m h2,bA.mono h ag rs ET h3⟩
theorem ia.mono {w w':World} {ok ok':Nat→Prop} (h:iW w w' ok ok') (ag:Bool):∀(r:List D) (m:MapEntry),ia w ok ag r m→ia w' ok' ag r m
 |[],_,hv=>by simp [ia] at hv
 |k::ds,m,hv=>by
  simp only [ia] at hv ⊢
  obtain ⟨h1,cs,h2,h3,h4⟩:=hv
  exact ⟨aS.mono h k _ h1,cs,h2,h3,cH.mono h ds cs h4⟩
theorem cH.mono {w w':World} {ok ok':Nat→Prop} (h:iW w w' ok ok'):∀(ds:List D) (vs:List Value),cH w ok ds vs→cH w' ok' ds vs
 |[],_,hv=>by simpa [cH] using hv
 |d::ds,vs,hv=>by
  simp only [cH] at hv ⊢
  obtain ⟨v,r,h1,h2,h3⟩:=hv
  exact ⟨v,r,h1,aS.mono h d v h2,cH.mono h ds r h3⟩
end
def bz (β:Nat→Nat) (bx:List aB) (w:World) (X:Nat→Prop) (blk:Nat):Prop:=
 blk<w.heap.size∧¬X blk∧∀i b,bx[i]?=some b→b.live=true→β i≠blk
def zj (f:Nat):List Value→Value
 |.tuple fs::vs=>.func (.func f) fs ⟨vs⟩
 |vs=>.func (.func f) #[] ⟨vs⟩
theorem E2 (f:Nat) (vs:List Value):∃a b,zj f vs=.func (.func f) a b:=by unfold zj;split<;>exact ⟨_,_,rfl⟩
mutual
def ak (β:Nat→Nat) (bx:List aB) (w:World) (ok:Nat→Prop):AV→Value→Prop
 |.any,_=>True
 |.d x,v=>aS w ok x v
 |.k c,v=>v=c.val
 |.agg cs,v=>∃vs,v=.agg ⟨vs⟩∧an β bx w ok cs vs
 |.dX cs,v=>∃vs,v=.tuple ⟨vs⟩∧an β bx w ok cs vs
 |.ptr b off,v=>v=.pointer (some ⟨β b,off,none⟩)∧bX bx b
 |.rp b sz i j,v=>v=.pointer (some ⟨β b,i*sz+j,none⟩)∧bX bx b
 |.ep ds,v=>∃blk off,v=.pointer (some ⟨blk,off,none⟩)∧ok blk∧bp w ok blk ds off
 |.ow b sz n,v=>bX bx b∧((n=0∧∃base,v=.slice base 0 0)∨
  (n≠0∧∃cap c e f,v=.slice (some ⟨β b,0,none⟩) n cap∧n≤cap∧w.heap[β b]?=some (.cells c e f)∧cap*sz≤c.size))
 |.cl es,v=>∃base,v=.slice base es.length es.length∧(es=[]∨∃blk off sz,base=some ⟨blk,off,none⟩∧ok blk∧ay w ok blk sz es off)
 |.fn f jQ,v=>∃vs,v=zj f vs∧an β bx w ok jQ vs
 |.rN t x,v=>∃u,v=.iface t u∧ak β bx w ok x u
 |.cond p x,v=>(p=true→ak β bx w ok x v)∧(p=false→v=undef)
 |.vw b sz off n c ex,v=>bX bx b∧∃base cap cs e f,v=.slice base n cap∧n≤cap∧c≤cap∧(ex=true→cap=c)∧(cap=0∨base=some ⟨β b,off*sz,none⟩∧w.heap[β b]?=some (.cells cs e f)∧(off+cap)*sz≤cs.size)
 |.Bx b,v=>v=.map (some (β b))∧bX bx b
def an (β:Nat→Nat) (bx:List aB) (w:World) (ok:Nat→Prop):List AV→List Value→Prop
 |[],vs=>vs=[]
 |x::xs,vs=>∃u us,vs=u::us∧ak β bx w ok x u∧an β bx w ok xs us
end
def dm (β:Nat→Nat) (bx:List aB) (w:World) (ok:Nat→Prop):aB→Nat→Prop
 |.var cs,blk=>∃c e,w.heap[blk]?=some (.cells c e (0,0))∧an β bx w ok cs c.toList
 |.row sz es,blk=>es=[]∨∃c e,w.heap[blk]?=some (.cells c e (0,0))∧ay w ok blk sz es 0
 |.kx sz es,blk=>es=[]∨(ok blk∧ay w ok blk sz es 0)
 |.it s pos,blk=>w.heap[blk]?=some (.stringIter ⟨s.toArray⟩ pos)
 |.mp ag es,blk=>∃ms clock,w.heap[blk]?=some (.map ms clock)∧lM ms clock∧bA w ok ag es ms.toList
 |.dead,_=>True
 |.bC,_=>True
structure cJ (G:Nat→Option (List D)) (β:Nat→Nat) (bx:List aB) (w:World) (X:Nat→Prop):Prop where
 xs:∀blk,X blk→blk<w.heap.size
 ym:∀g ds,G g=some ds→bz β bx w X g∧bp w (bz β bx w X) g ds 0
 inj:∀i j bi bj,bx[i]?=some bi→bx[j]?=some bj→bi.live=true→bj.live=true→β i=β j→i=j
 box:∀i b,bx[i]?=some b→dm β bx w (bz β bx w X) b (β i)
 apart:∀i b,bx[i]?=some b→b.live=true→¬X (β i)
structure Ext (β:Nat→Nat) (bx:List aB) (w:World) (β':Nat→Nat) (aZ:List aB) (w':World):Prop where
 os:w'.os=w.os
 tape:w'.tape=w.tape
 output:w'.output=w.output
 size:w.heap.size≤w'.heap.size
 block:∀k,k<w.heap.size→(∀i b,bx[i]?=some b→b.live=true→β i≠k)→w'.heap[k]?=w.heap[k]?
 shape:∀(k:Nat) (c:Array Value) (e:TypeId) (f:Nat×Nat),w.heap[k]?=some (.cells c e f)→∃c',w'.heap[k]?=some (.cells c' e f)∧c'.size=c.size
 born:∀i,bX bx i→β' i=β i∧bX aZ i
 live:∀i b,aZ[i]?=some b→b.live=true→w.heap.size≤β' i∨∃j b',bx[j]?=some b'∧b'.live=true∧β j=β' i
theorem Ext.refl (β:Nat→Nat) (bx:List aB) (w:World):Ext β bx w β bx w:=
 ⟨rfl,rfl,rfl,Nat.le_refl _,fun _ _ _=>rfl,fun _ c _ _ h=>⟨c,h,rfl⟩,fun _ h=>⟨rfl,h⟩,fun i b h1 h2=>.inr ⟨i,b,h1,h2,rfl⟩⟩
theorem q7 {b:aB} (h:b.live=true):b.born=true:=by cases b<;>simp_all [aB.live,aB.born]
theorem Ext.trans {β β' β'':Nat→Nat} {bx aZ N3:List aB} {w w' w'':World} (h:Ext β bx w β' aZ w') (g:Ext β' aZ w' β'' N3 w''):Ext β bx w β'' N3 w'':=by
 refine ⟨g.os.trans h.os,g.tape.trans h.tape,g.output.trans h.output,Nat.le_trans h.size g.size,?_,?_,?_,?_⟩
 ·intro k hk hl
  rw [g.block k (Nat.lt_of_lt_of_le hk h.size),h.block k hk hl]
  intro i b hb hlv he
  rcases h.live i b hb hlv with h1|⟨j,b',h1,h2,h3⟩
  ·omega
  exact hl j b' h1 h2 (h3.trans he)
 ·intro k c e f hk
  obtain ⟨c',h1,h2⟩:=h.shape k c e f hk
  obtain ⟨c'',h3,h4⟩:=g.shape k c' e f h1
  exact ⟨c'',h3,h4.trans h2⟩
 ·intro i hi
  obtain ⟨h1,h2⟩:=h.born i hi
  obtain ⟨h3,h4⟩:=g.born i h2
  exact ⟨h3.trans h1,h4⟩
 intro i b hb hlv
 rcases g.live i b hb hlv with h1|⟨j,b',h1,h2,h3⟩
 ·exact .inl (Nat.le_trans h.size h1)
 rcases h.live j b' h1 h2 with h4|⟨k,b'',h4,h5,h6⟩
 ·exact .inl (by omega)
 exact .inr ⟨k,b'',h4,h5,h6.trans h3⟩
theorem Ext.keeps {β β':Nat→Nat} {bx aZ:List aB} {w w':World} (h:Ext β bx w β' aZ w') (X:Nat→Prop):
 iW w w' (bz β bx w X) (bz β' aZ w' X):=by
 rintro blk ⟨h1,h2,h3⟩
 refine ⟨⟨Nat.lt_of_lt_of_le h1 h.size,h2,?_⟩,h.block blk h1 h3⟩
 intro i b hb hlv he
 rcases h.live i b hb hlv with h4|⟨j,b',h4,h5,h6⟩
 ·omega
 exact h3 j b' h4 h5 (h6.trans he)
structure rU (β:Nat→Nat) (bx:List aB) (w:World) (ok:Nat→Prop) (β':Nat→Nat) (aZ:List aB) (w':World) (ok':Nat→Prop):Prop where
 keeps:iW w w' ok ok'
 born:∀i,bX bx i→β' i=β i∧bX aZ i
 shape:∀(k:Nat) (c:Array Value) (e:TypeId) (f:Nat×Nat),w.heap[k]?=some (.cells c e f)→∃c',w'.heap[k]?=some (.cells c' e f)∧c'.size=c.size
theorem Ext.eS {β β':Nat→Nat} {bx aZ:List aB} {w w':World} (h:Ext β bx w β' aZ w') (X:Nat→Prop):
 rU β bx w (bz β bx w X) β' aZ w' (bz β' aZ w' X):=⟨h.keeps X,h.born,h.shape⟩
mutual
theorem ak.mono {β β':Nat→Nat} {bx aZ:List aB} {w w':World} {ok ok':Nat→Prop} (h:rU β bx w ok β' aZ w' ok'):
 ∀(x:AV) (v:Value),ak β bx w ok x v→ak β' aZ w' ok' x v
 |.any,_,_=>by simp [ak]
 |.d x,v,hv=>by simp only [ak] at hv ⊢;exact aS.mono h.keeps x v hv
 |.k c,v,hv=>by simpa [ak] using hv
 |.agg cs,v,hv=>by simp only [ak] at hv ⊢;obtain ⟨vs,e,g⟩:=hv;exact ⟨vs,e,an.mono h cs vs g⟩
 |.dX cs,v,hv=>by simp only [ak] at hv ⊢;obtain ⟨vs,e,g⟩:=hv;exact ⟨vs,e,an.mono h cs vs g⟩
 |.ptr b off,v,hv=>by simp only [ak] at hv ⊢;obtain ⟨e,g⟩:=hv;exact ⟨by rw [(h.born b g).1];exact e,(h.born b g).2⟩
 |.rp b sz i j,v,hv=>by simp only [ak] at hv ⊢;obtain ⟨e,g⟩:=hv;exact ⟨by rw [(h.born b g).1];exact e,(h.born b g).2⟩
 |.ep ds,v,hv=>by
  simp only [ak] at hv ⊢
  obtain ⟨blk,off,e,g1,g2⟩:=hv
  exact ⟨blk,off,e,(h.keeps blk g1).1,bp.mono h.keeps blk (h.keeps.cell g1) ds off g2⟩
 |.ow b sz n,v,hv=>by
  simp only [ak] at hv ⊢
  obtain ⟨g,hv⟩:=hv
  refine ⟨(h.born b g).2,hv.imp id ?_⟩
  rintro ⟨hn,cap,c,e,f,e1,e2,e3,e4⟩
  obtain ⟨c',e5,e6⟩:=h.shape _ _ _ _ e3
  rw [(h.born b g).1]
  exact ⟨hn,cap,c',e,f,e1,e2,e5,by rw [e6];exact e4⟩
 |.cl es,v,hv=>by
  simp only [ak] at hv ⊢
  obtain ⟨base,e,g⟩:=hv
  refine ⟨base,e,g.imp id ?_⟩
  rintro ⟨blk,off,sz,e1,e2,e3⟩
  exact ⟨blk,off,sz,e1,(h.keeps blk e2).1,ay.mono h.keeps blk sz (h.keeps.cell e2) es off e3⟩
 |.fn f jQ,v,hv=>by simp only [ak] at hv ⊢;obtain ⟨vs,e,g⟩:=hv;exact ⟨vs,e,an.mono h jQ vs g⟩
 |.rN t x,v,hv=>by simp only [ak] at hv ⊢;obtain ⟨u,e,g⟩:=hv;exact ⟨u,e,ak.mono h x u g⟩
 |.cond p x,v,hv=>by simp only [ak] at hv ⊢;exact ⟨fun hp=>ak.mono h x v (hv.1 hp),hv.2⟩
 |.vw b sz off n c ex,v,hv=>by
  simp only [ak] at hv ⊢
  obtain ⟨g,base,cap,cs,e,f,e1,e2,e3,e4,e5⟩:=hv
  rcases e5 with e5|⟨e5,e6,e7⟩
  ·exact ⟨(h.born b g).2,base,cap,cs,e,f,e1,e2,e3,e4,.inl e5⟩
  obtain ⟨c',k5,k6⟩:=h.shape _ _ _ _ e6
  rw [(h.born b g).1]
  exact ⟨(h.born b g).2,base,cap,c',e,f,e1,e2,e3,e4,.inr ⟨e5,k5,by rw [k6];exact e7⟩⟩
 |.Bx b,v,hv=>by simp only [ak] at hv ⊢;obtain ⟨e,g⟩:=hv;exact ⟨by rw [(h.born b g).1];exact e,(h.born b g).2⟩
theorem an.mono {β β':Nat→Nat} {bx aZ:List aB} {w w':World} {ok ok':Nat→Prop} (h:rU β bx w ok β' aZ w' ok'):
 ∀(xs:List AV) (vs:List Value),an β bx w ok xs vs→an β' aZ w' ok' xs vs
 |[],vs,hv=>by simpa [an] using hv
 |x::xs,vs,hv=>by
  simp only [an] at hv ⊢
  obtain ⟨u,us,e,g1,g2⟩:=hv
  exact ⟨u,us,e,ak.mono h x u g1,an.mono h xs us g2⟩
end
theorem an.length {β:Nat→Nat} {bx:List aB} {w:World} {ok:Nat→Prop}:∀{xs:List AV} {vs:List Value},an β bx w ok xs vs→vs.length=xs.length
 |[],vs,h=>by simp only [an] at h;simp [h]
 |x::xs,vs,h=>by simp only [an] at h;obtain ⟨u,us,rfl,_,g⟩:=h;simp [an.length g]
theorem an.get {β:Nat→Nat} {bx:List aB} {w:World} {ok:Nat→Prop}:∀{xs:List AV} {vs:List Value} (i:Nat) (x:AV),an β bx w ok xs vs→xs[i]?=some x→∃v,vs[i]?=some v∧ak β bx w ok x v
 |[],_,i,x,_,hx=>by simp at hx
 |y::ys,vs,i,x,h,hx=>by
  simp only [an] at h
  obtain ⟨u,us,rfl,g1,g2⟩:=h
  cases i with
  |zero=>simp at hx;subst hx;exact ⟨u,by simp,g1⟩
  |succ i=>simp at hx;obtain ⟨v,h1,h2⟩:=an.get i x g2 hx;exact ⟨v,by simpa using h1,h2⟩
theorem an.drop {β:Nat→Nat} {bx:List aB} {w:World} {ok:Nat→Prop}:∀(n:Nat) {xs:List AV} {vs:List Value},an β bx w ok xs vs→an β bx w ok (xs.drop n) (vs.drop n)
 |0,xs,vs,h=>by simpa using h
 |n+1,[],vs,h=>by simp only [an] at h;subst h;simp [an]
 |n+1,x::xs,vs,h=>by
  simp only [an] at h
  obtain ⟨u,us,rfl,_,g2⟩:=h
  simpa using an.drop n g2
theorem an.take {β:Nat→Nat} {bx:List aB} {w:World} {ok:Nat→Prop}:∀(n:Nat) {xs:List AV} {vs:List Value},an β bx w ok xs vs→an β bx w ok (xs.take n) (vs.take n)
 |0,xs,vs,h=>by simp [an]
 |n+1,[],vs,h=>by simp only [an] at h;subst h;simp [an]
 |n+1,x::xs,vs,h=>by
  simp only [an] at h
  obtain ⟨u,us,rfl,g1,g2⟩:=h
  simp only [List.take_succ_cons,an]
  exact ⟨u,_,rfl,g1,an.take n g2⟩
theorem an.append {β:Nat→Nat} {bx:List aB} {w:World} {ok:Nat→Prop}:∀{xs ys:List AV} {vs us:List Value},an β bx w ok xs vs→an β bx w ok ys us→an β bx w ok (xs++ys) (vs++us)
 |[],ys,vs,us,h,g=>by simp only [an] at h;subst h;simpa using g
 |x::xs,ys,vs,us,h,g=>by
  simp only [an] at h
  obtain ⟨u,N4,rfl,g1,g2⟩:=h
  simp only [List.cons_append,an]
  exact ⟨u,_,rfl,g1,an.append g2 g⟩
def bu:List Value→Nat→List Value→List Value
 |cs,_,[]=>cs
 |[],_,_::_=>[]
 |_::cs,0,v::vs=>v::bu cs 0 vs
 |c::cs,n+1,v::vs=>c::bu cs n (v::vs)
theorem an.eI {β:Nat→Nat} {bx:List aB} {w:World} {ok:Nat→Prop}:∀{xs:List AV} {vs:List Value} (n:Nat) {ys:List AV} {us:List Value},an β bx w ok xs vs→an β bx w ok ys us→
 an β bx w ok (Dem.eI xs n ys) (bu vs n us)
 |xs,vs,n,[],us,h,g=>by
  simp only [an] at g;subst g
  cases xs<;>cases vs<;>simpa [Dem.eI,bu] using h
 |[],vs,n,y::ys,us,h,g=>by
  simp only [an] at h g;obtain ⟨u,N4,rfl,_,_⟩:=g;subst h
  simp [Dem.eI,bu,an]
 |x::xs,vs,0,y::ys,us,h,g=>by
  simp only [an] at h g
  obtain ⟨u,N4,rfl,g1,g2⟩:=g
  obtain ⟨v,vs',rfl,h1,h2⟩:=h
  simp only [Dem.eI,bu,an]
  exact ⟨u,_,rfl,g1,an.eI 0 h2 g2⟩
 |x::xs,vs,n+1,y::ys,us,h,g=>by
  simp only [an] at h
  obtain ⟨v,vs',rfl,h1,h2⟩:=h
  have g0:=g
  simp only [an] at g
  obtain ⟨u,N4,rfl,g1,g2⟩:=g
  simp only [Dem.eI,bu,an]
  exact ⟨v,_,rfl,h1,an.eI n h2 g0⟩
theorem dm.mono {β β':Nat→Nat} {bx aZ:List aB} {w w':World} {ok ok':Nat→Prop} (h:rU β bx w ok β' aZ w' ok') {b:aB} {blk:Nat}
 (hl:b.live=true→w'.heap[blk]?=w.heap[blk]?) (hb:dm β bx w ok b blk):dm β' aZ w' ok' b blk:=by
 cases b with
 |var cs=>
  obtain ⟨c,e,h1,h2⟩:=hb
  exact ⟨c,e,by rw [hl rfl];exact h1,an.mono h _ _ h2⟩
 |row sz es=>
  cases es with
  |nil=>exact .inl rfl
  |cons r rs=>
   rcases hb with hb|⟨c,e,h1,h2⟩
   ·exact .inl hb
   exact .inr ⟨c,e,by rw [hl rfl];exact h1,ay.mono h.keeps blk sz (fun off=>m5 (hl rfl) off _) _ _ h2⟩
 |kx sz es=>
  rcases hb with hb|⟨h1,h2⟩
  ·exact .inl hb
  exact .inr ⟨(h.keeps blk h1).1,ay.mono h.keeps blk sz (h.keeps.cell h1) _ _ h2⟩
 |it s pos=>simp only [dm] at hb ⊢;rw [hl rfl];exact hb
 |mp ag es=>
  obtain ⟨ms,clock,h1,h2,h3⟩:=hb
  exact ⟨ms,clock,by rw [hl rfl];exact h1,h2,bA.mono h.keeps ag es _ h3⟩
 |dead=>trivial
 |bC=>trivial
theorem cJ.step {G:Nat→Option (List D)} {β β':Nat→Nat} {bx aZ:List aB} {w w':World} {X:Nat→Prop} (cx:cJ G β bx w X) (ex:Ext β bx w β' aZ w')
 (YI:∀i b,aZ[i]?=some b→(bx[i]?=some b∧(b.live=true→w'.heap[β i]?=w.heap[β i]?))∨dm β' aZ w' (bz β' aZ w' X) b (β' i))
 (hinj:∀i j bi bj,aZ[i]?=some bi→aZ[j]?=some bj→bi.live=true→bj.live=true→β' i=β' j→i=j):cJ G β' aZ w' X:=by
 refine ⟨fun blk hb=>Nat.lt_of_lt_of_le (cx.xs blk hb) ex.size,?_,hinj,?_,?_⟩
 ·intro g ds hg
  obtain ⟨h1,h2⟩:=cx.ym g ds hg
  exact ⟨(ex.keeps X g h1).1,bp.mono (ex.keeps X) g ((ex.keeps X).cell h1) _ _ h2⟩
 ·intro i b hb
  rcases YI i b hb with ⟨h1,h2⟩|h
  ·by_cases dQ:b.born=true
   ·rw [(ex.born i ⟨b,h1,dQ⟩).1]
    exact dm.mono (ex.eS X) h2 (cx.box i b h1)
   cases b<;>simp_all [aB.born,dm]
  exact h
 intro i b hb hl hX
 rcases ex.live i b hb hl with h|⟨j,b',h1,h2,h3⟩
 ·have:=cx.xs _ hX;omega
 exact cx.apart j b' h1 h2 (h3▸hX)
structure Du (w w':World):Prop where
 heap:w'.heap=w.heap
 os:w'.os=w.os
 tape:w'.tape=w.tape
 output:w'.output=w.output
theorem iX {β:Nat→Nat} {bx:List aB} {w w':World} (h:Du w w'):Ext β bx w β bx w':=
 ⟨h.os,h.tape,h.output,by rw [h.heap];exact Nat.le_refl _,fun k _ _=>by rw [h.heap],fun k c e f hk=>⟨c,by rw [h.heap];exact hk,rfl⟩,fun i hi=>⟨rfl,hi⟩,fun i b h1 h2=>.inr ⟨i,b,h1,h2,rfl⟩⟩
theorem pH {G:Nat→Option (List D)} {β:Nat→Nat} {bx:List aB} {w w':World} {X:Nat→Prop} (cx:cJ G β bx w X) (h:Du w w'):cJ G β bx w' X:=
 cx.step (iX h) (fun i b hb=>.inl ⟨hb,fun _=>by rw [h.heap]⟩) cx.inj
theorem fB (w:World):Du w {w with drawn:=w.drawn+1}:=⟨rfl,rfl,rfl,rfl⟩
theorem iY (w:World) (o:Obj) (k:Nat) (h:k<w.heap.size):({w with heap:=w.heap.push o}:World).heap[k]?=w.heap[k]?:=by
 show (w.heap.push o)[k]?=_
 rw [Array.getElem?_push,if_neg (by omega)]
theorem iZ (w:World) (o:Obj):({w with heap:=w.heap.push o}:World).heap[w.heap.size]?=some o:=by
 show (w.heap.push o)[w.heap.size]?=_
 simp
theorem eZ {w:World} {k:Nat} {o:Obj} (h:w.heap[k]?=some o):k<w.heap.size:=by
 rcases Nat.lt_or_ge k w.heap.size with h'|h'
 ·exact h'
 simp [Array.getElem?_eq_none h'] at h
theorem tU {β:Nat→Nat} {bx:List aB} {w:World} (o:Obj):Ext β bx w β bx {w with heap:=w.heap.push o}:=by
 refine ⟨rfl,rfl,rfl,by simp,fun k hk _=>iY w o k hk,fun k c e f hk=>⟨c,?_,rfl⟩,fun i hi=>⟨rfl,hi⟩,fun i b h1 h2=>.inr ⟨i,b,h1,h2,rfl⟩⟩
 rw [iY w o k (eZ hk)];exact hk
theorem dm.fI {β:Nat→Nat} {bx:List aB} {w:World} {ok:Nat→Prop} {b:aB} {blk:Nat} (h:dm β bx w ok b blk) (hl:b.live=true):blk<w.heap.size:=by
 cases b with
 |var cs=>obtain ⟨c,e,h1,_⟩:=h;exact eZ h1
 |row sz es=>
  cases es with
  |nil=>simp [aB.live] at hl
  |cons r rs=>
   rcases h with h|⟨c,e,h1,_⟩;· simp at h
   exact eZ h1
 |it s pos=>exact eZ h
 |mp ag es=>obtain ⟨ms,clock,h1,_⟩:=h;exact eZ h1
 |kx _ _=>simp [aB.live] at hl
 |dead=>simp [aB.live] at hl
 |bC=>simp [aB.live] at hl
theorem E3 {G:Nat→Option (List D)} {β:Nat→Nat} {bx:List aB} {w:World} {X:Nat→Prop} (cx:cJ G β bx w X) (o:Obj):cJ G β bx {w with heap:=w.heap.push o} X:=
 cx.step (tU o) (fun i b hb=>.inl ⟨hb,fun hl=>iY w o _ ((cx.box i b hb).fI hl)⟩) cx.inj
def kS (β:Nat→Nat) (i blk:Nat):Nat→Nat:=fun j=>if j=i then blk else β j
theorem bB (β:Nat→Nat) (i blk:Nat):kS β i blk i=blk:=by simp [kS]
theorem c8 (β:Nat→Nat) {i j:Nat} (blk:Nat) (h:j≠i):kS β i blk j=β j:=by simp [kS,h]
theorem eG {bx:List aB} {B:aB} {i:Nat} {b:aB} (h:bx[i]?=some b):(bx++[B])[i]?=some b:=by
 have:i<bx.length:=by
  rcases Nat.lt_or_ge i bx.length with h'|h';· exact h'
  simp [List.getElem?_eq_none h'] at h
 rw [List.getElem?_append_left this];exact h
theorem bD {bx:List aB} {B:aB} {i:Nat} {b:aB} (h:(bx++[B])[i]?=some b):(bx[i]?=some b∧i<bx.length)∨(i=bx.length∧b=B):=by
 rcases Nat.lt_or_ge i bx.length with h'|h'
 ·rw [List.getElem?_append_left h'] at h;exact .inl ⟨h,h'⟩
 rw [List.getElem?_append_right h'] at h
 by_cases hi:i=bx.length
 ·subst hi;simp at h;exact .inr ⟨rfl,h.symm⟩
 simp [show i-bx.length≠0 by omega] at h
theorem fY {β:Nat→Nat} {bx:List aB} {w:World} (o:Obj) (B:aB):Ext β bx w (kS β bx.length w.heap.size) (bx++[B]) {w with heap:=w.heap.push o}:=by
 refine ⟨rfl,rfl,rfl,by simp,fun k hk _=>iY w o k hk,fun k c e f hk=>⟨c,?_,rfl⟩,?_,?_⟩
 ·rw [iY w o k (eZ hk)];exact hk
 ·rintro i ⟨b,h1,h2⟩
  have:i<bx.length:=by
   rcases Nat.lt_or_ge i bx.length with h'|h';· exact h'
   simp [List.getElem?_eq_none h'] at h1
  exact ⟨c8 _ _ (by omega),b,eG h1,h2⟩
 intro i b h1 h2
 rcases bD h1 with ⟨h3,h4⟩|⟨rfl,rfl⟩
 ·exact .inr ⟨i,b,h3,h2,(c8 _ _ (by omega)).symm⟩
 exact .inl (by rw [bB];exact Nat.le_refl _)
theorem kC {G:Nat→Option (List D)} {β:Nat→Nat} {bx:List aB} {w:World} {X:Nat→Prop} (cx:cJ G β bx w X) (o:Obj) (B:aB)
 (hB:dm (kS β bx.length w.heap.size) (bx++[B]) {w with heap:=w.heap.push o} (bz (kS β bx.length w.heap.size) (bx++[B]) {w with heap:=w.heap.push o} X) B w.heap.size):
 cJ G (kS β bx.length w.heap.size) (bx++[B]) {w with heap:=w.heap.push o} X:=by
 refine cx.step (fY o B) ?_ ?_
 ·intro i b hb
  rcases bD hb with ⟨h3,h4⟩|⟨rfl,rfl⟩
  ·exact .inl ⟨h3,fun hl=>iY w o _ ((cx.box i b h3).fI hl)⟩
  exact .inr (by rw [bB];exact hB)
 intro i j bi bj h1 h2 l1 l2 he
 rcases bD h1 with ⟨h3,h4⟩|⟨rfl,rfl⟩<;>rcases bD h2 with ⟨h5,h6⟩|⟨rfl,rfl⟩
 ·rw [c8 _ _ (by omega),c8 _ _ (by omega)] at he
  exact cx.inj i j bi bj h3 h5 l1 l2 he
 ·rw [c8 _ _ (by omega),bB] at he
  have:=(cx.box i bi h3).fI l1;omega
 ·rw [bB,c8 _ _ (by omega)] at he
  have:=(cx.box j bj h5).fI l2;omega
 rfl
end Dem
end
section
open Go
namespace Dem
structure ko (P:Program) (T:Nat→Option TI):Prop where
 ti:∀t ti,T t=some ti→o9 P t=some ti
 fields:∀t ti fs,T t=some ti→ti.kd=.struct fs→∀f∈fs,∃tf,T f.2=some tf
 deep:8≤P.depth
theorem aP {P:Program} {t:Nat} {ti:TI} (h:o9 P t=some ti):
 ∃i d,P.info? t=some i∧P.underlying t=some d∧ti.size=i.size∧ti.bytes=i.bytes∧ti.kd=cR d∧ti.zero=(match i.zero with|some z=>Rm z|none=>.any):=by
 unfold o9 at h
 split at h
 ·rename_i i d h1 h2
  simp at h;subst h
  exact ⟨i,d,h1,h2,rfl,rfl,rfl,rfl⟩
 simp at h
theorem L3 {P:Program} {t:Nat} {ti:TI} (h:o9 P t=some ti) {nm:String} {f:Nat} (hi:ti.inv=some (nm,f)):
 ∃i d,P.info? t=some i∧P.underlying t=some d∧(∀e,d≠.pointer e)∧∃m,i.methods.find? (fun m=>m.name==nm)=some m∧m.path.toList=[]∧m.func=some (f,false):=by
 unfold o9 at h
 split at h
 ·rename_i i d h1 h2
  simp only [osI] at h;subst h
  simp only at hi
  cases hp:(cR d).plain with
  |false=>simp [hp] at hi
  |true=>
  simp only [hp,cond_true] at hi
  refine ⟨i,d,h1,h2,fun e he=>by subst he;simp [cR,Kd.plain] at hp,?_⟩
  unfold Tv at hi
  obtain ⟨Wh,hn,hi⟩:=List.exists_of_findSome?_eq_some hi
  split at hi
  ·rename_i a b path g hm
   cases he:path.toList.isEmpty with
   |false=>simp [he] at hi
   |true=>
   simp only [he,cond_true,osI,Prod.mk.injEq] at hi
   obtain ⟨rfl,rfl⟩:=hi
   exact ⟨_,by rw [←Array.find?_toList];exact hm,by simpa using he,rfl⟩
  cases hi
 simp at h
theorem Rr {P:Program} {t:Nat} {ti:TI} (h:o9 P t=some ti) {d:TypeDesc} (hd:P.underlying t=some d):ti.eq=NT P t d:=by
 unfold o9 at h
 split at h
 ·rename_i i d' h1 h2
  rw [hd] at h2
  simp at h;subst h
  simp only [osI] at h2;subst h2;rfl
 simp at h
section
variable {P:Program} {w:World} {t:Nat}
theorem bc {d:TypeDesc} (h:P.underlying t=some d):(underlying t).run P w=.ok d w:=by
 simp [underlying,program,Sem.run,h,Bind.bind,Sem.bind,Pure.pure]
theorem lP {i:TypeInfo} (h:P.info? t=some i):(typeInfo t).run P w=.ok i w:=by
 simp [typeInfo,program,Sem.run,h,Bind.bind,Sem.bind,Pure.pure]
theorem bV {i:TypeInfo} (h:P.info? t=some i):(Go.sizeOf t).run P w=.ok i.size w:=by
 simp [Go.sizeOf,lP h]
theorem gH {i:TypeInfo} {z:Value} (h:P.info? t=some i) (hz:i.zero=some z):(zeroValue t).run P w=.ok z w:=by
 simp [zeroValue,lP h,hz]
theorem Ca {d:TypeDesc} (h:P.underlying t=some d):(isAgg t).run P w=.ok (cR d).isAgg w:=by
 simp [isAgg,bc h]
 cases d<;>simp [cR,Kd.isAgg]
theorem run_load {a:Addr} {v:Value} (h:w.cell? a=some v):(load a).run P w=.ok v w:=by
 simp [load,Sem.run,h]
end
theorem fL (blk off n:Nat):(⟨blk,off,none⟩:Addr).add n=⟨blk,off+n,none⟩:=by
 unfold Addr.add;split
 ·simp_all
 rfl
theorem run_loadCellsFrom {P:Program} {w:World} {blk off:Nat}:∀(vs:List Value) (i:Nat) (acc:Array Value),(∀j v,vs[j]?=some v→w.cell? ⟨blk,off+i+j,none⟩=some v)→
 (loadCellsFrom ⟨blk,off,none⟩ i vs.length acc).run P w=.ok (acc++vs.toArray) w
 |[],i,acc,_=>by simp [loadCellsFrom]
 |v::vs,i,acc,h=>by
  have h0:=h 0 v rfl
  simp only [List.length_cons,loadCellsFrom,fL,Sem.run_bind]
  rw [run_load (v:=v) (by simpa using h0)]
  simp only [Result.andThen_ok]
  rw [run_loadCellsFrom vs (i+1) (acc.push v) (fun j u hj=>by have:=h (j+1) u (by simpa using hj);rwa [show off+i+(j+1)=off+(i+1)+j by omega] at this)]
  simp
theorem run_loadCells {P:Program} {w:World} {blk off:Nat} (vs:List Value) (h:∀j v,vs[j]?=some v→w.cell? ⟨blk,off+j,none⟩=some v):
 (loadCells ⟨blk,off,none⟩ vs.length).run P w=.ok vs.toArray w:=by
 have:=run_loadCellsFrom (P:=P) vs 0 #[] (w:=w) (blk:=blk) (off:=off) (by simpa using h)
 simpa [loadCells] using this
def dF (G:Nat→Option (List D)) (β:Nat→Nat) (bx:List aB) (w:World) (X:Nat→Prop) (r:Result Next) (v:AV) (aZ:List aB):Prop:=
 ∃β' w',Ext β bx w β' aZ w'∧cJ G β' aZ w' X∧
  ((∃u,r=.ok (.value u) w'∧ak β' aZ w' (bz β' aZ w' X) v u)∨(r=.ok .skip w'∧v=.any))
section
variable {P:Program} {T:Nat→Option TI} {G:Nat→Option (List D)} {β:Nat→Nat} {bx:List aB} {w:World} {X:Nat→Prop}
theorem dF.pure {r:Result Next} {v:AV} {u:Value} (cx:cJ G β bx w X) (hr:r=.ok (.value u) w) (h:ak β bx w (bz β bx w X) v u):dF G β bx w X r v bx:=
 ⟨β,w,Ext.refl _ _ _,cx,.inl ⟨u,hr,h⟩⟩
theorem q8 {ok:Nat→Prop} {blk:Nat}:∀(ds:List D) (off:Nat),bp w ok blk ds off→∃vs,vs.length=ds.length∧(∀j v,vs[j]?=some v→w.cell? ⟨blk,off+j,none⟩=some v)∧
 an β bx w ok (ds.map .d) vs
 |[],off,_=>⟨[],rfl,by simp,by simp [an]⟩
 |x::xs,off,h=>by
  simp only [bp] at h
  obtain ⟨⟨u,h1,h2⟩,h3⟩:=h
  obtain ⟨vs,g1,g2,g3⟩:=q8 xs (off+1) h3
  refine ⟨u::vs,by simp [g1],?_,?_⟩
  ·intro j v hj
   cases j with
   |zero=>simp at hj;subst hj;simpa using h1
   |succ j=>have:=g2 j v (by simpa using hj);rwa [show off+(j+1)=off+1+j by omega]
  simp only [List.map_cons,an,ak];exact ⟨u,vs,rfl,h2,g3⟩
theorem bp.drop {ok:Nat→Prop} {blk:Nat}:∀(n:Nat) (ds:List D) (off:Nat),bp w ok blk ds off→bp w ok blk (ds.drop n) (off+n)
 |0,ds,off,h=>by simpa using h
 |n+1,[],off,h=>by simp [bp]
 |n+1,x::xs,off,h=>by
  simp only [bp] at h
  have:=bp.drop n xs (off+1) h.2
  simpa [show off+(n+1)=off+1+n by omega] using this
theorem bp.take {ok:Nat→Prop} {blk:Nat}:∀(n:Nat) (ds:List D) (off:Nat),bp w ok blk ds off→bp w ok blk (ds.take n) off
 |0,ds,off,h=>by simp [bp]
 |n+1,[],off,h=>by simp [bp]
 |n+1,x::xs,off,h=>by
  simp only [bp] at h
  simp only [List.take_succ_cons,bp]
  exact ⟨h.1,bp.take n xs _ h.2⟩
theorem ay.get {ok:Nat→Prop} {blk sz:Nat}:∀(i:Nat) (es:List (List D)) (off:Nat),ay w ok blk sz es off→i<es.length→(es.getD i []).length=sz∧bp w ok blk (es.getD i []) (off+i*sz)
 |_,[],_,_,hi=>by simp at hi
 |0,r::rs,off,h,_=>by simp only [ay] at h;simpa using ⟨h.1,h.2.1⟩
 |i+1,r::rs,off,h,hi=>by
  simp only [ay] at h
  have:=ay.get i rs (off+sz) h.2.2 (by simpa using hi)
  simpa [Nat.add_mul,show off+sz+i*sz=off+(i*sz+sz) by omega] using this
theorem sF {ti:TI} {t:Nat} (ht:o9 P t=some ti) {cs:List AV} {v:AV} {vs:List Value} {blk off:Nat} {ok:Nat→Prop}
 (hs:cL ti.kd.isAgg ti.size cs=some v) (hr:an β bx w ok cs vs) (hc:∀j v,vs[j]?=some v→w.cell? ⟨blk,off+j,none⟩=some v):
 ∃u,(loadVar t ⟨blk,off,none⟩).run P w=.ok u w∧ak β bx w ok v u:=by
 obtain ⟨i,d,h1,h2,h3,h4,h5,h6⟩:=aP ht
 unfold cL at hs
 simp only [loadVar,Sem.run_bind,Ca h2,Result.andThen_ok,h5] at hs ⊢
 cases hk:(cR d).isAgg with
 |true=>
  simp only [hk,cond_true] at hs
  cases hle:Nat.ble ti.size cs.length with
  |false=>simp [hle] at hs
  |true=>
   simp only [hle,cond_true,osI] at hs
   subst hs
   have hlen:=an.length hr
   have hle':ti.size≤cs.length:=Nat.le_of_ble_eq_true hle
   have:=run_loadCells (P:=P) (w:=w) (blk:=blk) (off:=off) (vs.take ti.size) (fun j v hj=>by
    rw [List.getElem?_take] at hj
    split at hj
    ·exact hc j v hj
    simp at hj)
   rw [List.length_take,Nat.min_eq_left (by omega)] at this
   simp only [if_true,Sem.run_bind,bV h1,Result.andThen_ok,←h3,this]
   exact ⟨_,rfl,by simp only [ak];exact ⟨_,rfl,an.take _ hr⟩⟩
 |false=>
  simp only [hk,cond_false] at hs
  cases cs with
  |nil=>simp at hs
  |cons c cs=>
   simp at hs;subst hs
   simp only [an] at hr
   obtain ⟨u,us,rfl,g1,_⟩:=hr
   have:=hc 0 u rfl
   simp only [Bool.false_eq_true,if_false]
   exact ⟨u,run_load (by simpa using this),g1⟩
theorem zk (hT:ko P T) (cx:cJ G β bx w X) {t:Nat} {ti:TI} (ht:T t=some ti) {a:AV} {u:Value} (ha:ak β bx w (bz β bx w X) a u)
 {c:Prop} {v:AV} {b:Option (List aB)} (hr:oX ti a bx=some ⟨c,v,b⟩) (hc:c):
 b=none∧∃x,(Instr.loadAt t u).run P w=.ok x w∧ak β bx w (bz β bx w X) v x:=by
 have ht':=hT.ti t ti ht
 unfold oX at hr
 split at hr
 ·rename_i b' off
  simp only [ak] at ha
  obtain ⟨rfl,hb⟩:=ha
  split at hr
  ·rename_i cs rf
   split at hr
   ·rename_i v' hs
    simp only [R.pure,osI,R.mk.injEq] at hr
    obtain ⟨_,rfl,rfl⟩:=hr
    obtain ⟨ca,e,h1,h2⟩:=cx.box _ _ rf
    have h3:=an.drop off h2
    obtain ⟨x,g1,g2⟩:=sF (P:=P) (w:=w) (blk:=β b') (off:=off) ht' hs h3 (fun j v hj=>by
     rw [List.getElem?_drop] at hj
     simp only [World.cell?,h1]
     simpa using hj)
    exact ⟨rfl,x,by simpa [Instr.loadAt,Instr.sureAddr] using g1,g2⟩
   simp at hr
  simp at hr
 ·rename_i ds
  simp only [ak] at ha
  obtain ⟨blk,off,rfl,hb,hrow⟩:=ha
  split at hr
  ·rename_i v' hs
   simp only [R.pure,osI,R.mk.injEq] at hr
   obtain ⟨_,rfl,rfl⟩:=hr
   obtain ⟨vs,g1,g2,g3⟩:=q8 (β:=β) (bx:=bx) ds off hrow
   obtain ⟨x,k1,k2⟩:=sF (P:=P) (w:=w) (blk:=blk) (off:=off) ht' hs g3 g2
   exact ⟨rfl,x,by simpa [Instr.loadAt,Instr.sureAddr] using k1,k2⟩
  simp at hr
 ·rename_i b' sz i j
  simp only [ak] at ha
  obtain ⟨rfl,hb⟩:=ha
  have main:∀(s:Nat) (es:List (List D)),i<es.length→s=sz→ay w (bz β bx w X) (β b') s es 0→∀v',cL ti.kd.isAgg ti.size (List.map AV.d ((es.getD i []).drop j))=some v'→
   ∃x,(Instr.loadAt t (.pointer (some ⟨β b',i*sz+j,none⟩))).run P w=.ok x w∧ak β bx w (bz β bx w X) v' x:=by
   intro s es hi hs hrows v' hsp
   obtain ⟨_,hrow⟩:=ay.get i es 0 hrows hi
   have hrow:=bp.drop j _ _ hrow
   obtain ⟨vs,g1,g2,g3⟩:=q8 (β:=β) (bx:=bx) _ _ hrow
   subst hs
   obtain ⟨x,k1,k2⟩:=sF (P:=P) (w:=w) (blk:=β b') (off:=0+i*s+j) ht' hsp g3 g2
   exact ⟨x,by simpa [Instr.loadAt,Instr.sureAddr] using k1,k2⟩
  split at hr
  ·rename_i s es rf
   split at hr
   ·rename_i v' hsp
    simp only [osI,R.mk.injEq] at hr
    obtain ⟨rfl,rfl,rfl⟩:=hr
    rcases cx.box _ _ rf with h|⟨ca,e,h1,h2⟩
    ·subst h;simp at hc
    exact ⟨rfl,main s es hc.2 hc.1 h2 _ hsp⟩
   simp at hr
  ·rename_i s es rf
   split at hr
   ·rename_i v' hsp
    simp only [osI,R.mk.injEq] at hr
    obtain ⟨rfl,rfl,rfl⟩:=hr
    rcases cx.box _ _ rf with h|⟨h1,h2⟩
    ·subst h;simp at hc
    exact ⟨rfl,main s es hc.2 hc.1 h2 _ hsp⟩
   simp at hr
  simp at hr
 simp at hr
def Ih:Value→Prop
 |.agg _=>False
 |.tuple _=>False
 |_=>True
theorem aS.sc {ok:Nat→Prop} {x:D} {v:Value} (h:aS w ok x v):Ih v:=by
 cases x<;>simp only [aS] at h
 ·subst h;trivial
 ·subst h;trivial
 ·subst h;trivial
 ·obtain ⟨_,_,rfl,_⟩:=h;trivial
 ·subst h;trivial
 obtain ⟨_,_,_,rfl,_⟩:=h;trivial
theorem ak.sc {ok:Nat→Prop} {x:AV} {v:Value} (hx:x.sc=true) (h:ak β bx w ok x v):Ih v:=by
 cases x<;>simp only [AV.sc,Bool.false_eq_true] at hx<;>simp only [ak] at h
 ·exact aS.sc h
 ·rename_i c;subst h;cases c<;>trivial
 ·obtain ⟨rfl,_⟩:=h;trivial
 ·obtain ⟨rfl,_⟩:=h;trivial
 ·obtain ⟨_,_,rfl,_⟩:=h;trivial
 ·obtain ⟨_,h|h⟩:=h
  ·obtain ⟨_,_,rfl⟩:=h;trivial
  obtain ⟨_,_,_,_,_,rfl,_⟩:=h;trivial
 ·obtain ⟨_,rfl,_⟩:=h;trivial
 ·obtain ⟨vs,rfl,_⟩:=h;obtain ⟨a,b,e⟩:=E2 _ vs;rw [e];trivial
 ·obtain ⟨_,rfl,_⟩:=h;trivial
 obtain ⟨rfl,_⟩:=h;trivial
theorem an.sc {ok:Nat→Prop}:∀{xs:List AV} {vs:List Value},tL xs=true→an β bx w ok xs vs→∀v∈vs,Ih v
 |[],vs,_,h=>by simp only [an] at h;subst h;simp
 |x::xs,vs,hx,h=>by
  simp only [an] at h
  obtain ⟨u,us,rfl,g1,g2⟩:=h
  cases hs:x.sc with
  |false=>simp [tL,hs] at hx
  |true=>
   simp only [tL,hs,cond_true] at hx
   intro v hv
   rcases List.mem_cons.1 hv with rfl|hv
   ·exact ak.sc hs g1
   exact an.sc hx g2 v hv
theorem nA {ok:Nat→Prop} {x:AV} {v:Value} {cs:List AV} (hx:x.cells?=some cs) (h:ak β bx w ok x v):
 ∃vs,v.cells=⟨vs⟩∧an β bx w ok cs vs∧(∀u∈vs,Ih u):=by
 have one:∀(y:AV) (u:Value),y.sc=true→ak β bx w ok y u→∃vs,u.cells=⟨vs⟩∧an β bx w ok [y] vs∧(∀u∈vs,Ih u):=by
  intro y u hy hu
  have:=ak.sc hy hu
  refine ⟨[u],?_,by simp only [an];exact ⟨u,[],rfl,hu,rfl⟩,by simpa using this⟩
  cases u<;>simp_all [Value.cells,Ih]
 cases x with
 |any=>simp [AV.cells?] at hx
 |vw _ _ _ _ _ _=>simp [AV.cells?] at hx
 |dX _=>simp [AV.cells?] at hx
 |cond _ _=>simp [AV.cells?] at hx
 |agg as=>
  simp only [AV.cells?] at hx
  cases ha:tL as with
  |false=>simp [ha] at hx
  |true=>
   simp only [ha,cond_true,osI] at hx
   subst hx
   simp only [ak] at h
   obtain ⟨vs,rfl,g⟩:=h
   exact ⟨vs,rfl,g,an.sc ha g⟩
 |d x=>simp only [AV.cells?,osI] at hx;subst hx;exact one _ _ rfl h
 |k x=>simp only [AV.cells?,osI] at hx;subst hx;exact one _ _ rfl h
 |ptr _ _=>simp only [AV.cells?,osI] at hx;subst hx;exact one _ _ rfl h
 |rp _ _ _ _=>simp only [AV.cells?,osI] at hx;subst hx;exact one _ _ rfl h
 |ep _=>simp only [AV.cells?,osI] at hx;subst hx;exact one _ _ rfl h
 |ow _ _ _=>simp only [AV.cells?,osI] at hx;subst hx;exact one _ _ rfl h
 |cl _=>simp only [AV.cells?,osI] at hx;subst hx;exact one _ _ rfl h
 |fn _ _=>simp only [AV.cells?,osI] at hx;subst hx;exact one _ _ rfl h
 |rN _ _=>simp only [AV.cells?,osI] at hx;subst hx;exact one _ _ rfl h
 |Bx _=>simp only [AV.cells?,osI] at hx;subst hx;exact one _ _ rfl h
def dZ (w:World) (blk:Nat) (o:Obj):World:={w with heap:=w.heap.setIfInBounds blk o}
theorem zl (w:World) (blk:Nat) (o:Obj) (k:Nat):(dZ w blk o).heap[k]?=if k=blk then (w.heap[k]?).map (fun _=>o) else w.heap[k]?:=by
 show (w.heap.setIfInBounds blk o)[k]?=_
 rw [Array.getElem?_setIfInBounds]
 by_cases h:blk=k
 ·subst h
  by_cases hk:blk<w.heap.size
  ·simp [hk]
  simp [hk]
 simp [h,Ne.symm h]
theorem dS {w:World} {blk:Nat} {o o':Obj} (h:w.heap[blk]?=some o'):(dZ w blk o).heap[blk]?=some o:=by rw [zl];simp [h]
theorem iK {w:World} {blk k:Nat} {o:Obj} (h:k≠blk):(dZ w blk o).heap[k]?=w.heap[k]?:=by rw [zl];simp [h]
theorem Dv (w:World) (blk:Nat) (o o':Obj):dZ (dZ w blk o) blk o'=dZ w blk o':=by
 unfold dZ
 simp
theorem E4 {w:World} {blk off:Nat} {c:Array Value} {e:TypeId} {f:Nat×Nat} (h:w.heap[blk]?=some (.cells c e f)) (v:Value):
 w.setCell ⟨blk,off,none⟩ v=dZ w blk (.cells (c.setIfInBounds off v) e f):=by
 unfold World.setCell dZ
 congr 1
 apply Array.ext_getElem?
 intro i
 rw [Array.getElem?_modify,Array.getElem?_setIfInBounds]
 by_cases hi:blk=i
 ·subst hi
  have hlt:=eZ h
  have h':w.heap[blk]=.cells c e f:=by simpa [hlt] using h
  simp [hlt,h']
 simp [hi]
theorem oe:∀(l:List Value) (n:Nat) (v:Value) (vs:List Value),bu l n (v::vs)=bu (l.set n v) (n+1) vs
 |[],n,v,vs=>by cases vs<;>simp [bu]
 |c::cs,0,v,vs=>by
  simp only [bu,List.set_cons_zero]
  cases vs with
  |nil=>cases cs<;>simp [bu]
  |cons u us=>simp [bu]
 |c::cs,n+1,v,vs=>by
  simp only [bu,List.set_cons_succ]
  rw [oe cs n v vs]
  cases vs with
  |nil=>simp [bu]
  |cons u us=>simp [bu]
theorem Ii {w:World} {blk off:Nat} {c:Array Value} {e:TypeId} (h:w.heap[blk]?=some (.cells c e (0,0))) (ho:off<c.size) {v:Value} (hv:Ih v):
 (store ⟨blk,off,none⟩ v).run P w=.ok () (dZ w blk (.cells (c.setIfInBounds off v) e (0,0))):=by
 have h1:w.cell? ⟨blk,off,none⟩=some c[off]:=by simp [World.cell?,h,ho]
 have h2:w.frozen? ⟨blk,off,none⟩=false:=by simp [World.frozen?,h]
 rw [←E4 h]
 cases v<;>simp [Ih] at hv<;>simp [store,Sem.run,h1,h2]
theorem je {blk off:Nat} {e:TypeId}:∀(vs:List Value) (i:Nat) (w:World) (c:Array Value),w.heap[blk]?=some (.cells c e (0,0))→(∀v∈vs,Ih v)→off+i+vs.length≤c.size→
 (storeCells ⟨blk,off,none⟩ vs i).run P w=.ok () (dZ w blk (.cells ⟨bu c.toList (off+i) vs⟩ e (0,0)))
 |[],i,w,c,h,_,_=>by
  have:dZ w blk (.cells c e (0,0))=w:=by
   have:w.heap.setIfInBounds blk (.cells c e (0,0))=w.heap:=by
    apply Array.ext_getElem?
    intro k
    rw [Array.getElem?_setIfInBounds]
    split
    ·rename_i hk;subst hk;split<;>simp_all
    rfl
   simp [dZ,this]
  cases hc:c.toList with
  |nil=>
   simp [storeCells,bu];have vB:c=#[]:=by simpa using hc
   subst vB;exact this.symm
  |cons x xs=>simp [storeCells,bu];rw [←hc];exact this.symm
 |v::vs,i,w,c,h,hs,hl=>by
  simp only [List.length_cons] at hl
  simp only [storeCells,Sem.run_bind,fL]
  rw [Ii h (by omega) (hs v (by simp))]
  simp only [Result.andThen_ok]
  rw [je vs (i+1) _ (c.setIfInBounds (off+i) v) (dS h) (fun u hu=>hs u (by simp [hu])) (by simp;omega),Dv,oe]
  congr 4
  simp [show off+(i+1)=off+i+1 by omega]
theorem tV {t:Nat} {ti:TI} (ht:o9 P t=some ti) {blk off:Nat} {w:World} {c:Array Value} {e:TypeId} (h:w.heap[blk]?=some (.cells c e (0,0))) {v:Value} {vs:List Value} (hv:v.cells=⟨vs⟩)
 (hs:∀u∈vs,Ih u) (hn:vs.length=ti.size) (hl:off+vs.length≤c.size):
 (storeVar t ⟨blk,off,none⟩ v).run P w=.ok () (dZ w blk (.cells ⟨bu c.toList off vs⟩ e (0,0))):=by
 obtain ⟨i,d,h1,h2,h3,h4,h5,h6⟩:=aP ht
 have:=je (P:=P) (off:=off) vs 0 w c h hs (by simpa using hl)
 simp only [Nat.add_zero] at this
 simp [storeVar,hv,bV h1,hn,h3,this]
theorem dx:∀(l:List Value) (n:Nat) (vs:List Value),(bu l n vs).length=l.length
 |l,n,[]=>by cases l<;>simp [bu]
 |[],n,v::vs=>by simp [bu]
 |c::cs,0,v::vs=>by simp [bu,dx cs 0 vs]
 |c::cs,n+1,v::vs=>by simp [bu,dx cs n (v::vs)]
end
end Dem
end
section
open Go
namespace Dem
section
variable {P:Program} {T:Nat→Option TI} {G:Nat→Option (List D)} {β:Nat→Nat} {bx:List aB} {w:World} {X:Nat→Prop}
theorem aU {b i:Nat} {B B':aB} (h:(bx.set b B')[i]?=some B):(i=b∧B=B'∧b<bx.length)∨(i≠b∧bx[i]?=some B):=by
 rw [List.getElem?_set] at h
 split at h
 ·rename_i wT;subst wT
  split at h
  ·simp at h;exact .inl ⟨rfl,h.symm,by assumption⟩
  simp at h
 rename_i wT;exact .inr ⟨fun e=>wT e.symm,h⟩
theorem jg {i:Nat} {B:aB} (h:bx[i]?=some B):i<bx.length:=by
 rcases Nat.lt_or_ge i bx.length with h'|h'
 ·exact h'
 simp [List.getElem?_eq_none h'] at h
theorem jh {b:Nat} {B B':aB} (h:bx[b]?=some B):(bx.set b B')[b]?=some B':=by
 have:=jg h
 simp [this]
theorem iE {b i:Nat} {B':aB} (hB:B'.born=true) (h:bX bx i):bX (bx.set b B') i:=by
 obtain ⟨B,h1,h2⟩:=h
 by_cases hi:i=b
 ·subst hi;exact ⟨B',jh h1,hB⟩
 exact ⟨B,by rw [List.getElem?_set_ne (Ne.symm hi)];exact h1,h2⟩
theorem lQ {b:Nat} {B B':aB} (hb:bx[b]?=some B) (hl:B.live=true) {c c':Array Value} {e:TypeId} (hh:w.heap[β b]?=some (.cells c e (0,0))) (hc:c'.size=c.size) (Rs:B'.born=true):
 Ext β bx w β (bx.set b B') (dZ w (β b) (.cells c' e (0,0))):=by
 refine ⟨rfl,rfl,rfl,by simp [dZ],?_,?_,fun i hi=>⟨rfl,iE Rs hi⟩,?_⟩
 ·intro k hk hl'
  exact iK (fun e=>hl' b B hb hl e.symm)
 ·intro k c1 e1 f1 hk
  by_cases h:k=β b
  ·subst h
   rw [hh] at hk
   simp only [osI,Obj.cells.injEq] at hk
   obtain ⟨rfl,rfl,rfl⟩:=hk
   exact ⟨c',dS hh,hc⟩
  exact ⟨c1,by rw [iK h];exact hk,rfl⟩
 intro i b' h1 h2
 rcases aU h1 with ⟨rfl,_,_⟩|⟨_,h3⟩
 ·exact .inr ⟨i,B,hb,hl,rfl⟩
 exact .inr ⟨i,b',h3,h2,rfl⟩
theorem sG (cx:cJ G β bx w X) {b:Nat} {B B':aB} (hb:bx[b]?=some B) (hl:B.live=true) {c c':Array Value} {e:TypeId} (hh:w.heap[β b]?=some (.cells c e (0,0))) (hc:c'.size=c.size) (Rs:B'.born=true)
 (hok:dm β (bx.set b B') (dZ w (β b) (.cells c' e (0,0))) (bz β (bx.set b B') (dZ w (β b) (.cells c' e (0,0))) X) B' (β b)):
 cJ G β (bx.set b B') (dZ w (β b) (.cells c' e (0,0))) X:=by
 refine cx.step (lQ hb hl hh hc Rs) ?_ ?_
 ·intro i b' h1
  rcases aU h1 with ⟨rfl,rfl,_⟩|⟨h2,h3⟩
  ·exact .inr hok
  refine .inl ⟨h3,fun hl'=>iK (fun e=>h2 (cx.inj i b b' B h3 hb hl' hl e))⟩
 intro i j bi bj h1 h2 l1 l2 he
 rcases aU h1 with ⟨rfl,rfl,_⟩|⟨h3,h4⟩<;>rcases aU h2 with ⟨rfl,rfl,_⟩|⟨h5,h6⟩
 ·rfl
 ·exact cx.inj _ j B bj hb h6 hl l2 he
 ·exact cx.inj i _ bi B h4 hb l1 hl he
 exact cx.inj i j bi bj h4 h6 l1 l2 he
theorem iF {b:Nat} {B B':aB} (_hb:bx[b]?=some B) (Rs:B'.live=false) (dQ:B'.born=true):Ext β bx w β (bx.set b B') w:=by
 refine ⟨rfl,rfl,rfl,Nat.le_refl _,fun _ _ _=>rfl,fun k c e f h=>⟨c,h,rfl⟩,fun i hi=>⟨rfl,iE dQ hi⟩,?_⟩
 intro i b' h1 h2
 rcases aU h1 with ⟨rfl,rfl,_⟩|⟨_,h3⟩
 ·rw [Rs] at h2;simp at h2
 exact .inr ⟨i,b',h3,h2,rfl⟩
theorem jW (cx:cJ G β bx w X) {b:Nat} {B B':aB} (hb:bx[b]?=some B) (Rs:B'.live=false) (dQ:B'.born=true)
 (hok:dm β (bx.set b B') w (bz β (bx.set b B') w X) B' (β b)):cJ G β (bx.set b B') w X:=by
 refine cx.step (iF hb Rs dQ) ?_ ?_
 ·intro i b' h1
  rcases aU h1 with ⟨rfl,rfl,_⟩|⟨h2,h3⟩
  ·exact .inr hok
  exact .inl ⟨h3,fun _=>rfl⟩
 intro i j bi bj h1 h2 l1 l2 he
 rcases aU h1 with ⟨rfl,rfl,_⟩|⟨h3,h4⟩
 ·rw [Rs] at l1;simp at l1
 rcases aU h2 with ⟨rfl,rfl,_⟩|⟨h5,h6⟩
 ·rw [Rs] at l2;simp at l2
 exact cx.inj i j bi bj h4 h6 l1 l2 he
theorem KG (cx:cJ G β bx w X) {b:Nat} {sz:Nat} {es:List (List D)} (hb:bx[b]?=some (.row sz es)):
 Ext β bx w β (bx.set b (.kx sz es)) w∧cJ G β (bx.set b (.kx sz es)) w X∧(es=[]∨bz β (bx.set b (.kx sz es)) w X (β b)∧ay w (bz β (bx.set b (.kx sz es)) w X) (β b) sz es 0):=by
 have ex:Ext β bx w β (bx.set b (.kx sz es)) w:=iF hb rfl rfl
 have key:es=[]∨bz β (bx.set b (.kx sz es)) w X (β b)∧ay w (bz β (bx.set b (.kx sz es)) w X) (β b) sz es 0:=by
  rcases cx.box b _ hb with h|⟨c,e,h1,h2⟩
  ·exact .inl h
  cases es with
  |nil=>exact .inl rfl
  |cons r rs=>
   refine .inr ⟨⟨eZ h1,cx.apart b _ hb rfl,?_⟩,ay.mono (ex.keeps X) _ _ (fun _=>rfl) _ _ h2⟩
   intro i b' h3 h4 he
   rcases aU h3 with ⟨rfl,rfl,_⟩|⟨h5,h6⟩
   ·simp [aB.live] at h4
   exact h5 (cx.inj i b b' _ h6 hb h4 rfl he)
 exact ⟨ex,jW cx hb rfl rfl key,key⟩
theorem ay.lens {ok:Nat→Prop} {blk sz:Nat}:∀(es:List (List D)) (off:Nat),ay w ok blk sz es off→∀r∈es,r.length=sz
 |[],_,_=>by simp
 |r::rs,off,h=>by
  simp only [ay] at h
  intro x hx
  rcases List.mem_cons.1 hx with rfl|hx
  ·exact h.1
  exact ay.lens rs _ h.2.2 x hx
theorem jX {ok:Nat→Prop} {blk sz:Nat}:∀(es:List (List D)) (off:Nat),ay w ok blk sz es off→∃vs,vs.length=es.length*sz∧(∀j v,vs[j]?=some v→w.cell? ⟨blk,off+j,none⟩=some v)∧
 an β bx w ok (es.flatten.map .d) vs
 |[],off,_=>⟨[],by simp,by simp,by simp [an]⟩
 |r::rs,off,h=>by
  simp only [ay] at h
  obtain ⟨h1,h2,h3⟩:=h
  obtain ⟨vs,g1,g2,g3⟩:=q8 (β:=β) (bx:=bx) r off h2
  obtain ⟨us,k1,k2,k3⟩:=jX rs (off+sz) h3
  refine ⟨vs++us,by simp [g1,k1,h1,Nat.add_mul];omega,?_,by simpa using an.append g3 k3⟩
  intro j v hj
  rcases Nat.lt_or_ge j vs.length with hlt|hge
  ·rw [List.getElem?_append_left hlt] at hj;exact g2 j v hj
  rw [List.getElem?_append_right hge] at hj
  have:=k2 _ v hj
  rwa [show off+sz+(j-vs.length)=off+j by omega] at this
theorem Dw {ok:Nat→Prop} {blk:Nat}:∀(ds:List D) (off:Nat) (vs:List Value),(∀j v,vs[j]?=some v→w.cell? ⟨blk,off+j,none⟩=some v)→an β bx w ok (ds.map .d) vs→bp w ok blk ds off
 |[],_,_,_,_=>by simp [bp]
 |x::xs,off,vs,hc,h=>by
  simp only [List.map_cons,an,ak] at h
  obtain ⟨u,us,rfl,g1,g2⟩:=h
  simp only [bp]
  refine ⟨⟨u,by simpa using hc 0 u rfl,g1⟩,Dw xs (off+1) us (fun j v hj=>?_) g2⟩
  have:=hc (j+1) v (by simpa using hj)
  rwa [show off+(j+1)=off+1+j by omega] at this
theorem mL {ok:Nat→Prop} {blk sz:Nat}:∀(es:List (List D)) (off:Nat) (vs:List Value),(∀r∈es,r.length=sz)→(∀j v,vs[j]?=some v→w.cell? ⟨blk,off+j,none⟩=some v)→
 an β bx w ok (es.flatten.map .d) vs→ay w ok blk sz es off
 |[],_,_,_,_,_=>by simp [ay]
 |r::rs,off,vs,hl,hc,h=>by
  simp only [List.flatten_cons,List.map_append] at h
  have h1:=an.take r.length h
  have h2:=an.drop r.length h
  rw [List.take_left' (by simp)] at h1
  rw [List.drop_left' (by simp)] at h2
  have hr:r.length=sz:=hl r (by simp)
  simp only [ay]
  refine ⟨hr,Dw r off _ (fun j v hj=>?_) h1,mL rs (off+sz) _ (fun x hx=>hl x (by simp [hx])) (fun j v hj=>?_) h2⟩
  ·rw [List.getElem?_take] at hj
   split at hj
   ·exact hc j v hj
   simp at hj
  rw [List.getElem?_drop] at hj
  have:=hc _ v hj
  rwa [show off+(r.length+j)=off+sz+j by omega] at this
theorem zm {ok:Nat→Prop} {x:AV} {es:List (List D)} {u:Value} (hx:∀b sz n,x≠.ow b sz n) (NR:x.tM=false) (hr:x.rows bx=some es) (h:ak β bx w ok x u):
 ∃base cap,u=.slice base es.length cap∧es.length≤cap∧(es=[]∨∃blk off sz,base=some ⟨blk,off,none⟩∧ok blk∧ay w ok blk sz es off):=by
 cases x with
 |d y=>
  cases y with
  |sl es'=>simp only [AV.rows,osI] at hr;subst hr;simpa [ak,aS] using h
  |_=>simp [AV.rows] at hr
 |cl es'=>
  simp only [AV.rows,osI] at hr;subst hr
  simp only [ak] at h
  obtain ⟨base,rfl,g⟩:=h
  exact ⟨base,_,rfl,Nat.le_refl _,g⟩
 |ow b sz n=>exact absurd rfl (hx b sz n)
 |vw b sz off n c ex=>simp [AV.tM] at NR
 |_=>simp [AV.rows] at hr
theorem ay.N5 {ok:Nat→Prop} {blk sz:Nat}:∀(n:Nat) (es:List (List D)) (off:Nat),ay w ok blk sz es off→ay w ok blk sz (es.drop n) (off+n*sz)
 |0,es,off,h=>by simpa using h
 |n+1,[],off,h=>by simp [ay]
 |n+1,r::rs,off,h=>by
  simp only [ay] at h
  have:=ay.N5 n rs (off+sz) h.2.2
  simpa [Nat.add_mul,show off+sz+n*sz=off+(n*sz+sz) by omega] using this
theorem ay.E5 {ok:Nat→Prop} {blk sz:Nat}:∀(n:Nat) (es:List (List D)) (off:Nat),ay w ok blk sz es off→ay w ok blk sz (es.take n) off
 |0,es,off,h=>by simp [ay]
 |n+1,[],off,h=>by simp [ay]
 |n+1,r::rs,off,h=>by
  simp only [ay] at h
  simp only [List.take_succ_cons,ay]
  exact ⟨h.1,h.2.1,ay.E5 n rs _ h.2.2⟩
theorem Cb {s sz n m:Nat} {α:Type} {x y:α} (h:(bif Nat.beq s sz&&Nat.ble n m then some x else none)=some y):s=sz∧n≤m∧x=y:=by
 cases h1:Nat.beq s sz<;>cases h2:Nat.ble n m<;>simp [h1,h2] at h
 exact ⟨Nat.eq_of_beq_eq_true h1,Nat.le_of_ble_eq_true h2,h⟩
theorem og {b sz off n c:Nat} {ex:Bool} {KH:List (List D)} {Ij:Nat→Prop} {u:Value} {ok:Nat→Prop} (hn:off+n≤KH.length) (hrows:KH=[]∨ay w Ij (β b) sz KH 0) (h:ak β bx w ok (.vw b sz off n c ex) u):
 ∃base cap,u=.slice base ((KH.drop off).take n).length cap∧((KH.drop off).take n).length≤cap∧((KH.drop off).take n=[]∨base=some ⟨β b,off*sz,none⟩∧ay w Ij (β b) sz ((KH.drop off).take n) (off*sz)):=by
 simp only [ak] at h
 obtain ⟨_,base,cap,cs,e,f,rfl,h1,h2,h3,h4⟩:=h
 have hlen:((KH.drop off).take n).length=n:=by simp;omega
 refine ⟨base,cap,by rw [hlen],by rw [hlen];exact h1,?_⟩
 by_cases hn0:n=0
 ·subst hn0;exact .inl (by simp)
 right
 rcases h4 with h4|⟨h4,_⟩
 ·omega
 refine ⟨h4,?_⟩
 rcases hrows with rfl|hrows
 ·simp at hn;omega
 have:=ay.E5 n _ _ (ay.N5 off _ _ hrows)
 simpa using this
theorem L4 {s sz n m:Nat} {α:Type} {x y:α} (h:(bif Nat.beq s sz&&Nat.beq n m then some x else none)=some y):s=sz∧n=m∧x=y:=by
 cases h1:Nat.beq s sz<;>cases h2:Nat.beq n m<;>simp [h1,h2] at h
 exact ⟨Nat.eq_of_beq_eq_true h1,Nat.eq_of_beq_eq_true h2,h⟩
theorem tW (cx:cJ G β bx w X) {b sz n:Nat} {es:List (List D)} {u:Value} (hr:(AV.ow b sz n).rows bx=some es) (h:ak β bx w (bz β bx w X) (.ow b sz n) u):
 n=es.length∧(∃base cap,u=.slice base es.length cap∧es.length≤cap∧(es=[]∧cap=0∨es≠[]∧base=some ⟨β b,0,none⟩∧ay w (bz β bx w X) (β b) sz es 0∧
  ∃c e f,w.heap[β b]?=some (.cells c e f)∧cap*sz≤c.size)):=by
 have main:∀es',n=es'.length→(es'=[]∨ay w (bz β bx w X) (β b) sz es' 0)→∃base cap,u=.slice base es'.length cap∧es'.length≤cap∧(es'=[]∧cap=0∨es'≠[]∧base=some ⟨β b,0,none⟩∧ay w (bz β bx w X) (β b) sz es' 0∧
  ∃c e f,w.heap[β b]?=some (.cells c e f)∧cap*sz≤c.size):=by
  intro es' hn hrows
  simp only [ak] at h
  obtain ⟨_,⟨h0,base,rfl⟩|⟨h0,cap,c,e,f,rfl,h1,h2,h3⟩⟩:=h
  ·have:es'=[]:=by simpa using (hn.symm.trans h0)
   subst this
   exact ⟨base,0,by simp,by simp,.inl ⟨rfl,rfl⟩⟩
  rcases hrows with rfl|hrows
  ·exact absurd (by simpa using hn) h0
  exact ⟨_,cap,by rw [hn],by omega,.inr ⟨by rintro rfl;exact h0 (by simpa using hn),rfl,hrows,c,e,f,h2,h3⟩⟩
 simp only [AV.rows] at hr
 split at hr
 ·rename_i s es' hb
  obtain ⟨rfl,rfl,rfl⟩:=L4 hr
  exact ⟨rfl,main _ rfl ((cx.box b _ hb).imp id fun ⟨_,_,_,g⟩=>g)⟩
 ·rename_i s es' hb
  obtain ⟨rfl,rfl,rfl⟩:=L4 hr
  exact ⟨rfl,main _ rfl ((cx.box b _ hb).imp id fun ⟨_,g⟩=>g)⟩
 simp at hr
theorem Uj {b sz n:Nat} {y:D} (h:(AV.ow b sz n).qP bx=some y):∃es,y=.sl es∧(AV.ow b sz n).rows bx=some es:=by
 simp only [AV.qP] at h
 simp only [AV.rows]
 split at h
 ·rename_i s es hb
  obtain ⟨rfl,rfl,rfl⟩:=L4 h
  exact ⟨es,rfl,by simp [hb]⟩
 ·rename_i s es hb
  obtain ⟨rfl,rfl,rfl⟩:=L4 h
  exact ⟨es,rfl,by simp [hb]⟩
 simp at h
theorem jY (cx:cJ G β bx w X) {x:AV} {es:List (List D)} {u:Value} (hr:x.rows bx=some es) (h:ak β bx w (bz β bx w X) x u):
 Ext β bx w β (x.cu bx) w∧cJ G β (x.cu bx) w X∧
 ∃base cap,u=.slice base es.length cap∧es.length≤cap∧(es=[]∨∃blk off sz,base=some ⟨blk,off,none⟩∧bz β (x.cu bx) w X blk∧ay w (bz β (x.cu bx) w X) blk sz es off):=by
 by_cases hx:∃b sz n,x=.ow b sz n
 ·obtain ⟨b,sz,n,rfl⟩:=hx
  obtain ⟨hn,base,cap,rfl,h1,h2⟩:=tW cx hr h
  simp only [AV.rows] at hr
  split at hr
  ·rename_i s es' hb
   obtain ⟨rfl,_,rfl⟩:=L4 hr
   obtain ⟨g1,g2,g3⟩:=KG cx hb
   have pJ:(AV.ow b s n).cu bx=bx.set b (.kx s es'):=by simp [AV.cu,hb]
   rw [pJ]
   refine ⟨g1,g2,base,cap,rfl,h1,?_⟩
   rcases h2 with ⟨rfl,_⟩|⟨hne,rfl,_⟩
   ·exact .inl rfl
   rcases g3 with rfl|⟨g3,g4⟩
   ·exact .inl rfl
   exact .inr ⟨β b,0,s,rfl,g3,g4⟩
  ·rename_i s es' hb
   obtain ⟨rfl,_,rfl⟩:=L4 hr
   have pJ:(AV.ow b s n).cu bx=bx:=by simp [AV.cu,hb]
   rw [pJ]
   refine ⟨Ext.refl _ _ _,cx,base,cap,rfl,h1,?_⟩
   rcases h2 with ⟨rfl,_⟩|⟨hne,rfl,g,_⟩
   ·exact .inl rfl
   rcases cx.box b _ hb with rfl|⟨g3,g4⟩
   ·exact .inl rfl
   exact .inr ⟨β b,0,s,rfl,g3,g4⟩
  simp at hr
 have hx':∀b sz n,x≠.ow b sz n:=fun b sz n e=>hx ⟨b,sz,n,e⟩
 cases hv:x.tM with
 |true=>
  cases x with
  |vw b sz off n c ex=>
   simp only [AV.rows] at hr
   split at hr
   ·rename_i s es' hb
    obtain ⟨rfl,hle,rfl⟩:=Cb hr
    obtain ⟨g1,g2,g3⟩:=KG cx hb
    have pJ:(AV.vw b s off n c ex).cu bx=bx.set b (.kx s es'):=by simp [AV.cu,hb]
    rw [pJ]
    refine ⟨g1,g2,?_⟩
    obtain ⟨base,cap,rfl,k1,k2⟩:=og (Ij:=bz β (bx.set b (.kx s es')) w X) hle (g3.imp id fun g=>g.2) h
    refine ⟨base,cap,rfl,k1,?_⟩
    rcases g3 with rfl|⟨g3,_⟩
    ·left;simp
    rcases k2 with k2|⟨rfl,k3⟩
    ·exact .inl k2
    exact .inr ⟨β b,off*s,s,rfl,g3,k3⟩
   ·rename_i s es' hb
    obtain ⟨rfl,hle,rfl⟩:=Cb hr
    have pJ:(AV.vw b s off n c ex).cu bx=bx:=by simp [AV.cu,hb]
    rw [pJ]
    refine ⟨Ext.refl _ _ _,cx,?_⟩
    have g3:=cx.box b _ hb
    obtain ⟨base,cap,rfl,k1,k2⟩:=og (Ij:=bz β bx w X) hle (g3.imp id fun g=>g.2) h
    refine ⟨base,cap,rfl,k1,?_⟩
    rcases g3 with rfl|⟨g3,_⟩
    ·left;simp
    rcases k2 with k2|⟨rfl,k3⟩
    ·exact .inl k2
    exact .inr ⟨β b,off*s,s,rfl,g3,k3⟩
   simp at hr
  |_=>simp [AV.tM] at hv
 |false=>
 have pJ:x.cu bx=bx:=by cases x<;>simp_all [AV.cu,AV.tM]
 rw [pJ]
 exact ⟨Ext.refl _ _ _,cx,zm hx' hv hr h⟩
theorem zn (cx:cJ G β bx w X) {x:AV} {y:D} {u:Value} (hd:x.qP bx=some y) (h:ak β bx w (bz β bx w X) x u):
 Ext β bx w β (x.cu bx) w∧cJ G β (x.cu bx) w X∧aS w (bz β (x.cu bx) w X) y u:=by
 cases x with
 |d x=>simp only [AV.qP,osI] at hd;subst hd;exact ⟨Ext.refl _ _ _,cx,h⟩
 |cl es=>
  simp only [AV.qP,osI] at hd;subst hd
  obtain ⟨g1,g2,g3⟩:=jY cx (x:=.cl es) (es:=es) rfl h
  exact ⟨g1,g2,by simpa [aS] using g3⟩
 |ow b sz n=>
  obtain ⟨es,rfl,hr⟩:=Uj hd
  obtain ⟨g1,g2,g3⟩:=jY cx hr h
  exact ⟨g1,g2,by simpa [aS] using g3⟩
 |fn f cs=>
  cases cs with
  |nil=>
   simp only [AV.qP,osI] at hd;subst hd
   simp only [ak,an] at h
   obtain ⟨vs,rfl,rfl⟩:=h
   exact ⟨Ext.refl _ _ _,cx,by simp [zj,aS]⟩
  |cons c cs=>simp [AV.qP] at hd
 |_=>simp [AV.qP] at hd
theorem tX {z:AV} {i s:Nat} {es:List (List D)} (h:bx[i]?=some (.row s es)∨bx[i]?=some (.kx s es)):(z.cu bx)[i]?=some (.row s es)∨(z.cu bx)[i]?=some (.kx s es):=by
 cases z with
 |ow b sz n=>
  simp only [AV.cu]
  split
  ·rename_i s' es' hb
   by_cases hi:i=b
   ·subst hi
    rw [hb] at h
    simp at h
    obtain ⟨rfl,rfl⟩:=h
    exact .inr (jh hb)
   rw [List.getElem?_set_ne (Ne.symm hi)];exact h
  exact h
 |vw b sz off n c ex=>
  simp only [AV.cu]
  split
  ·rename_i s' es' hb
   by_cases hi:i=b
   ·subst hi
    rw [hb] at h
    simp at h
    obtain ⟨rfl,rfl⟩:=h
    exact .inr (jh hb)
   rw [List.getElem?_set_ne (Ne.symm hi)];exact h
  exact h
 |_=>exact h
theorem Cc {x z:AV} {y:D} (h:x.qP bx=some y):x.qP (z.cu bx)=some y:=by
 cases x with
 |ow b sz n=>
  simp only [AV.qP] at h ⊢
  split at h
  ·rename_i s es hb
   rcases tX (z:=z) (.inl hb) with g|g<;>simp [g,h]
  ·rename_i s es hb
   rcases tX (z:=z) (.inr hb) with g|g<;>simp [g,h]
  simp at h
 |fn f cs=>cases cs with
  |nil=>exact h
  |cons c cs=>exact h
 |_=>exact h
theorem sH {z:AV}:∀{xs:List AV} {ys:List D},iR bx xs=some ys→iR (z.cu bx) xs=some ys
 |[],ys,h=>h
 |x::xs,ys,h=>by
  simp only [iR] at h ⊢
  split at h
  ·rename_i y ys' hy hys
   rw [Cc hy,sH hys];exact h
  simp at h
theorem vI:∀(xs:List AV) (bx:List aB) (ys:List D) (vs:List Value),cJ G β bx w X→iR bx xs=some ys→an β bx w (bz β bx w X) xs vs→
 Ext β bx w β (ek bx xs) w∧cJ G β (ek bx xs) w X∧an β (ek bx xs) w (bz β (ek bx xs) w X) (ys.map .d) vs
 |[],bx,ys,vs,cx,hd,h=>by simp [iR] at hd;subst hd;exact ⟨Ext.refl _ _ _,cx,by simpa [ek] using h⟩
 |x::xs,bx,ys,vs,cx,hd,h=>by
  simp only [iR] at hd
  split at hd
  ·rename_i y ys' hy hys
   simp at hd;subst hd
   simp only [an] at h
   obtain ⟨u,us,rfl,g1,g2⟩:=h
   obtain ⟨e1,c1,r1⟩:=zn cx hy g1
   obtain ⟨e2,c2,r2⟩:=vI xs (x.cu bx) ys' us c1 (sH hys) (an.mono (e1.eS X) _ _ g2)
   refine ⟨e1.trans e2,c2,?_⟩
   simp only [ek,List.map_cons,an,ak]
   exact ⟨u,us,rfl,aS.mono (e2.keeps X) _ _ r1,r2⟩
  simp at hd
theorem lR:∀(l m:List Value) (n:Nat) (vs:List Value),n+vs.length≤l.length→bu (l++m) n vs=bu l n vs++m
 |l,m,n,[],_=>by cases l<;>cases m<;>simp [bu]
 |[],m,n,v::vs,h=>by simp at h
 |c::cs,m,0,v::vs,h=>by
  simp only [List.length_cons] at h
  simp only [List.cons_append,bu]
  rw [lR cs m 0 vs (by omega)]
 |c::cs,m,n+1,v::vs,h=>by
  simp only [List.length_cons] at h
  simp only [List.cons_append,bu]
  rw [lR cs m n (v::vs) (by simp;omega)]
theorem lS:∀(l:List D) (n:Nat) (vs:List D),(bt l n vs).length=l.length
 |l,n,[]=>by cases l<;>simp [bt]
 |[],n,v::vs=>by simp [bt]
 |c::cs,0,v::vs=>by simp [bt,lS cs 0 vs]
 |c::cs,n+1,v::vs=>by simp [bt,lS cs n (v::vs)]
theorem pK:∀(l:List D) (n:Nat) (vs:List D),(bt l n vs).map AV.d=eI (l.map .d) n (vs.map .d)
 |l,n,[]=>by cases l<;>simp [bt,eI]
 |[],n,v::vs=>by simp [bt,eI]
 |c::cs,0,v::vs=>by simp [bt,eI,pK cs 0 vs]
 |c::cs,n+1,v::vs=>by simp [bt,eI];rw [pK cs n (v::vs)];simp
theorem tY:∀(l m:List D) (n:Nat) (vs:List D),bt (l++m) (l.length+n) vs=l++bt m n vs
 |[],m,n,vs=>by simp
 |c::cs,m,n,vs=>by
  cases vs with
  |nil=>cases m<;>simp [bt]
  |cons v vs=>
   rw [show (c::cs).length+n=(cs.length+n)+1 by simp;omega]
   simp only [List.cons_append,bt]
   rw [tY cs m n (v::vs)]
theorem m6:∀(l m:List D) (n:Nat) (vs:List D),n+vs.length≤l.length→bt (l++m) n vs=bt l n vs++m
 |l,m,n,[],_=>by cases l<;>cases m<;>simp [bt]
 |[],m,n,v::vs,h=>by simp at h
 |c::cs,m,0,v::vs,h=>by
  simp only [List.length_cons] at h
  simp only [List.cons_append,bt]
  rw [m6 cs m 0 vs (by omega)]
 |c::cs,m,n+1,v::vs,h=>by
  simp only [List.length_cons] at h
  simp only [List.cons_append,bt]
  rw [m6 cs m n (v::vs) (by simp;omega)]
theorem pL {sz:Nat}:∀(es:List (List D)) (i j:Nat) (ds:List D),(∀r∈es,r.length=sz)→i<es.length→j+ds.length≤(es.getD i []).length→
 (es.set i (bt (es.getD i []) j ds)).flatten=bt es.flatten (i*sz+j) ds
 |[],i,j,ds,_,h,_=>by simp at h
 |r::rs,0,j,ds,hl,_,hj=>by
  simp at hj
  simp only [List.set_cons_zero,List.flatten_cons,Nat.zero_mul,Nat.zero_add]
  rw [m6 r _ j ds hj]
  simp
 |r::rs,i+1,j,ds,hl,hi,hj=>by
  have hr:r.length=sz:=hl r (by simp)
  simp at hi hj
  have:=pL rs i j ds (fun x hx=>hl x (by simp [hx])) hi (by simpa using hj)
  simp only [List.set_cons_succ,List.flatten_cons,List.getD_cons_succ]
  rw [this,show (i+1)*sz+j=r.length+(i*sz+j) by rw [hr,Nat.add_mul];omega,tY]
theorem N6 {ok:Nat→Prop} {x:AV} {y:D} {u:Value} (h:x.qP []=some y) (hx:ak β bx w ok x u):aS w ok y u:=by
 cases x with
 |d x=>simp only [AV.qP,osI] at h;subst h;simpa [ak] using hx
 |cl es=>
  simp only [AV.qP,osI] at h;subst h
  simp only [ak] at hx
  obtain ⟨base,rfl,g⟩:=hx
  simp only [aS];exact ⟨base,_,rfl,Nat.le_refl _,g⟩
 |ow b sz n=>simp [AV.qP] at h
 |fn f cs=>
  cases cs with
  |nil=>
   simp only [AV.qP,osI] at h;subst h
   simp only [ak,an] at hx
   obtain ⟨vs,rfl,rfl⟩:=hx
   simp [aS,zj]
  |cons c cs=>simp [AV.qP] at h
 |_=>simp [AV.qP] at h
theorem ri {ok:Nat→Prop}:∀{xs:List AV} {ys:List D} {us:List Value},iR [] xs=some ys→an β bx w ok xs us→an β bx w ok (ys.map .d) us
 |[],ys,us,h,hx=>by simp [iR] at h;subst h;simpa using hx
 |x::xs,ys,us,h,hx=>by
  simp only [iR] at h
  split at h
  ·rename_i y ys' h1 h2
   simp only [osI] at h;subst h
   simp only [an] at hx
   obtain ⟨u,N4,rfl,g1,g2⟩:=hx
   simp only [List.map_cons,an,ak]
   exact ⟨u,N4,rfl,N6 h1 g1,ri h2 g2⟩
  simp at h
end
end Dem
end
