/- Parts of a proof, joined. -/
import Derived.Test.YtihohjnkkalgiaaGreatDoorP00
set_option linter.all false
set_option maxRecDepth 100000
set_option maxHeartbeats 4000000
section
open Go
namespace Dem
def kW (es:Array MapEntry) (clock:Nat):Prop:=es.all (·.born<clock)=true∧(es.toList.map (·.born)).Nodup
mutual
def aF (w:World) (ok:Nat→Prop):D→Value→Prop
 |.bool b,v=>v=.bool b
 |.int k n,v=>v=.int k n
 |.str s,v=>v=.string ⟨s.toArray⟩
 |.sl es,v=>∃base cap,v=.slice base es.length cap∧es.length≤cap∧
  (es=[]∨∃blk off sz,base=some ⟨blk,off,none⟩∧ok blk∧ap w ok blk sz es off)
 |.fn f,v=>v=.func (.func f) #[] #[]
 |.mp ag es,v=>∃blk ms clock,v=.map (some blk)∧ok blk∧w.heap[blk]?=some (.map ms clock)∧kW ms clock∧bp w ok ag es ms.toList
def aT (w:World) (ok:Nat→Prop) (blk:Nat):List D→Nat→Prop
 |[],_=>True
 |x::xs,off=>(∃u,w.cell? ⟨blk,off,none⟩=some u∧aF w ok x u)∧aT w ok blk xs (off+1)
def ap (w:World) (ok:Nat→Prop) (blk sz:Nat):List (List D)→Nat→Prop
 |[],_=>True
 |r::rs,off=>r.length=sz∧aT w ok blk r off∧ap w ok blk sz rs (off+sz)
def bp (w:World) (ok:Nat→Prop) (ag:Bool):List (List D)→List MapEntry→Prop
 |[],ms=>ms=[]
 |r::rs,ms=>∃m CX,ms=m::CX∧gy w ok ag r m∧bp w ok ag rs CX
def gy (w:World) (ok:Nat→Prop) (ag:Bool):List D→MapEntry→Prop
 |[],_=>False
 |k::ds,m=>aF w ok k m.key∧∃cs,m.val=(bif ag then .agg ⟨cs⟩ else cs.headD undef)∧(ag=false→cs.length=1)∧ct w ok ds cs
def ct (w:World) (ok:Nat→Prop):List D→List Value→Prop
 |[],vs=>vs=[]
 |d::ds,vs=>∃v r,vs=v::r∧aF w ok d v∧ct w ok ds r
end
def iC (w w':World) (ok ok':Nat→Prop):Prop:=∀blk,ok blk→ok' blk∧w'.heap[blk]?=w.heap[blk]?
theorem mw {w w':World} {blk:Nat} (h:w'.heap[blk]?=w.heap[blk]?) (off:Nat) (sp:Option Nat):w'.cell? ⟨blk,off,sp⟩=w.cell? ⟨blk,off,sp⟩:=by
 simp only [World.cell?,h]
theorem iC.cell {w w':World} {ok ok':Nat→Prop} (h:iC w w' ok ok') {blk:Nat} (hb:ok blk) (off:Nat):w'.cell? ⟨blk,off,none⟩=w.cell? ⟨blk,off,none⟩:=mw (h blk hb).2 off _
mutual
theorem aF.mono {w w':World} {ok ok':Nat→Prop} (h:iC w w' ok ok'):∀(x:D) (v:Value),aF w ok x v→aF w' ok' x v
 |.bool b,v,hv=>by simpa [aF] using hv
 |.int k n,v,hv=>by simpa [aF] using hv
 |.str s,v,hv=>by simpa [aF] using hv
 |.sl es,v,hv=>by
  simp only [aF] at hv ⊢
  obtain ⟨base,cap,h1,h2,h3⟩:=hv
  refine ⟨base,cap,h1,h2,h3.imp id ?_⟩
  rintro ⟨blk,off,sz,e1,e2,e3⟩
  exact ⟨blk,off,sz,e1,(h blk e2).1,ap.mono h blk sz (h.cell e2) es off e3⟩
 |.fn f,v,hv=>by simpa [aF] using hv
 |.mp ag es,v,hv=>by
  simp only [aF] at hv ⊢
  obtain ⟨blk,ms,clock,h1,h2,h3,h4,h5⟩:=hv
  exact ⟨blk,ms,clock,h1,(h blk h2).1,by rw [(h blk h2).2];exact h3,h4,bp.mono h ag es _ h5⟩
theorem aT.mono {w w':World} {ok ok':Nat→Prop} (h:iC w w' ok ok') (blk:Nat) (hb:∀off,w'.cell? ⟨blk,off,none⟩=w.cell? ⟨blk,off,none⟩):∀(xs:List D) (off:Nat),aT w ok blk xs off→aT w' ok' blk xs off
 |[],_,_=>by simp [aT]
 |x::xs,off,hv=>by
  simp only [aT] at hv ⊢
  obtain ⟨⟨u,h1,h2⟩,h3⟩:=hv
  exact ⟨⟨u,by rw [hb];exact h1,aF.mono h x u h2⟩,aT.mono h blk hb xs _ h3⟩
theorem ap.mono {w w':World} {ok ok':Nat→Prop} (h:iC w w' ok ok') (blk sz:Nat) (hb:∀off,w'.cell? ⟨blk,off,none⟩=w.cell? ⟨blk,off,none⟩):∀(rs:List (List D)) (off:Nat),ap w ok blk sz rs off→ap w' ok' blk sz rs off
 |[],_,_=>by simp [ap]
 |r::rs,off,hv=>by
  simp only [ap] at hv ⊢
  exact ⟨hv.1,aT.mono h blk hb r _ hv.2.1,ap.mono h blk sz hb rs _ hv.2.2⟩
theorem bp.mono {w w':World} {ok ok':Nat→Prop} (h:iC w w' ok ok') (ag:Bool):∀(rs:List (List D)) (ms:List MapEntry),bp w ok ag rs ms→bp w' ok' ag rs ms
 |[],_,hv=>by simpa [bp] using hv
 |r::rs,ms,hv=>by
  simp only [bp] at hv ⊢
  obtain ⟨m,CX,h1,h2,h3⟩:=hv
  exact ⟨m,CX,h1,gy.mono h ag r m h2,bp.mono h ag rs CX h3⟩
theorem gy.mono {w w':World} {ok ok':Nat→Prop} (h:iC w w' ok ok') (ag:Bool):∀(r:List D) (m:MapEntry),gy w ok ag r m→gy w' ok' ag r m
 |[],_,hv=>by simp [gy] at hv
 |k::ds,m,hv=>by
  simp only [gy] at hv ⊢
  obtain ⟨h1,cs,h2,h3,h4⟩:=hv
  exact ⟨aF.mono h k _ h1,cs,h2,h3,ct.mono h ds cs h4⟩
theorem ct.mono {w w':World} {ok ok':Nat→Prop} (h:iC w w' ok ok'):∀(ds:List D) (vs:List Value),ct w ok ds vs→ct w' ok' ds vs
 |[],_,hv=>by simpa [ct] using hv
 |d::ds,vs,hv=>by
  simp only [ct] at hv ⊢
  obtain ⟨v,r,h1,h2,h3⟩:=hv
  exact ⟨v,r,h1,aF.mono h d v h2,ct.mono h ds r h3⟩
end
def bc (β:Nat→Nat) (bx:List ay) (w:World) (X:Nat→Prop) (blk:Nat):Prop:=
 blk<w.heap.size∧¬X blk∧∀i b,bx[i]?=some b→b.live=true→β i≠blk
def xu (f:Nat):List Value→Value
 |.tuple fs::vs=>.func (.func f) fs ⟨vs⟩
 |vs=>.func (.func f) #[] ⟨vs⟩
theorem C6 (f:Nat) (vs:List Value):∃a b,xu f vs=.func (.func f) a b:=by unfold xu;split<;>exact ⟨_,_,rfl⟩
mutual
def aj (β:Nat→Nat) (bx:List ay) (w:World) (ok:Nat→Prop):AV→Value→Prop
 |.any,_=>True
 |.d x,v=>aF w ok x v
 |.k c,v=>v=c.val
 |.agg cs,v=>∃vs,v=.agg ⟨vs⟩∧ak β bx w ok cs vs
 |.dL cs,v=>∃vs,v=.tuple ⟨vs⟩∧ak β bx w ok cs vs
 |.ptr b off,v=>v=.pointer (some ⟨β b,off,none⟩)∧bT bx b
 |.rp b sz i j,v=>v=.pointer (some ⟨β b,i*sz+j,none⟩)∧bT bx b
 |.ep ds,v=>∃blk off,v=.pointer (some ⟨blk,off,none⟩)∧ok blk∧aT w ok blk ds off
 |.ow b sz n,v=>bT bx b∧((n=0∧∃base,v=.slice base 0 0)∨
  (n≠0∧∃cap c e f,v=.slice (some ⟨β b,0,none⟩) n cap∧n≤cap∧w.heap[β b]?=some (.cells c e f)∧cap*sz≤c.size))
 |.cl es,v=>∃base,v=.slice base es.length es.length∧(es=[]∨∃blk off sz,base=some ⟨blk,off,none⟩∧ok blk∧ap w ok blk sz es off)
 |.fn f iZ,v=>∃vs,v=xu f vs∧ak β bx w ok iZ vs
 |.qx t x,v=>∃u,v=.iface t u∧aj β bx w ok x u
 |.cond p x,v=>(p=true→aj β bx w ok x v)∧(p=false→v=undef)
 |.vw b sz off n c ex,v=>bT bx b∧∃base cap cs e f,v=.slice base n cap∧n≤cap∧c≤cap∧(ex=true→cap=c)∧(cap=0∨base=some ⟨β b,off*sz,none⟩∧w.heap[β b]?=some (.cells cs e f)∧(off+cap)*sz≤cs.size)
 |.zP b,v=>v=.map (some (β b))∧bT bx b
def ak (β:Nat→Nat) (bx:List ay) (w:World) (ok:Nat→Prop):List AV→List Value→Prop
 |[],vs=>vs=[]
 |x::xs,vs=>∃u us,vs=u::us∧aj β bx w ok x u∧ak β bx w ok xs us
end
def c6 (β:Nat→Nat) (bx:List ay) (w:World) (ok:Nat→Prop):ay→Nat→Prop
 |.var cs,blk=>∃c e,w.heap[blk]?=some (.cells c e (0,0))∧ak β bx w ok cs c.toList
 |.row sz es,blk=>es=[]∨∃c e,w.heap[blk]?=some (.cells c e (0,0))∧ap w ok blk sz es 0
 |.mH sz es,blk=>es=[]∨(ok blk∧ap w ok blk sz es 0)
 |.it s pos,blk=>w.heap[blk]?=some (.stringIter ⟨s.toArray⟩ pos)
 |.mp ag es,blk=>∃ms clock,w.heap[blk]?=some (.map ms clock)∧kW ms clock∧bp w ok ag es ms.toList
 |.dead,_=>True
 |.bt,_=>True
structure cz (G:Nat→Option (List D)) (β:Nat→Nat) (bx:List ay) (w:World) (X:Nat→Prop):Prop where
 xs:∀blk,X blk→blk<w.heap.size
 wC:∀g ds,G g=some ds→bc β bx w X g∧aT w (bc β bx w X) g ds 0
 inj:∀i j bi bj,bx[i]?=some bi→bx[j]?=some bj→bi.live=true→bj.live=true→β i=β j→i=j
 box:∀i b,bx[i]?=some b→c6 β bx w (bc β bx w X) b (β i)
 apart:∀i b,bx[i]?=some b→b.live=true→¬X (β i)
structure Ext (β:Nat→Nat) (bx:List ay) (w:World) (β':Nat→Nat) (aP:List ay) (w':World):Prop where
 os:w'.os=w.os
 tape:w'.tape=w.tape
 output:w'.output=w.output
 size:w.heap.size≤w'.heap.size
 block:∀k,k<w.heap.size→(∀i b,bx[i]?=some b→b.live=true→β i≠k)→w'.heap[k]?=w.heap[k]?
 shape:∀(k:Nat) (c:Array Value) (e:TypeId) (f:Nat×Nat),w.heap[k]?=some (.cells c e f)→∃c',w'.heap[k]?=some (.cells c' e f)∧c'.size=c.size
 born:∀i,bT bx i→β' i=β i∧bT aP i
 live:∀i b,aP[i]?=some b→b.live=true→w.heap.size≤β' i∨∃j b',bx[j]?=some b'∧b'.live=true∧β j=β' i
theorem Ext.refl (β:Nat→Nat) (bx:List ay) (w:World):Ext β bx w β bx w:=
 ⟨rfl,rfl,rfl,Nat.le_refl _,fun _ _ _=>rfl,fun _ c _ _ h=>⟨c,h,rfl⟩,fun _ h=>⟨rfl,h⟩,fun i b h1 h2=>.inr ⟨i,b,h1,h2,rfl⟩⟩
theorem pZ {b:ay} (h:b.live=true):b.born=true:=by cases b<;>simp_all [ay.live,ay.born]
theorem Ext.trans {β β' β'':Nat→Nat} {bx aP Lq:List ay} {w w' w'':World} (h:Ext β bx w β' aP w') (g:Ext β' aP w' β'' Lq w''):Ext β bx w β'' Lq w'':=by
 refine ⟨g.os.trans h.os,g.tape.trans h.tape,g.output.trans h.output,Nat.le_trans h.size g.size,?_,?_,?_,?_⟩
 ·intro k hk hl
  rw [g.block k (Nat.lt_of_lt_of_le hk h.size),h.block k hk hl]
  intro i b hb hlv he
  rcases h.live i b hb hlv with h1|⟨j,b',h1,h2,h3⟩
  ·omega
  exact hl j b' h1 h2 (h3.trans he)
 ·intro k c e f hk
  obtain ⟨c',h1,h2⟩:=h.shape k c e f hk
  obtain ⟨YQ,h3,h4⟩:=g.shape k c' e f h1
  exact ⟨YQ,h3,h4.trans h2⟩
 ·intro i hi
  obtain ⟨h1,h2⟩:=h.born i hi
  obtain ⟨h3,h4⟩:=g.born i h2
  exact ⟨h3.trans h1,h4⟩
 intro i b hb hlv
 rcases g.live i b hb hlv with h1|⟨j,b',h1,h2,h3⟩
 ·exact .inl (Nat.le_trans h.size h1)
 rcases h.live j b' h1 h2 with h4|⟨k,b'',h4,h5,h6⟩
 ·exact .inl (by omega)
 exact .inr ⟨k,b'',h4,h5,h6.trans h3⟩
theorem Ext.keeps {β β':Nat→Nat} {bx aP:List ay} {w w':World} (h:Ext β bx w β' aP w') (X:Nat→Prop):
 iC w w' (bc β bx w X) (bc β' aP w' X):=by
 rintro blk ⟨h1,h2,h3⟩
 refine ⟨⟨Nat.lt_of_lt_of_le h1 h.size,h2,?_⟩,h.block blk h1 h3⟩
 intro i b hb hlv he
 rcases h.live i b hb hlv with h4|⟨j,b',h4,h5,h6⟩
 ·omega
 exact h3 j b' h4 h5 (h6.trans he)
structure qE (β:Nat→Nat) (bx:List ay) (w:World) (ok:Nat→Prop) (β':Nat→Nat) (aP:List ay) (w':World) (ok':Nat→Prop):Prop where
 keeps:iC w w' ok ok'
 born:∀i,bT bx i→β' i=β i∧bT aP i
 shape:∀(k:Nat) (c:Array Value) (e:TypeId) (f:Nat×Nat),w.heap[k]?=some (.cells c e f)→∃c',w'.heap[k]?=some (.cells c' e f)∧c'.size=c.size
theorem Ext.eN {β β':Nat→Nat} {bx aP:List ay} {w w':World} (h:Ext β bx w β' aP w') (X:Nat→Prop):
 qE β bx w (bc β bx w X) β' aP w' (bc β' aP w' X):=⟨h.keeps X,h.born,h.shape⟩
mutual
theorem aj.mono {β β':Nat→Nat} {bx aP:List ay} {w w':World} {ok ok':Nat→Prop} (h:qE β bx w ok β' aP w' ok'):
 ∀(x:AV) (v:Value),aj β bx w ok x v→aj β' aP w' ok' x v
 |.any,_,_=>by simp [aj]
 |.d x,v,hv=>by simp only [aj] at hv ⊢;exact aF.mono h.keeps x v hv
 |.k c,v,hv=>by simpa [aj] using hv
 |.agg cs,v,hv=>by simp only [aj] at hv ⊢;obtain ⟨vs,e,g⟩:=hv;exact ⟨vs,e,ak.mono h cs vs g⟩
 |.dL cs,v,hv=>by simp only [aj] at hv ⊢;obtain ⟨vs,e,g⟩:=hv;exact ⟨vs,e,ak.mono h cs vs g⟩
 |.ptr b off,v,hv=>by simp only [aj] at hv ⊢;obtain ⟨e,g⟩:=hv;exact ⟨by rw [(h.born b g).1];exact e,(h.born b g).2⟩
 |.rp b sz i j,v,hv=>by simp only [aj] at hv ⊢;obtain ⟨e,g⟩:=hv;exact ⟨by rw [(h.born b g).1];exact e,(h.born b g).2⟩
 |.ep ds,v,hv=>by
  simp only [aj] at hv ⊢
  obtain ⟨blk,off,e,g1,g2⟩:=hv
  exact ⟨blk,off,e,(h.keeps blk g1).1,aT.mono h.keeps blk (h.keeps.cell g1) ds off g2⟩
 |.ow b sz n,v,hv=>by
  simp only [aj] at hv ⊢
  obtain ⟨g,hv⟩:=hv
  refine ⟨(h.born b g).2,hv.imp id ?_⟩
  rintro ⟨hn,cap,c,e,f,e1,e2,e3,e4⟩
  obtain ⟨c',e5,e6⟩:=h.shape _ _ _ _ e3
  rw [(h.born b g).1]
  exact ⟨hn,cap,c',e,f,e1,e2,e5,by rw [e6];exact e4⟩
 |.cl es,v,hv=>by
  simp only [aj] at hv ⊢
  obtain ⟨base,e,g⟩:=hv
  refine ⟨base,e,g.imp id ?_⟩
  rintro ⟨blk,off,sz,e1,e2,e3⟩
  exact ⟨blk,off,sz,e1,(h.keeps blk e2).1,ap.mono h.keeps blk sz (h.keeps.cell e2) es off e3⟩
 |.fn f iZ,v,hv=>by simp only [aj] at hv ⊢;obtain ⟨vs,e,g⟩:=hv;exact ⟨vs,e,ak.mono h iZ vs g⟩
 |.qx t x,v,hv=>by simp only [aj] at hv ⊢;obtain ⟨u,e,g⟩:=hv;exact ⟨u,e,aj.mono h x u g⟩
 |.cond p x,v,hv=>by simp only [aj] at hv ⊢;exact ⟨fun hp=>aj.mono h x v (hv.1 hp),hv.2⟩
 |.vw b sz off n c ex,v,hv=>by
  simp only [aj] at hv ⊢
  obtain ⟨g,base,cap,cs,e,f,e1,e2,e3,e4,e5⟩:=hv
  rcases e5 with e5|⟨e5,e6,e7⟩
  ·exact ⟨(h.born b g).2,base,cap,cs,e,f,e1,e2,e3,e4,.inl e5⟩
  obtain ⟨c',k5,k6⟩:=h.shape _ _ _ _ e6
  rw [(h.born b g).1]
  exact ⟨(h.born b g).2,base,cap,c',e,f,e1,e2,e3,e4,.inr ⟨e5,k5,by rw [k6];exact e7⟩⟩
 |.zP b,v,hv=>by simp only [aj] at hv ⊢;obtain ⟨e,g⟩:=hv;exact ⟨by rw [(h.born b g).1];exact e,(h.born b g).2⟩
theorem ak.mono {β β':Nat→Nat} {bx aP:List ay} {w w':World} {ok ok':Nat→Prop} (h:qE β bx w ok β' aP w' ok'):
 ∀(xs:List AV) (vs:List Value),ak β bx w ok xs vs→ak β' aP w' ok' xs vs
 |[],vs,hv=>by simpa [ak] using hv
 |x::xs,vs,hv=>by
  simp only [ak] at hv ⊢
  obtain ⟨u,us,e,g1,g2⟩:=hv
  exact ⟨u,us,e,aj.mono h x u g1,ak.mono h xs us g2⟩
end
theorem ak.length {β:Nat→Nat} {bx:List ay} {w:World} {ok:Nat→Prop}:∀{xs:List AV} {vs:List Value},ak β bx w ok xs vs→vs.length=xs.length
 |[],vs,h=>by simp only [ak] at h;simp [h]
 |x::xs,vs,h=>by simp only [ak] at h;obtain ⟨u,us,rfl,_,g⟩:=h;simp [ak.length g]
theorem ak.get {β:Nat→Nat} {bx:List ay} {w:World} {ok:Nat→Prop}:∀{xs:List AV} {vs:List Value} (i:Nat) (x:AV),ak β bx w ok xs vs→xs[i]?=some x→∃v,vs[i]?=some v∧aj β bx w ok x v
 |[],_,i,x,_,hx=>by simp at hx
 |y::ys,vs,i,x,h,hx=>by
  simp only [ak] at h
  obtain ⟨u,us,rfl,g1,g2⟩:=h
  cases i with
  |zero=>simp at hx;subst hx;exact ⟨u,by simp,g1⟩
  |succ i=>simp at hx;obtain ⟨v,h1,h2⟩:=ak.get i x g2 hx;exact ⟨v,by simpa using h1,h2⟩
theorem ak.drop {β:Nat→Nat} {bx:List ay} {w:World} {ok:Nat→Prop}:∀(n:Nat) {xs:List AV} {vs:List Value},ak β bx w ok xs vs→ak β bx w ok (xs.drop n) (vs.drop n)
 |0,xs,vs,h=>by simpa using h
 |n+1,[],vs,h=>by simp only [ak] at h;subst h;simp [ak]
 |n+1,x::xs,vs,h=>by
  simp only [ak] at h
  obtain ⟨u,us,rfl,_,g2⟩:=h
  simpa using ak.drop n g2
theorem ak.take {β:Nat→Nat} {bx:List ay} {w:World} {ok:Nat→Prop}:∀(n:Nat) {xs:List AV} {vs:List Value},ak β bx w ok xs vs→ak β bx w ok (xs.take n) (vs.take n)
 |0,xs,vs,h=>by simp [ak]
 |n+1,[],vs,h=>by simp only [ak] at h;subst h;simp [ak]
 |n+1,x::xs,vs,h=>by
  simp only [ak] at h
  obtain ⟨u,us,rfl,g1,g2⟩:=h
  simp only [List.take_succ_cons,ak]
  exact ⟨u,_,rfl,g1,ak.take n g2⟩
theorem ak.append {β:Nat→Nat} {bx:List ay} {w:World} {ok:Nat→Prop}:∀{xs ys:List AV} {vs us:List Value},ak β bx w ok xs vs→ak β bx w ok ys us→ak β bx w ok (xs++ys) (vs++us)
 |[],ys,vs,us,h,g=>by simp only [ak] at h;subst h;simpa using g
 |x::xs,ys,vs,us,h,g=>by
  simp only [ak] at h
  obtain ⟨u,Lr,rfl,g1,g2⟩:=h
  simp only [List.cons_append,ak]
  exact ⟨u,_,rfl,g1,ak.append g2 g⟩
def aY:List Value→Nat→List Value→List Value
 |cs,_,[]=>cs
 |[],_,_::_=>[]
 |_::cs,0,v::vs=>v::aY cs 0 vs
 |c::cs,n+1,v::vs=>c::aY cs n (v::vs)
theorem ak.eu {β:Nat→Nat} {bx:List ay} {w:World} {ok:Nat→Prop}:∀{xs:List AV} {vs:List Value} (n:Nat) {ys:List AV} {us:List Value},ak β bx w ok xs vs→ak β bx w ok ys us→
 ak β bx w ok (Dem.eu xs n ys) (aY vs n us)
 |xs,vs,n,[],us,h,g=>by
  simp only [ak] at g;subst g
  cases xs<;>cases vs<;>simpa [Dem.eu,aY] using h
 |[],vs,n,y::ys,us,h,g=>by
  simp only [ak] at h g;obtain ⟨u,Lr,rfl,_,_⟩:=g;subst h
  simp [Dem.eu,aY,ak]
 |x::xs,vs,0,y::ys,us,h,g=>by
  simp only [ak] at h g
  obtain ⟨u,Lr,rfl,g1,g2⟩:=g
  obtain ⟨v,vs',rfl,h1,h2⟩:=h
  simp only [Dem.eu,aY,ak]
  exact ⟨u,_,rfl,g1,ak.eu 0 h2 g2⟩
 |x::xs,vs,n+1,y::ys,us,h,g=>by
  simp only [ak] at h
  obtain ⟨v,vs',rfl,h1,h2⟩:=h
  have g0:=g
  simp only [ak] at g
  obtain ⟨u,Lr,rfl,g1,g2⟩:=g
  simp only [Dem.eu,aY,ak]
  exact ⟨v,_,rfl,h1,ak.eu n h2 g0⟩
theorem c6.mono {β β':Nat→Nat} {bx aP:List ay} {w w':World} {ok ok':Nat→Prop} (h:qE β bx w ok β' aP w' ok') {b:ay} {blk:Nat}
 (hl:b.live=true→w'.heap[blk]?=w.heap[blk]?) (hb:c6 β bx w ok b blk):c6 β' aP w' ok' b blk:=by
 cases b with
 |var cs=>
  obtain ⟨c,e,h1,h2⟩:=hb
  exact ⟨c,e,by rw [hl rfl];exact h1,ak.mono h _ _ h2⟩
 |row sz es=>
  cases es with
  |nil=>exact .inl rfl
  |cons r rs=>
   rcases hb with hb|⟨c,e,h1,h2⟩
   ·exact .inl hb
   exact .inr ⟨c,e,by rw [hl rfl];exact h1,ap.mono h.keeps blk sz (fun off=>mw (hl rfl) off _) _ _ h2⟩
 |mH sz es=>
  rcases hb with hb|⟨h1,h2⟩
  ·exact .inl hb
  exact .inr ⟨(h.keeps blk h1).1,ap.mono h.keeps blk sz (h.keeps.cell h1) _ _ h2⟩
 |it s pos=>simp only [c6] at hb ⊢;rw [hl rfl];exact hb
 |mp ag es=>
  obtain ⟨ms,clock,h1,h2,h3⟩:=hb
  exact ⟨ms,clock,by rw [hl rfl];exact h1,h2,bp.mono h.keeps ag es _ h3⟩
 |dead=>trivial
 |bt=>trivial
theorem cz.step {G:Nat→Option (List D)} {β β':Nat→Nat} {bx aP:List ay} {w w':World} {X:Nat→Prop} (cx:cz G β bx w X) (ex:Ext β bx w β' aP w')
 (VY:∀i b,aP[i]?=some b→(bx[i]?=some b∧(b.live=true→w'.heap[β i]?=w.heap[β i]?))∨c6 β' aP w' (bc β' aP w' X) b (β' i))
 (hinj:∀i j bi bj,aP[i]?=some bi→aP[j]?=some bj→bi.live=true→bj.live=true→β' i=β' j→i=j):cz G β' aP w' X:=by
 refine ⟨fun blk hb=>Nat.lt_of_lt_of_le (cx.xs blk hb) ex.size,?_,hinj,?_,?_⟩
 ·intro g ds hg
  obtain ⟨h1,h2⟩:=cx.wC g ds hg
  exact ⟨(ex.keeps X g h1).1,aT.mono (ex.keeps X) g ((ex.keeps X).cell h1) _ _ h2⟩
 ·intro i b hb
  rcases VY i b hb with ⟨h1,h2⟩|h
  ·by_cases dG:b.born=true
   ·rw [(ex.born i ⟨b,h1,dG⟩).1]
    exact c6.mono (ex.eN X) h2 (cx.box i b h1)
   cases b<;>simp_all [ay.born,c6]
  exact h
 intro i b hb hl hX
 rcases ex.live i b hb hl with h|⟨j,b',h1,h2,h3⟩
 ·have:=cx.xs _ hX;omega
 exact cx.apart j b' h1 h2 (h3▸hX)
structure BF (w w':World):Prop where
 heap:w'.heap=w.heap
 os:w'.os=w.os
 tape:w'.tape=w.tape
 output:w'.output=w.output
theorem iD {β:Nat→Nat} {bx:List ay} {w w':World} (h:BF w w'):Ext β bx w β bx w':=
 ⟨h.os,h.tape,h.output,by rw [h.heap];exact Nat.le_refl _,fun k _ _=>by rw [h.heap],fun k c e f hk=>⟨c,by rw [h.heap];exact hk,rfl⟩,fun i hi=>⟨rfl,hi⟩,fun i b h1 h2=>.inr ⟨i,b,h1,h2,rfl⟩⟩
theorem oE {G:Nat→Option (List D)} {β:Nat→Nat} {bx:List ay} {w w':World} {X:Nat→Prop} (cx:cz G β bx w X) (h:BF w w'):cz G β bx w' X:=
 cx.step (iD h) (fun i b hb=>.inl ⟨hb,fun _=>by rw [h.heap]⟩) cx.inj
theorem eW (w:World):BF w {w with drawn:=w.drawn+1}:=⟨rfl,rfl,rfl,rfl⟩
theorem iE (w:World) (o:Obj) (k:Nat) (h:k<w.heap.size):({w with heap:=w.heap.push o}:World).heap[k]?=w.heap[k]?:=by
 show (w.heap.push o)[k]?=_
 rw [Array.getElem?_push,if_neg (by omega)]
theorem iF (w:World) (o:Obj):({w with heap:=w.heap.push o}:World).heap[w.heap.size]?=some o:=by
 show (w.heap.push o)[w.heap.size]?=_
 simp
theorem eO {w:World} {k:Nat} {o:Obj} (h:w.heap[k]?=some o):k<w.heap.size:=by
 rcases Nat.lt_or_ge k w.heap.size with h'|h'
 ·exact h'
 simp [Array.getElem?_eq_none h'] at h
theorem sA {β:Nat→Nat} {bx:List ay} {w:World} (o:Obj):Ext β bx w β bx {w with heap:=w.heap.push o}:=by
 refine ⟨rfl,rfl,rfl,by simp,fun k hk _=>iE w o k hk,fun k c e f hk=>⟨c,?_,rfl⟩,fun i hi=>⟨rfl,hi⟩,fun i b h1 h2=>.inr ⟨i,b,h1,h2,rfl⟩⟩
 rw [iE w o k (eO hk)];exact hk
theorem c6.eY {β:Nat→Nat} {bx:List ay} {w:World} {ok:Nat→Prop} {b:ay} {blk:Nat} (h:c6 β bx w ok b blk) (hl:b.live=true):blk<w.heap.size:=by
 cases b with
 |var cs=>obtain ⟨c,e,h1,_⟩:=h;exact eO h1
 |row sz es=>
  cases es with
  |nil=>simp [ay.live] at hl
  |cons r rs=>
   rcases h with h|⟨c,e,h1,_⟩;· simp at h
   exact eO h1
 |it s pos=>exact eO h
 |mp ag es=>obtain ⟨ms,clock,h1,_⟩:=h;exact eO h1
 |mH _ _=>simp [ay.live] at hl
 |dead=>simp [ay.live] at hl
 |bt=>simp [ay.live] at hl
theorem C7 {G:Nat→Option (List D)} {β:Nat→Nat} {bx:List ay} {w:World} {X:Nat→Prop} (cx:cz G β bx w X) (o:Obj):cz G β bx {w with heap:=w.heap.push o} X:=
 cx.step (sA o) (fun i b hb=>.inl ⟨hb,fun hl=>iE w o _ ((cx.box i b hb).eY hl)⟩) cx.inj
def ko (β:Nat→Nat) (i blk:Nat):Nat→Nat:=fun j=>if j=i then blk else β j
theorem bq (β:Nat→Nat) (i blk:Nat):ko β i blk i=blk:=by simp [ko]
theorem cV (β:Nat→Nat) {i j:Nat} (blk:Nat) (h:j≠i):ko β i blk j=β j:=by simp [ko,h]
theorem ee {bx:List ay} {B:ay} {i:Nat} {b:ay} (h:bx[i]?=some b):(bx++[B])[i]?=some b:=by
 have:i<bx.length:=by
  rcases Nat.lt_or_ge i bx.length with h'|h';· exact h'
  simp [List.getElem?_eq_none h'] at h
 rw [List.getElem?_append_left this];exact h
theorem bw {bx:List ay} {B:ay} {i:Nat} {b:ay} (h:(bx++[B])[i]?=some b):(bx[i]?=some b∧i<bx.length)∨(i=bx.length∧b=B):=by
 rcases Nat.lt_or_ge i bx.length with h'|h'
 ·rw [List.getElem?_append_left h'] at h;exact .inl ⟨h,h'⟩
 rw [List.getElem?_append_right h'] at h
 by_cases hi:i=bx.length
 ·subst hi;simp at h;exact .inr ⟨rfl,h.symm⟩
 simp [show i-bx.length≠0 by omega] at h
theorem fy {β:Nat→Nat} {bx:List ay} {w:World} (o:Obj) (B:ay):Ext β bx w (ko β bx.length w.heap.size) (bx++[B]) {w with heap:=w.heap.push o}:=by
 refine ⟨rfl,rfl,rfl,by simp,fun k hk _=>iE w o k hk,fun k c e f hk=>⟨c,?_,rfl⟩,?_,?_⟩
 ·rw [iE w o k (eO hk)];exact hk
 ·rintro i ⟨b,h1,h2⟩
  have:i<bx.length:=by
   rcases Nat.lt_or_ge i bx.length with h'|h';· exact h'
   simp [List.getElem?_eq_none h'] at h1
  exact ⟨cV _ _ (by omega),b,ee h1,h2⟩
 intro i b h1 h2
 rcases bw h1 with ⟨h3,h4⟩|⟨rfl,rfl⟩
 ·exact .inr ⟨i,b,h3,h2,(cV _ _ (by omega)).symm⟩
 exact .inl (by rw [bq];exact Nat.le_refl _)
theorem jR {G:Nat→Option (List D)} {β:Nat→Nat} {bx:List ay} {w:World} {X:Nat→Prop} (cx:cz G β bx w X) (o:Obj) (B:ay)
 (hB:c6 (ko β bx.length w.heap.size) (bx++[B]) {w with heap:=w.heap.push o} (bc (ko β bx.length w.heap.size) (bx++[B]) {w with heap:=w.heap.push o} X) B w.heap.size):
 cz G (ko β bx.length w.heap.size) (bx++[B]) {w with heap:=w.heap.push o} X:=by
 refine cx.step (fy o B) ?_ ?_
 ·intro i b hb
  rcases bw hb with ⟨h3,h4⟩|⟨rfl,rfl⟩
  ·exact .inl ⟨h3,fun hl=>iE w o _ ((cx.box i b h3).eY hl)⟩
  exact .inr (by rw [bq];exact hB)
 intro i j bi bj h1 h2 l1 l2 he
 rcases bw h1 with ⟨h3,h4⟩|⟨rfl,rfl⟩<;>rcases bw h2 with ⟨h5,h6⟩|⟨rfl,rfl⟩
 ·rw [cV _ _ (by omega),cV _ _ (by omega)] at he
  exact cx.inj i j bi bj h3 h5 l1 l2 he
 ·rw [cV _ _ (by omega),bq] at he
  have:=(cx.box i bi h3).eY l1;omega
 ·rw [bq,cV _ _ (by omega)] at he
  have:=(cx.box j bj h5).eY l2;omega
 rfl
end Dem
end
section
open Go
namespace Dem
structure jL (P:Program) (T:Nat→Option TI):Prop where
 ti:∀t ti,T t=some ti→om P t=some ti
 fields:∀t ti fs,T t=some ti→ti.kd=.struct fs→∀f∈fs,∃tf,T f.2=some tf
 deep:8≤P.depth
theorem aE {P:Program} {t:Nat} {ti:TI} (h:om P t=some ti):
 ∃i d,P.info? t=some i∧P.underlying t=some d∧ti.size=i.size∧ti.bytes=i.bytes∧ti.kd=cM d∧ti.zero=(match i.zero with|some z=>On z|none=>.any):=by
 unfold om at h
 split at h
 ·rename_i i d h1 h2
  simp at h;subst h
  exact ⟨i,d,h1,h2,rfl,rfl,rfl,rfl⟩
 simp at h
theorem Jo {P:Program} {t:Nat} {ti:TI} (h:om P t=some ti) {nm:String} {f:Nat} (hi:ti.inv=some (nm,f)):
 ∃i d,P.info? t=some i∧P.underlying t=some d∧(∀e,d≠.pointer e)∧∃m,i.methods.find? (fun m=>m.name==nm)=some m∧m.path.toList=[]∧m.func=some (f,false):=by
 unfold om at h
 split at h
 ·rename_i i d h1 h2
  simp only [osI] at h;subst h
  simp only at hi
  cases hp:(cM d).plain with
  |false=>simp [hp] at hi
  |true=>
  simp only [hp,cond_true] at hi
  refine ⟨i,d,h1,h2,fun e he=>by subst he;simp [cM,Kd.plain] at hp,?_⟩
  unfold Qy at hi
  obtain ⟨TC,hn,hi⟩:=List.exists_of_findSome?_eq_some hi
  split at hi
  ·rename_i a b path g hm
   cases he:path.toList.isEmpty with
   |false=>simp [he] at hi
   |true=>
   simp only [he,cond_true,osI,Prod.mk.injEq] at hi
   obtain ⟨rfl,rfl⟩:=hi
   exact ⟨_,by rw [←Array.find?_toList];exact hm,by simpa using he,rfl⟩
  cases hi
 simp at h
theorem Ov {P:Program} {t:Nat} {ti:TI} (h:om P t=some ti) {d:TypeDesc} (hd:P.underlying t=some d):ti.eq=Lg P t d:=by
 unfold om at h
 split at h
 ·rename_i i d' h1 h2
  rw [hd] at h2
  simp at h;subst h
  simp only [osI] at h2;subst h2;rfl
 simp at h
section
variable {P:Program} {w:World} {t:Nat}
theorem aR {d:TypeDesc} (h:P.underlying t=some d):(underlying t).run P w=.ok d w:=by
 simp [underlying,program,Sem.run,h,Bind.bind,Sem.bind,Pure.pure]
theorem kX {i:TypeInfo} (h:P.info? t=some i):(typeInfo t).run P w=.ok i w:=by
 simp [typeInfo,program,Sem.run,h,Bind.bind,Sem.bind,Pure.pure]
theorem bP {i:TypeInfo} (h:P.info? t=some i):(Go.sizeOf t).run P w=.ok i.size w:=by
 simp [Go.sizeOf,kX h]
theorem fV {i:TypeInfo} {z:Value} (h:P.info? t=some i) (hz:i.zero=some z):(zeroValue t).run P w=.ok z w:=by
 simp [zeroValue,kX h,hz]
theorem Au {d:TypeDesc} (h:P.underlying t=some d):(isAgg t).run P w=.ok (cM d).isAgg w:=by
 simp [isAgg,aR h]
 cases d<;>simp [cM,Kd.isAgg]
theorem run_load {a:Addr} {v:Value} (h:w.cell? a=some v):(load a).run P w=.ok v w:=by
 simp [load,Sem.run,h]
end
theorem fk (blk off n:Nat):(⟨blk,off,none⟩:Addr).add n=⟨blk,off+n,none⟩:=by
 unfold Addr.add;split
 ·simp_all
 rfl
theorem run_loadCellsFrom {P:Program} {w:World} {blk off:Nat}:∀(vs:List Value) (i:Nat) (acc:Array Value),(∀j v,vs[j]?=some v→w.cell? ⟨blk,off+i+j,none⟩=some v)→
 (loadCellsFrom ⟨blk,off,none⟩ i vs.length acc).run P w=.ok (acc++vs.toArray) w
 |[],i,acc,_=>by simp [loadCellsFrom]
 |v::vs,i,acc,h=>by
  have h0:=h 0 v rfl
  simp only [List.length_cons,loadCellsFrom,fk,Sem.run_bind]
  rw [run_load (v:=v) (by simpa using h0)]
  simp only [Result.andThen_ok]
  rw [run_loadCellsFrom vs (i+1) (acc.push v) (fun j u hj=>by have:=h (j+1) u (by simpa using hj);rwa [show off+i+(j+1)=off+(i+1)+j by omega] at this)]
  simp
theorem run_loadCells {P:Program} {w:World} {blk off:Nat} (vs:List Value) (h:∀j v,vs[j]?=some v→w.cell? ⟨blk,off+j,none⟩=some v):
 (loadCells ⟨blk,off,none⟩ vs.length).run P w=.ok vs.toArray w:=by
 have:=run_loadCellsFrom (P:=P) vs 0 #[] (w:=w) (blk:=blk) (off:=off) (by simpa using h)
 simpa [loadCells] using this
def dj (G:Nat→Option (List D)) (β:Nat→Nat) (bx:List ay) (w:World) (X:Nat→Prop) (r:Result Next) (v:AV) (aP:List ay):Prop:=
 ∃β' w',Ext β bx w β' aP w'∧cz G β' aP w' X∧
  ((∃u,r=.ok (.value u) w'∧aj β' aP w' (bc β' aP w' X) v u)∨(r=.ok .skip w'∧v=.any))
section
variable {P:Program} {T:Nat→Option TI} {G:Nat→Option (List D)} {β:Nat→Nat} {bx:List ay} {w:World} {X:Nat→Prop}
theorem dj.pure {r:Result Next} {v:AV} {u:Value} (cx:cz G β bx w X) (hr:r=.ok (.value u) w) (h:aj β bx w (bc β bx w X) v u):dj G β bx w X r v bx:=
 ⟨β,w,Ext.refl _ _ _,cx,.inl ⟨u,hr,h⟩⟩
theorem p6 {ok:Nat→Prop} {blk:Nat}:∀(ds:List D) (off:Nat),aT w ok blk ds off→∃vs,vs.length=ds.length∧(∀j v,vs[j]?=some v→w.cell? ⟨blk,off+j,none⟩=some v)∧
 ak β bx w ok (ds.map .d) vs
 |[],off,_=>⟨[],rfl,by simp,by simp [ak]⟩
 |x::xs,off,h=>by
  simp only [aT] at h
  obtain ⟨⟨u,h1,h2⟩,h3⟩:=h
  obtain ⟨vs,g1,g2,g3⟩:=p6 xs (off+1) h3
  refine ⟨u::vs,by simp [g1],?_,?_⟩
  ·intro j v hj
   cases j with
   |zero=>simp at hj;subst hj;simpa using h1
   |succ j=>have:=g2 j v (by simpa using hj);rwa [show off+(j+1)=off+1+j by omega]
  simp only [List.map_cons,ak,aj];exact ⟨u,vs,rfl,h2,g3⟩
theorem aT.drop {ok:Nat→Prop} {blk:Nat}:∀(n:Nat) (ds:List D) (off:Nat),aT w ok blk ds off→aT w ok blk (ds.drop n) (off+n)
 |0,ds,off,h=>by simpa using h
 |n+1,[],off,h=>by simp [aT]
 |n+1,x::xs,off,h=>by
  simp only [aT] at h
  have:=aT.drop n xs (off+1) h.2
  simpa [show off+(n+1)=off+1+n by omega] using this
theorem aT.take {ok:Nat→Prop} {blk:Nat}:∀(n:Nat) (ds:List D) (off:Nat),aT w ok blk ds off→aT w ok blk (ds.take n) off
 |0,ds,off,h=>by simp [aT]
 |n+1,[],off,h=>by simp [aT]
 |n+1,x::xs,off,h=>by
  simp only [aT] at h
  simp only [List.take_succ_cons,aT]
  exact ⟨h.1,aT.take n xs _ h.2⟩
theorem ap.get {ok:Nat→Prop} {blk sz:Nat}:∀(i:Nat) (es:List (List D)) (off:Nat),ap w ok blk sz es off→i<es.length→(es.getD i []).length=sz∧aT w ok blk (es.getD i []) (off+i*sz)
 |_,[],_,_,hi=>by simp at hi
 |0,r::rs,off,h,_=>by simp only [ap] at h;simpa using ⟨h.1,h.2.1⟩
 |i+1,r::rs,off,h,hi=>by
  simp only [ap] at h
  have:=ap.get i rs (off+sz) h.2.2 (by simpa using hi)
  simpa [Nat.add_mul,show off+sz+i*sz=off+(i*sz+sz) by omega] using this
theorem qX {ti:TI} {t:Nat} (ht:om P t=some ti) {cs:List AV} {v:AV} {vs:List Value} {blk off:Nat} {ok:Nat→Prop}
 (hs:cB ti.kd.isAgg ti.size cs=some v) (hr:ak β bx w ok cs vs) (hc:∀j v,vs[j]?=some v→w.cell? ⟨blk,off+j,none⟩=some v):
 ∃u,(loadVar t ⟨blk,off,none⟩).run P w=.ok u w∧aj β bx w ok v u:=by
 obtain ⟨i,d,h1,h2,h3,h4,h5,h6⟩:=aE ht
 unfold cB at hs
 simp only [loadVar,Sem.run_bind,Au h2,Result.andThen_ok,h5] at hs ⊢
 cases hk:(cM d).isAgg with
 |true=>
  simp only [hk,cond_true] at hs
  cases hle:Nat.ble ti.size cs.length with
  |false=>simp [hle] at hs
  |true=>
   simp only [hle,cond_true,osI] at hs
   subst hs
   have hlen:=ak.length hr
   have hle':ti.size≤cs.length:=Nat.le_of_ble_eq_true hle
   have:=run_loadCells (P:=P) (w:=w) (blk:=blk) (off:=off) (vs.take ti.size) (fun j v hj=>by
    rw [List.getElem?_take] at hj
    split at hj
    ·exact hc j v hj
    simp at hj)
   rw [List.length_take,Nat.min_eq_left (by omega)] at this
   simp only [if_true,Sem.run_bind,bP h1,Result.andThen_ok,←h3,this]
   exact ⟨_,rfl,by simp only [aj];exact ⟨_,rfl,ak.take _ hr⟩⟩
 |false=>
  simp only [hk,cond_false] at hs
  cases cs with
  |nil=>simp at hs
  |cons c cs=>
   simp at hs;subst hs
   simp only [ak] at hr
   obtain ⟨u,us,rfl,g1,_⟩:=hr
   have:=hc 0 u rfl
   simp only [Bool.false_eq_true,if_false]
   exact ⟨u,run_load (by simpa using this),g1⟩
theorem xw (hT:jL P T) (cx:cz G β bx w X) {t:Nat} {ti:TI} (ht:T t=some ti) {a:AV} {u:Value} (ha:aj β bx w (bc β bx w X) a u)
 {c:Prop} {v:AV} {b:Option (List ay)} (hr:n8 ti a bx=some ⟨c,v,b⟩) (hc:c):
 b=none∧∃x,(Instr.loadAt t u).run P w=.ok x w∧aj β bx w (bc β bx w X) v x:=by
 have ht':=hT.ti t ti ht
 unfold n8 at hr
 split at hr
 ·rename_i b' off
  simp only [aj] at ha
  obtain ⟨rfl,hb⟩:=ha
  split at hr
  ·rename_i cs p7
   split at hr
   ·rename_i v' hs
    simp only [R.pure,osI,R.mk.injEq] at hr
    obtain ⟨_,rfl,rfl⟩:=hr
    obtain ⟨ca,e,h1,h2⟩:=cx.box _ _ p7
    have h3:=ak.drop off h2
    obtain ⟨x,g1,g2⟩:=qX (P:=P) (w:=w) (blk:=β b') (off:=off) ht' hs h3 (fun j v hj=>by
     rw [List.getElem?_drop] at hj
     simp only [World.cell?,h1]
     simpa using hj)
    exact ⟨rfl,x,by simpa [Instr.loadAt,Instr.sureAddr] using g1,g2⟩
   simp at hr
  simp at hr
 ·rename_i ds
  simp only [aj] at ha
  obtain ⟨blk,off,rfl,hb,hrow⟩:=ha
  split at hr
  ·rename_i v' hs
   simp only [R.pure,osI,R.mk.injEq] at hr
   obtain ⟨_,rfl,rfl⟩:=hr
   obtain ⟨vs,g1,g2,g3⟩:=p6 (β:=β) (bx:=bx) ds off hrow
   obtain ⟨x,k1,k2⟩:=qX (P:=P) (w:=w) (blk:=blk) (off:=off) ht' hs g3 g2
   exact ⟨rfl,x,by simpa [Instr.loadAt,Instr.sureAddr] using k1,k2⟩
  simp at hr
 ·rename_i b' sz i j
  simp only [aj] at ha
  obtain ⟨rfl,hb⟩:=ha
  have main:∀(s:Nat) (es:List (List D)),i<es.length→s=sz→ap w (bc β bx w X) (β b') s es 0→∀v',cB ti.kd.isAgg ti.size (List.map AV.d ((es.getD i []).drop j))=some v'→
   ∃x,(Instr.loadAt t (.pointer (some ⟨β b',i*sz+j,none⟩))).run P w=.ok x w∧aj β bx w (bc β bx w X) v' x:=by
   intro s es hi hs hrows v' hsp
   obtain ⟨_,hrow⟩:=ap.get i es 0 hrows hi
   have hrow:=aT.drop j _ _ hrow
   obtain ⟨vs,g1,g2,g3⟩:=p6 (β:=β) (bx:=bx) _ _ hrow
   subst hs
   obtain ⟨x,k1,k2⟩:=qX (P:=P) (w:=w) (blk:=β b') (off:=0+i*s+j) ht' hsp g3 g2
   exact ⟨x,by simpa [Instr.loadAt,Instr.sureAddr] using k1,k2⟩
  split at hr
  ·rename_i s es p7
   split at hr
   ·rename_i v' hsp
    simp only [osI,R.mk.injEq] at hr
    obtain ⟨rfl,rfl,rfl⟩:=hr
    rcases cx.box _ _ p7 with h|⟨ca,e,h1,h2⟩
    ·subst h;simp at hc
    exact ⟨rfl,main s es hc.2 hc.1 h2 _ hsp⟩
   simp at hr
  ·rename_i s es p7
   split at hr
   ·rename_i v' hsp
    simp only [osI,R.mk.injEq] at hr
    obtain ⟨rfl,rfl,rfl⟩:=hr
    rcases cx.box _ _ p7 with h|⟨h1,h2⟩
    ·subst h;simp at hc
    exact ⟨rfl,main s es hc.2 hc.1 h2 _ hsp⟩
   simp at hr
  simp at hr
 simp at hr
def FR:Value→Prop
 |.agg _=>False
 |.tuple _=>False
 |_=>True
theorem aF.sc {ok:Nat→Prop} {x:D} {v:Value} (h:aF w ok x v):FR v:=by
 cases x<;>simp only [aF] at h
 ·subst h;trivial
 ·subst h;trivial
 ·subst h;trivial
 ·obtain ⟨_,_,rfl,_⟩:=h;trivial
 ·subst h;trivial
 obtain ⟨_,_,_,rfl,_⟩:=h;trivial
theorem aj.sc {ok:Nat→Prop} {x:AV} {v:Value} (hx:x.sc=true) (h:aj β bx w ok x v):FR v:=by
 cases x<;>simp only [AV.sc,Bool.false_eq_true] at hx<;>simp only [aj] at h
 ·exact aF.sc h
 ·rename_i c;subst h;cases c<;>trivial
 ·obtain ⟨rfl,_⟩:=h;trivial
 ·obtain ⟨rfl,_⟩:=h;trivial
 ·obtain ⟨_,_,rfl,_⟩:=h;trivial
 ·obtain ⟨_,h|h⟩:=h
  ·obtain ⟨_,_,rfl⟩:=h;trivial
  obtain ⟨_,_,_,_,_,rfl,_⟩:=h;trivial
 ·obtain ⟨_,rfl,_⟩:=h;trivial
 ·obtain ⟨vs,rfl,_⟩:=h;obtain ⟨a,b,e⟩:=C6 _ vs;rw [e];trivial
 ·obtain ⟨_,rfl,_⟩:=h;trivial
 obtain ⟨rfl,_⟩:=h;trivial
theorem ak.sc {ok:Nat→Prop}:∀{xs:List AV} {vs:List Value},so xs=true→ak β bx w ok xs vs→∀v∈vs,FR v
 |[],vs,_,h=>by simp only [ak] at h;subst h;simp
 |x::xs,vs,hx,h=>by
  simp only [ak] at h
  obtain ⟨u,us,rfl,g1,g2⟩:=h
  cases hs:x.sc with
  |false=>simp [so,hs] at hx
  |true=>
   simp only [so,hs,cond_true] at hx
   intro v hv
   rcases List.mem_cons.1 hv with rfl|hv
   ·exact aj.sc hs g1
   exact ak.sc hx g2 v hv
theorem mL {ok:Nat→Prop} {x:AV} {v:Value} {cs:List AV} (hx:x.cells?=some cs) (h:aj β bx w ok x v):
 ∃vs,v.cells=⟨vs⟩∧ak β bx w ok cs vs∧(∀u∈vs,FR u):=by
 have one:∀(y:AV) (u:Value),y.sc=true→aj β bx w ok y u→∃vs,u.cells=⟨vs⟩∧ak β bx w ok [y] vs∧(∀u∈vs,FR u):=by
  intro y u hy hu
  have:=aj.sc hy hu
  refine ⟨[u],?_,by simp only [ak];exact ⟨u,[],rfl,hu,rfl⟩,by simpa using this⟩
  cases u<;>simp_all [Value.cells,FR]
 cases x with
 |any=>simp [AV.cells?] at hx
 |vw _ _ _ _ _ _=>simp [AV.cells?] at hx
 |dL _=>simp [AV.cells?] at hx
 |cond _ _=>simp [AV.cells?] at hx
 |agg as=>
  simp only [AV.cells?] at hx
  cases ha:so as with
  |false=>simp [ha] at hx
  |true=>
   simp only [ha,cond_true,osI] at hx
   subst hx
   simp only [aj] at h
   obtain ⟨vs,rfl,g⟩:=h
   exact ⟨vs,rfl,g,ak.sc ha g⟩
 |d x=>simp only [AV.cells?,osI] at hx;subst hx;exact one _ _ rfl h
 |k x=>simp only [AV.cells?,osI] at hx;subst hx;exact one _ _ rfl h
 |ptr _ _=>simp only [AV.cells?,osI] at hx;subst hx;exact one _ _ rfl h
 |rp _ _ _ _=>simp only [AV.cells?,osI] at hx;subst hx;exact one _ _ rfl h
 |ep _=>simp only [AV.cells?,osI] at hx;subst hx;exact one _ _ rfl h
 |ow _ _ _=>simp only [AV.cells?,osI] at hx;subst hx;exact one _ _ rfl h
 |cl _=>simp only [AV.cells?,osI] at hx;subst hx;exact one _ _ rfl h
 |fn _ _=>simp only [AV.cells?,osI] at hx;subst hx;exact one _ _ rfl h
 |qx _ _=>simp only [AV.cells?,osI] at hx;subst hx;exact one _ _ rfl h
 |zP _=>simp only [AV.cells?,osI] at hx;subst hx;exact one _ _ rfl h
def dP (w:World) (blk:Nat) (o:Obj):World:={w with heap:=w.heap.setIfInBounds blk o}
theorem xx (w:World) (blk:Nat) (o:Obj) (k:Nat):(dP w blk o).heap[k]?=if k=blk then (w.heap[k]?).map (fun _=>o) else w.heap[k]?:=by
 show (w.heap.setIfInBounds blk o)[k]?=_
 rw [Array.getElem?_setIfInBounds]
 by_cases h:blk=k
 ·subst h
  by_cases hk:blk<w.heap.size
  ·simp [hk]
  simp [hk]
 simp [h,Ne.symm h]
theorem dJ {w:World} {blk:Nat} {o o':Obj} (h:w.heap[blk]?=some o'):(dP w blk o).heap[blk]?=some o:=by rw [xx];simp [h]
theorem ie {w:World} {blk k:Nat} {o:Obj} (h:k≠blk):(dP w blk o).heap[k]?=w.heap[k]?:=by rw [xx];simp [h]
theorem BG (w:World) (blk:Nat) (o o':Obj):dP (dP w blk o) blk o'=dP w blk o':=by
 unfold dP
 simp
theorem C8 {w:World} {blk off:Nat} {c:Array Value} {e:TypeId} {f:Nat×Nat} (h:w.heap[blk]?=some (.cells c e f)) (v:Value):
 w.setCell ⟨blk,off,none⟩ v=dP w blk (.cells (c.setIfInBounds off v) e f):=by
 unfold World.setCell dP
 congr 1
 apply Array.ext_getElem?
 intro i
 rw [Array.getElem?_modify,Array.getElem?_setIfInBounds]
 by_cases hi:blk=i
 ·subst hi
  have hlt:=eO h
  have h':w.heap[blk]=.cells c e f:=by simpa [hlt] using h
  simp [hlt,h']
 simp [hi]
theorem nv:∀(l:List Value) (n:Nat) (v:Value) (vs:List Value),aY l n (v::vs)=aY (l.set n v) (n+1) vs
 |[],n,v,vs=>by cases vs<;>simp [aY]
 |c::cs,0,v,vs=>by
  simp only [aY,List.set_cons_zero]
  cases vs with
  |nil=>cases cs<;>simp [aY]
  |cons u us=>simp [aY]
 |c::cs,n+1,v,vs=>by
  simp only [aY,List.set_cons_succ]
  rw [nv cs n v vs]
  cases vs with
  |nil=>simp [aY]
  |cons u us=>simp [aY]
theorem FT {w:World} {blk off:Nat} {c:Array Value} {e:TypeId} (h:w.heap[blk]?=some (.cells c e (0,0))) (ho:off<c.size) {v:Value} (hv:FR v):
 (store ⟨blk,off,none⟩ v).run P w=.ok () (dP w blk (.cells (c.setIfInBounds off v) e (0,0))):=by
 have h1:w.cell? ⟨blk,off,none⟩=some c[off]:=by simp [World.cell?,h,ho]
 have h2:w.frozen? ⟨blk,off,none⟩=false:=by simp [World.frozen?,h]
 rw [←C8 h]
 cases v<;>simp [FR] at hv<;>simp [store,Sem.run,h1,h2]
theorem iG {blk off:Nat} {e:TypeId}:∀(vs:List Value) (i:Nat) (w:World) (c:Array Value),w.heap[blk]?=some (.cells c e (0,0))→(∀v∈vs,FR v)→off+i+vs.length≤c.size→
 (storeCells ⟨blk,off,none⟩ vs i).run P w=.ok () (dP w blk (.cells ⟨aY c.toList (off+i) vs⟩ e (0,0)))
 |[],i,w,c,h,_,_=>by
  have:dP w blk (.cells c e (0,0))=w:=by
   have:w.heap.setIfInBounds blk (.cells c e (0,0))=w.heap:=by
    apply Array.ext_getElem?
    intro k
    rw [Array.getElem?_setIfInBounds]
    split
    ·rename_i hk;subst hk;split<;>simp_all
    rfl
   simp [dP,this]
  cases hc:c.toList with
  |nil=>
   simp [storeCells,aY];have uc:c=#[]:=by simpa using hc
   subst uc;exact this.symm
  |cons x xs=>simp [storeCells,aY];rw [←hc];exact this.symm
 |v::vs,i,w,c,h,hs,hl=>by
  simp only [List.length_cons] at hl
  simp only [storeCells,Sem.run_bind,fk]
  rw [FT h (by omega) (hs v (by simp))]
  simp only [Result.andThen_ok]
  rw [iG vs (i+1) _ (c.setIfInBounds (off+i) v) (dJ h) (fun u hu=>hs u (by simp [hu])) (by simp;omega),BG,nv]
  congr 4
  simp [show off+(i+1)=off+i+1 by omega]
theorem sB {t:Nat} {ti:TI} (ht:om P t=some ti) {blk off:Nat} {w:World} {c:Array Value} {e:TypeId} (h:w.heap[blk]?=some (.cells c e (0,0))) {v:Value} {vs:List Value} (hv:v.cells=⟨vs⟩)
 (hs:∀u∈vs,FR u) (hn:vs.length=ti.size) (hl:off+vs.length≤c.size):
 (storeVar t ⟨blk,off,none⟩ v).run P w=.ok () (dP w blk (.cells ⟨aY c.toList off vs⟩ e (0,0))):=by
 obtain ⟨i,d,h1,h2,h3,h4,h5,h6⟩:=aE ht
 have:=iG (P:=P) (off:=off) vs 0 w c h hs (by simpa using hl)
 simp only [Nat.add_zero] at this
 simp [storeVar,hv,bP h1,hn,h3,this]
theorem c8:∀(l:List Value) (n:Nat) (vs:List Value),(aY l n vs).length=l.length
 |l,n,[]=>by cases l<;>simp [aY]
 |[],n,v::vs=>by simp [aY]
 |c::cs,0,v::vs=>by simp [aY,c8 cs 0 vs]
 |c::cs,n+1,v::vs=>by simp [aY,c8 cs n (v::vs)]
end
end Dem
end
section
open Go
namespace Dem
section
variable {P:Program} {T:Nat→Option TI} {G:Nat→Option (List D)} {β:Nat→Nat} {bx:List ay} {w:World} {X:Nat→Prop}
theorem aH {b i:Nat} {B B':ay} (h:(bx.set b B')[i]?=some B):(i=b∧B=B'∧b<bx.length)∨(i≠b∧bx[i]?=some B):=by
 rw [List.getElem?_set] at h
 split at h
 ·rename_i vn;subst vn
  split at h
  ·simp at h;exact .inl ⟨rfl,h.symm,by assumption⟩
  simp at h
 rename_i vn;exact .inr ⟨fun e=>vn e.symm,h⟩
theorem iH {i:Nat} {B:ay} (h:bx[i]?=some B):i<bx.length:=by
 rcases Nat.lt_or_ge i bx.length with h'|h'
 ·exact h'
 simp [List.getElem?_eq_none h'] at h
theorem iI {b:Nat} {B B':ay} (h:bx[b]?=some B):(bx.set b B')[b]?=some B':=by
 have:=iH h
 simp [this]
theorem gV {b i:Nat} {B':ay} (hB:B'.born=true) (h:bT bx i):bT (bx.set b B') i:=by
 obtain ⟨B,h1,h2⟩:=h
 by_cases hi:i=b
 ·subst hi;exact ⟨B',iI h1,hB⟩
 exact ⟨B,by rw [List.getElem?_set_ne (Ne.symm hi)];exact h1,h2⟩
theorem kY {b:Nat} {B B':ay} (hb:bx[b]?=some B) (hl:B.live=true) {c c':Array Value} {e:TypeId} (hh:w.heap[β b]?=some (.cells c e (0,0))) (hc:c'.size=c.size) (Ow:B'.born=true):
 Ext β bx w β (bx.set b B') (dP w (β b) (.cells c' e (0,0))):=by
 refine ⟨rfl,rfl,rfl,by simp [dP],?_,?_,fun i hi=>⟨rfl,gV Ow hi⟩,?_⟩
 ·intro k hk hl'
  exact ie (fun e=>hl' b B hb hl e.symm)
 ·intro k c1 e1 f1 hk
  by_cases h:k=β b
  ·subst h
   rw [hh] at hk
   simp only [osI,Obj.cells.injEq] at hk
   obtain ⟨rfl,rfl,rfl⟩:=hk
   exact ⟨c',dJ hh,hc⟩
  exact ⟨c1,by rw [ie h];exact hk,rfl⟩
 intro i b' h1 h2
 rcases aH h1 with ⟨rfl,_,_⟩|⟨_,h3⟩
 ·exact .inr ⟨i,B,hb,hl,rfl⟩
 exact .inr ⟨i,b',h3,h2,rfl⟩
theorem qZ (cx:cz G β bx w X) {b:Nat} {B B':ay} (hb:bx[b]?=some B) (hl:B.live=true) {c c':Array Value} {e:TypeId} (hh:w.heap[β b]?=some (.cells c e (0,0))) (hc:c'.size=c.size) (Ow:B'.born=true)
 (hok:c6 β (bx.set b B') (dP w (β b) (.cells c' e (0,0))) (bc β (bx.set b B') (dP w (β b) (.cells c' e (0,0))) X) B' (β b)):
 cz G β (bx.set b B') (dP w (β b) (.cells c' e (0,0))) X:=by
 refine cx.step (kY hb hl hh hc Ow) ?_ ?_
 ·intro i b' h1
  rcases aH h1 with ⟨rfl,rfl,_⟩|⟨h2,h3⟩
  ·exact .inr hok
  refine .inl ⟨h3,fun hl'=>ie (fun e=>h2 (cx.inj i b b' B h3 hb hl' hl e))⟩
 intro i j bi bj h1 h2 l1 l2 he
 rcases aH h1 with ⟨rfl,rfl,_⟩|⟨h3,h4⟩<;>rcases aH h2 with ⟨rfl,rfl,_⟩|⟨h5,h6⟩
 ·rfl
 ·exact cx.inj _ j B bj hb h6 hl l2 he
 ·exact cx.inj i _ bi B h4 hb l1 hl he
 exact cx.inj i j bi bj h4 h6 l1 l2 he
theorem gX {b:Nat} {B B':ay} (_hb:bx[b]?=some B) (Ow:B'.live=false) (dG:B'.born=true):Ext β bx w β (bx.set b B') w:=by
 refine ⟨rfl,rfl,rfl,Nat.le_refl _,fun _ _ _=>rfl,fun k c e f h=>⟨c,h,rfl⟩,fun i hi=>⟨rfl,gV dG hi⟩,?_⟩
 intro i b' h1 h2
 rcases aH h1 with ⟨rfl,rfl,_⟩|⟨_,h3⟩
 ·rw [Ow] at h2;simp at h2
 exact .inr ⟨i,b',h3,h2,rfl⟩
theorem jv (cx:cz G β bx w X) {b:Nat} {B B':ay} (hb:bx[b]?=some B) (Ow:B'.live=false) (dG:B'.born=true)
 (hok:c6 β (bx.set b B') w (bc β (bx.set b B') w X) B' (β b)):cz G β (bx.set b B') w X:=by
 refine cx.step (gX hb Ow dG) ?_ ?_
 ·intro i b' h1
  rcases aH h1 with ⟨rfl,rfl,_⟩|⟨h2,h3⟩
  ·exact .inr hok
  exact .inl ⟨h3,fun _=>rfl⟩
 intro i j bi bj h1 h2 l1 l2 he
 rcases aH h1 with ⟨rfl,rfl,_⟩|⟨h3,h4⟩
 ·rw [Ow] at l1;simp at l1
 rcases aH h2 with ⟨rfl,rfl,_⟩|⟨h5,h6⟩
 ·rw [Ow] at l2;simp at l2
 exact cx.inj i j bi bj h4 h6 l1 l2 he
theorem HZ (cx:cz G β bx w X) {b:Nat} {sz:Nat} {es:List (List D)} (hb:bx[b]?=some (.row sz es)):
 Ext β bx w β (bx.set b (.mH sz es)) w∧cz G β (bx.set b (.mH sz es)) w X∧(es=[]∨bc β (bx.set b (.mH sz es)) w X (β b)∧ap w (bc β (bx.set b (.mH sz es)) w X) (β b) sz es 0):=by
 have ex:Ext β bx w β (bx.set b (.mH sz es)) w:=gX hb rfl rfl
 have key:es=[]∨bc β (bx.set b (.mH sz es)) w X (β b)∧ap w (bc β (bx.set b (.mH sz es)) w X) (β b) sz es 0:=by
  rcases cx.box b _ hb with h|⟨c,e,h1,h2⟩
  ·exact .inl h
  cases es with
  |nil=>exact .inl rfl
  |cons r rs=>
   refine .inr ⟨⟨eO h1,cx.apart b _ hb rfl,?_⟩,ap.mono (ex.keeps X) _ _ (fun _=>rfl) _ _ h2⟩
   intro i b' h3 h4 he
   rcases aH h3 with ⟨rfl,rfl,_⟩|⟨h5,h6⟩
   ·simp [ay.live] at h4
   exact h5 (cx.inj i b b' _ h6 hb h4 rfl he)
 exact ⟨ex,jv cx hb rfl rfl key,key⟩
theorem ap.lens {ok:Nat→Prop} {blk sz:Nat}:∀(es:List (List D)) (off:Nat),ap w ok blk sz es off→∀r∈es,r.length=sz
 |[],_,_=>by simp
 |r::rs,off,h=>by
  simp only [ap] at h
  intro x hx
  rcases List.mem_cons.1 hx with rfl|hx
  ·exact h.1
  exact ap.lens rs _ h.2.2 x hx
theorem jw {ok:Nat→Prop} {blk sz:Nat}:∀(es:List (List D)) (off:Nat),ap w ok blk sz es off→∃vs,vs.length=es.length*sz∧(∀j v,vs[j]?=some v→w.cell? ⟨blk,off+j,none⟩=some v)∧
 ak β bx w ok (es.flatten.map .d) vs
 |[],off,_=>⟨[],by simp,by simp,by simp [ak]⟩
 |r::rs,off,h=>by
  simp only [ap] at h
  obtain ⟨h1,h2,h3⟩:=h
  obtain ⟨vs,g1,g2,g3⟩:=p6 (β:=β) (bx:=bx) r off h2
  obtain ⟨us,k1,k2,k3⟩:=jw rs (off+sz) h3
  refine ⟨vs++us,by simp [g1,k1,h1,Nat.add_mul];omega,?_,by simpa using ak.append g3 k3⟩
  intro j v hj
  rcases Nat.lt_or_ge j vs.length with hlt|hge
  ·rw [List.getElem?_append_left hlt] at hj;exact g2 j v hj
  rw [List.getElem?_append_right hge] at hj
  have:=k2 _ v hj
  rwa [show off+sz+(j-vs.length)=off+j by omega] at this
theorem BH {ok:Nat→Prop} {blk:Nat}:∀(ds:List D) (off:Nat) (vs:List Value),(∀j v,vs[j]?=some v→w.cell? ⟨blk,off+j,none⟩=some v)→ak β bx w ok (ds.map .d) vs→aT w ok blk ds off
 |[],_,_,_,_=>by simp [aT]
 |x::xs,off,vs,hc,h=>by
  simp only [List.map_cons,ak,aj] at h
  obtain ⟨u,us,rfl,g1,g2⟩:=h
  simp only [aT]
  refine ⟨⟨u,by simpa using hc 0 u rfl,g1⟩,BH xs (off+1) us (fun j v hj=>?_) g2⟩
  have:=hc (j+1) v (by simpa using hj)
  rwa [show off+(j+1)=off+1+j by omega] at this
theorem l6 {ok:Nat→Prop} {blk sz:Nat}:∀(es:List (List D)) (off:Nat) (vs:List Value),(∀r∈es,r.length=sz)→(∀j v,vs[j]?=some v→w.cell? ⟨blk,off+j,none⟩=some v)→
 ak β bx w ok (es.flatten.map .d) vs→ap w ok blk sz es off
 |[],_,_,_,_,_=>by simp [ap]
 |r::rs,off,vs,hl,hc,h=>by
  simp only [List.flatten_cons,List.map_append] at h
  have h1:=ak.take r.length h
  have h2:=ak.drop r.length h
  rw [List.take_left' (by simp)] at h1
  rw [List.drop_left' (by simp)] at h2
  have hr:r.length=sz:=hl r (by simp)
  simp only [ap]
  refine ⟨hr,BH r off _ (fun j v hj=>?_) h1,l6 rs (off+sz) _ (fun x hx=>hl x (by simp [hx])) (fun j v hj=>?_) h2⟩
  ·rw [List.getElem?_take] at hj
   split at hj
   ·exact hc j v hj
   simp at hj
  rw [List.getElem?_drop] at hj
  have:=hc _ v hj
  rwa [show off+(r.length+j)=off+sz+j by omega] at this
theorem xy {ok:Nat→Prop} {x:AV} {es:List (List D)} {u:Value} (hx:∀b sz n,x≠.ow b sz n) (Lc:x.sq=false) (hr:x.rows bx=some es) (h:aj β bx w ok x u):
 ∃base cap,u=.slice base es.length cap∧es.length≤cap∧(es=[]∨∃blk off sz,base=some ⟨blk,off,none⟩∧ok blk∧ap w ok blk sz es off):=by
 cases x with
 |d y=>
  cases y with
  |sl es'=>simp only [AV.rows,osI] at hr;subst hr;simpa [aj,aF] using h
  |_=>simp [AV.rows] at hr
 |cl es'=>
  simp only [AV.rows,osI] at hr;subst hr
  simp only [aj] at h
  obtain ⟨base,rfl,g⟩:=h
  exact ⟨base,_,rfl,Nat.le_refl _,g⟩
 |ow b sz n=>exact absurd rfl (hx b sz n)
 |vw b sz off n c ex=>simp [AV.sq] at Lc
 |_=>simp [AV.rows] at hr
theorem ap.Ls {ok:Nat→Prop} {blk sz:Nat}:∀(n:Nat) (es:List (List D)) (off:Nat),ap w ok blk sz es off→ap w ok blk sz (es.drop n) (off+n*sz)
 |0,es,off,h=>by simpa using h
 |n+1,[],off,h=>by simp [ap]
 |n+1,r::rs,off,h=>by
  simp only [ap] at h
  have:=ap.Ls n rs (off+sz) h.2.2
  simpa [Nat.add_mul,show off+sz+n*sz=off+(n*sz+sz) by omega] using this
theorem ap.C9 {ok:Nat→Prop} {blk sz:Nat}:∀(n:Nat) (es:List (List D)) (off:Nat),ap w ok blk sz es off→ap w ok blk sz (es.take n) off
 |0,es,off,h=>by simp [ap]
 |n+1,[],off,h=>by simp [ap]
 |n+1,r::rs,off,h=>by
  simp only [ap] at h
  simp only [List.take_succ_cons,ap]
  exact ⟨h.1,h.2.1,ap.C9 n rs _ h.2.2⟩
theorem Av {s sz n m:Nat} {α:Type} {x y:α} (h:(bif Nat.beq s sz&&Nat.ble n m then some x else none)=some y):s=sz∧n≤m∧x=y:=by
 cases h1:Nat.beq s sz<;>cases h2:Nat.ble n m<;>simp [h1,h2] at h
 exact ⟨Nat.eq_of_beq_eq_true h1,Nat.le_of_ble_eq_true h2,h⟩
theorem nw {b sz off n c:Nat} {ex:Bool} {H6:List (List D)} {FU:Nat→Prop} {u:Value} {ok:Nat→Prop} (hn:off+n≤H6.length) (hrows:H6=[]∨ap w FU (β b) sz H6 0) (h:aj β bx w ok (.vw b sz off n c ex) u):
 ∃base cap,u=.slice base ((H6.drop off).take n).length cap∧((H6.drop off).take n).length≤cap∧((H6.drop off).take n=[]∨base=some ⟨β b,off*sz,none⟩∧ap w FU (β b) sz ((H6.drop off).take n) (off*sz)):=by
 simp only [aj] at h
 obtain ⟨_,base,cap,cs,e,f,rfl,h1,h2,h3,h4⟩:=h
 have hlen:((H6.drop off).take n).length=n:=by simp;omega
 refine ⟨base,cap,by rw [hlen],by rw [hlen];exact h1,?_⟩
 by_cases hn0:n=0
 ·subst hn0;exact .inl (by simp)
 right
 rcases h4 with h4|⟨h4,_⟩
 ·omega
 refine ⟨h4,?_⟩
 rcases hrows with rfl|hrows
 ·simp at hn;omega
 have:=ap.C9 n _ _ (ap.Ls off _ _ hrows)
 simpa using this
theorem Jp {s sz n m:Nat} {α:Type} {x y:α} (h:(bif Nat.beq s sz&&Nat.beq n m then some x else none)=some y):s=sz∧n=m∧x=y:=by
 cases h1:Nat.beq s sz<;>cases h2:Nat.beq n m<;>simp [h1,h2] at h
 exact ⟨Nat.eq_of_beq_eq_true h1,Nat.eq_of_beq_eq_true h2,h⟩
theorem sC (cx:cz G β bx w X) {b sz n:Nat} {es:List (List D)} {u:Value} (hr:(AV.ow b sz n).rows bx=some es) (h:aj β bx w (bc β bx w X) (.ow b sz n) u):
 n=es.length∧(∃base cap,u=.slice base es.length cap∧es.length≤cap∧(es=[]∧cap=0∨es≠[]∧base=some ⟨β b,0,none⟩∧ap w (bc β bx w X) (β b) sz es 0∧
  ∃c e f,w.heap[β b]?=some (.cells c e f)∧cap*sz≤c.size)):=by
 have main:∀es',n=es'.length→(es'=[]∨ap w (bc β bx w X) (β b) sz es' 0)→∃base cap,u=.slice base es'.length cap∧es'.length≤cap∧(es'=[]∧cap=0∨es'≠[]∧base=some ⟨β b,0,none⟩∧ap w (bc β bx w X) (β b) sz es' 0∧
  ∃c e f,w.heap[β b]?=some (.cells c e f)∧cap*sz≤c.size):=by
  intro es' hn hrows
  simp only [aj] at h
  obtain ⟨_,⟨h0,base,rfl⟩|⟨h0,cap,c,e,f,rfl,h1,h2,h3⟩⟩:=h
  ·have:es'=[]:=by simpa using (hn.symm.trans h0)
   subst this
   exact ⟨base,0,by simp,by simp,.inl ⟨rfl,rfl⟩⟩
  rcases hrows with rfl|hrows
  ·exact absurd (by simpa using hn) h0
  exact ⟨_,cap,by rw [hn],by omega,.inr ⟨by rintro rfl;exact h0 (by simpa using hn),rfl,hrows,c,e,f,h2,h3⟩⟩
 simp only [AV.rows] at hr
 split at hr
 ·rename_i s es' hb
  obtain ⟨rfl,rfl,rfl⟩:=Jp hr
  exact ⟨rfl,main _ rfl ((cx.box b _ hb).imp id fun ⟨_,_,_,g⟩=>g)⟩
 ·rename_i s es' hb
  obtain ⟨rfl,rfl,rfl⟩:=Jp hr
  exact ⟨rfl,main _ rfl ((cx.box b _ hb).imp id fun ⟨_,g⟩=>g)⟩
 simp at hr
theorem Rl {b sz n:Nat} {y:D} (h:(AV.ow b sz n).qy bx=some y):∃es,y=.sl es∧(AV.ow b sz n).rows bx=some es:=by
 simp only [AV.qy] at h
 simp only [AV.rows]
 split at h
 ·rename_i s es hb
  obtain ⟨rfl,rfl,rfl⟩:=Jp h
  exact ⟨es,rfl,by simp [hb]⟩
 ·rename_i s es hb
  obtain ⟨rfl,rfl,rfl⟩:=Jp h
  exact ⟨es,rfl,by simp [hb]⟩
 simp at h
theorem jz (cx:cz G β bx w X) {x:AV} {es:List (List D)} {u:Value} (hr:x.rows bx=some es) (h:aj β bx w (bc β bx w X) x u):
 Ext β bx w β (x.cq bx) w∧cz G β (x.cq bx) w X∧
 ∃base cap,u=.slice base es.length cap∧es.length≤cap∧(es=[]∨∃blk off sz,base=some ⟨blk,off,none⟩∧bc β (x.cq bx) w X blk∧ap w (bc β (x.cq bx) w X) blk sz es off):=by
 by_cases hx:∃b sz n,x=.ow b sz n
 ·obtain ⟨b,sz,n,rfl⟩:=hx
  obtain ⟨hn,base,cap,rfl,h1,h2⟩:=sC cx hr h
  simp only [AV.rows] at hr
  split at hr
  ·rename_i s es' hb
   obtain ⟨rfl,_,rfl⟩:=Jp hr
   obtain ⟨g1,g2,g3⟩:=HZ cx hb
   have oF:(AV.ow b s n).cq bx=bx.set b (.mH s es'):=by simp [AV.cq,hb]
   rw [oF]
   refine ⟨g1,g2,base,cap,rfl,h1,?_⟩
   rcases h2 with ⟨rfl,_⟩|⟨hne,rfl,_⟩
   ·exact .inl rfl
   rcases g3 with rfl|⟨g3,g4⟩
   ·exact .inl rfl
   exact .inr ⟨β b,0,s,rfl,g3,g4⟩
  ·rename_i s es' hb
   obtain ⟨rfl,_,rfl⟩:=Jp hr
   have oF:(AV.ow b s n).cq bx=bx:=by simp [AV.cq,hb]
   rw [oF]
   refine ⟨Ext.refl _ _ _,cx,base,cap,rfl,h1,?_⟩
   rcases h2 with ⟨rfl,_⟩|⟨hne,rfl,g,_⟩
   ·exact .inl rfl
   rcases cx.box b _ hb with rfl|⟨g3,g4⟩
   ·exact .inl rfl
   exact .inr ⟨β b,0,s,rfl,g3,g4⟩
  simp at hr
 have hx':∀b sz n,x≠.ow b sz n:=fun b sz n e=>hx ⟨b,sz,n,e⟩
 cases hv:x.sq with
 |true=>
  cases x with
  |vw b sz off n c ex=>
   simp only [AV.rows] at hr
   split at hr
   ·rename_i s es' hb
    obtain ⟨rfl,hle,rfl⟩:=Av hr
    obtain ⟨g1,g2,g3⟩:=HZ cx hb
    have oF:(AV.vw b s off n c ex).cq bx=bx.set b (.mH s es'):=by simp [AV.cq,hb]
    rw [oF]
    refine ⟨g1,g2,?_⟩
    obtain ⟨base,cap,rfl,k1,k2⟩:=nw (FU:=bc β (bx.set b (.mH s es')) w X) hle (g3.imp id fun g=>g.2) h
    refine ⟨base,cap,rfl,k1,?_⟩
    rcases g3 with rfl|⟨g3,_⟩
    ·left;simp
    rcases k2 with k2|⟨rfl,k3⟩
    ·exact .inl k2
    exact .inr ⟨β b,off*s,s,rfl,g3,k3⟩
   ·rename_i s es' hb
    obtain ⟨rfl,hle,rfl⟩:=Av hr
    have oF:(AV.vw b s off n c ex).cq bx=bx:=by simp [AV.cq,hb]
    rw [oF]
    refine ⟨Ext.refl _ _ _,cx,?_⟩
    have g3:=cx.box b _ hb
    obtain ⟨base,cap,rfl,k1,k2⟩:=nw (FU:=bc β bx w X) hle (g3.imp id fun g=>g.2) h
    refine ⟨base,cap,rfl,k1,?_⟩
    rcases g3 with rfl|⟨g3,_⟩
    ·left;simp
    rcases k2 with k2|⟨rfl,k3⟩
    ·exact .inl k2
    exact .inr ⟨β b,off*s,s,rfl,g3,k3⟩
   simp at hr
  |_=>simp [AV.sq] at hv
 |false=>
 have oF:x.cq bx=bx:=by cases x<;>simp_all [AV.cq,AV.sq]
 rw [oF]
 exact ⟨Ext.refl _ _ _,cx,xy hx' hv hr h⟩
theorem xz (cx:cz G β bx w X) {x:AV} {y:D} {u:Value} (hd:x.qy bx=some y) (h:aj β bx w (bc β bx w X) x u):
 Ext β bx w β (x.cq bx) w∧cz G β (x.cq bx) w X∧aF w (bc β (x.cq bx) w X) y u:=by
 cases x with
 |d x=>simp only [AV.qy,osI] at hd;subst hd;exact ⟨Ext.refl _ _ _,cx,h⟩
 |cl es=>
  simp only [AV.qy,osI] at hd;subst hd
  obtain ⟨g1,g2,g3⟩:=jz cx (x:=.cl es) (es:=es) rfl h
  exact ⟨g1,g2,by simpa [aF] using g3⟩
 |ow b sz n=>
  obtain ⟨es,rfl,hr⟩:=Rl hd
  obtain ⟨g1,g2,g3⟩:=jz cx hr h
  exact ⟨g1,g2,by simpa [aF] using g3⟩
 |fn f cs=>
  cases cs with
  |nil=>
   simp only [AV.qy,osI] at hd;subst hd
   simp only [aj,ak] at h
   obtain ⟨vs,rfl,rfl⟩:=h
   exact ⟨Ext.refl _ _ _,cx,by simp [xu,aF]⟩
  |cons c cs=>simp [AV.qy] at hd
 |_=>simp [AV.qy] at hd
theorem sD {z:AV} {i s:Nat} {es:List (List D)} (h:bx[i]?=some (.row s es)∨bx[i]?=some (.mH s es)):(z.cq bx)[i]?=some (.row s es)∨(z.cq bx)[i]?=some (.mH s es):=by
 cases z with
 |ow b sz n=>
  simp only [AV.cq]
  split
  ·rename_i s' es' hb
   by_cases hi:i=b
   ·subst hi
    rw [hb] at h
    simp at h
    obtain ⟨rfl,rfl⟩:=h
    exact .inr (iI hb)
   rw [List.getElem?_set_ne (Ne.symm hi)];exact h
  exact h
 |vw b sz off n c ex=>
  simp only [AV.cq]
  split
  ·rename_i s' es' hb
   by_cases hi:i=b
   ·subst hi
    rw [hb] at h
    simp at h
    obtain ⟨rfl,rfl⟩:=h
    exact .inr (iI hb)
   rw [List.getElem?_set_ne (Ne.symm hi)];exact h
  exact h
 |_=>exact h
theorem Aw {x z:AV} {y:D} (h:x.qy bx=some y):x.qy (z.cq bx)=some y:=by
 cases x with
 |ow b sz n=>
  simp only [AV.qy] at h ⊢
  split at h
  ·rename_i s es hb
   rcases sD (z:=z) (.inl hb) with g|g<;>simp [g,h]
  ·rename_i s es hb
   rcases sD (z:=z) (.inr hb) with g|g<;>simp [g,h]
  simp at h
 |fn f cs=>cases cs with
  |nil=>exact h
  |cons c cs=>exact h
 |_=>exact h
theorem rf {z:AV}:∀{xs:List AV} {ys:List D},iw bx xs=some ys→iw (z.cq bx) xs=some ys
 |[],ys,h=>h
 |x::xs,ys,h=>by
  simp only [iw] at h ⊢
  split at h
  ·rename_i y ys' hy hys
   rw [Aw hy,rf hys];exact h
  simp at h
theorem uj:∀(xs:List AV) (bx:List ay) (ys:List D) (vs:List Value),cz G β bx w X→iw bx xs=some ys→ak β bx w (bc β bx w X) xs vs→
 Ext β bx w β (dS bx xs) w∧cz G β (dS bx xs) w X∧ak β (dS bx xs) w (bc β (dS bx xs) w X) (ys.map .d) vs
 |[],bx,ys,vs,cx,hd,h=>by simp [iw] at hd;subst hd;exact ⟨Ext.refl _ _ _,cx,by simpa [dS] using h⟩
 |x::xs,bx,ys,vs,cx,hd,h=>by
  simp only [iw] at hd
  split at hd
  ·rename_i y ys' hy hys
   simp at hd;subst hd
   simp only [ak] at h
   obtain ⟨u,us,rfl,g1,g2⟩:=h
   obtain ⟨e1,c1,r1⟩:=xz cx hy g1
   obtain ⟨e2,c2,r2⟩:=uj xs (x.cq bx) ys' us c1 (rf hys) (ak.mono (e1.eN X) _ _ g2)
   refine ⟨e1.trans e2,c2,?_⟩
   simp only [dS,List.map_cons,ak,aj]
   exact ⟨u,us,rfl,aF.mono (e2.keeps X) _ _ r1,r2⟩
  simp at hd
theorem kZ:∀(l m:List Value) (n:Nat) (vs:List Value),n+vs.length≤l.length→aY (l++m) n vs=aY l n vs++m
 |l,m,n,[],_=>by cases l<;>cases m<;>simp [aY]
 |[],m,n,v::vs,h=>by simp at h
 |c::cs,m,0,v::vs,h=>by
  simp only [List.length_cons] at h
  simp only [List.cons_append,aY]
  rw [kZ cs m 0 vs (by omega)]
 |c::cs,m,n+1,v::vs,h=>by
  simp only [List.length_cons] at h
  simp only [List.cons_append,aY]
  rw [kZ cs m n (v::vs) (by simp;omega)]
theorem k9:∀(l:List D) (n:Nat) (vs:List D),(be l n vs).length=l.length
 |l,n,[]=>by cases l<;>simp [be]
 |[],n,v::vs=>by simp [be]
 |c::cs,0,v::vs=>by simp [be,k9 cs 0 vs]
 |c::cs,n+1,v::vs=>by simp [be,k9 cs n (v::vs)]
theorem oG:∀(l:List D) (n:Nat) (vs:List D),(be l n vs).map AV.d=eu (l.map .d) n (vs.map .d)
 |l,n,[]=>by cases l<;>simp [be,eu]
 |[],n,v::vs=>by simp [be,eu]
 |c::cs,0,v::vs=>by simp [be,eu,oG cs 0 vs]
 |c::cs,n+1,v::vs=>by simp [be,eu];rw [oG cs n (v::vs)];simp
theorem sE:∀(l m:List D) (n:Nat) (vs:List D),be (l++m) (l.length+n) vs=l++be m n vs
 |[],m,n,vs=>by simp
 |c::cs,m,n,vs=>by
  cases vs with
  |nil=>cases m<;>simp [be]
  |cons v vs=>
   rw [show (c::cs).length+n=(cs.length+n)+1 by simp;omega]
   simp only [List.cons_append,be]
   rw [sE cs m n (v::vs)]
theorem mz:∀(l m:List D) (n:Nat) (vs:List D),n+vs.length≤l.length→be (l++m) n vs=be l n vs++m
 |l,m,n,[],_=>by cases l<;>cases m<;>simp [be]
 |[],m,n,v::vs,h=>by simp at h
 |c::cs,m,0,v::vs,h=>by
  simp only [List.length_cons] at h
  simp only [List.cons_append,be]
  rw [mz cs m 0 vs (by omega)]
 |c::cs,m,n+1,v::vs,h=>by
  simp only [List.length_cons] at h
  simp only [List.cons_append,be]
  rw [mz cs m n (v::vs) (by simp;omega)]
theorem oH {sz:Nat}:∀(es:List (List D)) (i j:Nat) (ds:List D),(∀r∈es,r.length=sz)→i<es.length→j+ds.length≤(es.getD i []).length→
 (es.set i (be (es.getD i []) j ds)).flatten=be es.flatten (i*sz+j) ds
 |[],i,j,ds,_,h,_=>by simp at h
 |r::rs,0,j,ds,hl,_,hj=>by
  simp at hj
  simp only [List.set_cons_zero,List.flatten_cons,Nat.zero_mul,Nat.zero_add]
  rw [mz r _ j ds hj]
  simp
 |r::rs,i+1,j,ds,hl,hi,hj=>by
  have hr:r.length=sz:=hl r (by simp)
  simp at hi hj
  have:=oH rs i j ds (fun x hx=>hl x (by simp [hx])) hi (by simpa using hj)
  simp only [List.set_cons_succ,List.flatten_cons,List.getD_cons_succ]
  rw [this,show (i+1)*sz+j=r.length+(i*sz+j) by rw [hr,Nat.add_mul];omega,sE]
theorem Lt {ok:Nat→Prop} {x:AV} {y:D} {u:Value} (h:x.qy []=some y) (hx:aj β bx w ok x u):aF w ok y u:=by
 cases x with
 |d x=>simp only [AV.qy,osI] at h;subst h;simpa [aj] using hx
 |cl es=>
  simp only [AV.qy,osI] at h;subst h
  simp only [aj] at hx
  obtain ⟨base,rfl,g⟩:=hx
  simp only [aF];exact ⟨base,_,rfl,Nat.le_refl _,g⟩
 |ow b sz n=>simp [AV.qy] at h
 |fn f cs=>
  cases cs with
  |nil=>
   simp only [AV.qy,osI] at h;subst h
   simp only [aj,ak] at hx
   obtain ⟨vs,rfl,rfl⟩:=hx
   simp [aF,xu]
  |cons c cs=>simp [AV.qy] at h
 |_=>simp [AV.qy] at h
theorem p8 {ok:Nat→Prop}:∀{xs:List AV} {ys:List D} {us:List Value},iw [] xs=some ys→ak β bx w ok xs us→ak β bx w ok (ys.map .d) us
 |[],ys,us,h,hx=>by simp [iw] at h;subst h;simpa using hx
 |x::xs,ys,us,h,hx=>by
  simp only [iw] at h
  split at h
  ·rename_i y ys' h1 h2
   simp only [osI] at h;subst h
   simp only [ak] at hx
   obtain ⟨u,Lr,rfl,g1,g2⟩:=hx
   simp only [List.map_cons,ak,aj]
   exact ⟨u,Lr,rfl,Lt h1 g1,p8 h2 g2⟩
  simp at h
end
end Dem
end
