/- Parts of a proof, joined. -/
import Derived.Test.YtjnbpclolnmimaaGreatDoorK00
set_option linter.all false
set_option maxRecDepth 100000
set_option maxHeartbeats 4000000
section
open Go
namespace Dem
def mj (es:Array MapEntry) (clock:Nat):Prop:=es.all (·.born<clock)=true∧(es.toList.map (·.born)).Nodup
mutual
def aH (w:World) (ok:Nat→Prop):D→Value→Prop
 |.bool b,v=>v=.bool b
 |.int k n,v=>v=.int k n
 |.str s,v=>v=.string ⟨s.toArray⟩
 |.sl es,v=>∃base cap,v=.slice base es.length cap∧es.length≤cap∧
  (es=[]∨∃az off sz,base=some ⟨az,off,none⟩∧ok az∧an w ok az sz es off)
 |.fn f,v=>v=.func (.func f) #[] #[]
 |.mp ag es,v=>∃az ms clock,v=.map (some az)∧ok az∧w.heap[az]?=some (.map ms clock)∧mj ms clock∧be w ok ag es ms.toList
def aW (w:World) (ok:Nat→Prop) (az:Nat):List D→Nat→Prop
 |[],_=>True
 |x::xs,off=>(∃u,w.cell? ⟨az,off,none⟩=some u∧aH w ok x u)∧aW w ok az xs (off+1)
def an (w:World) (ok:Nat→Prop) (az sz:Nat):List (List D)→Nat→Prop
 |[],_=>True
 |r::rs,off=>r.length=sz∧aW w ok az r off∧an w ok az sz rs (off+sz)
def be (w:World) (ok:Nat→Prop) (ag:Bool):List (List D)→List MapEntry→Prop
 |[],ms=>ms=[]
 |r::rs,ms=>∃m Fx,ms=m::Fx∧gM w ok ag r m∧be w ok ag rs Fx
def gM (w:World) (ok:Nat→Prop) (ag:Bool):List D→MapEntry→Prop
 |[],_=>False
 |k::ds,m=>aH w ok k m.key∧∃cs,m.val=(bif ag then .agg ⟨cs⟩ else cs.headD undef)∧(ag=false→cs.length=1)∧b9 w ok ds cs
def b9 (w:World) (ok:Nat→Prop):List D→List Value→Prop
 |[],vs=>vs=[]
 |d::ds,vs=>∃v r,vs=v::r∧aH w ok d v∧b9 w ok ds r
end
def jz (w w':World) (ok ok':Nat→Prop):Prop:=∀az,ok az→ok' az∧w'.heap[az]?=w.heap[az]?
theorem nB {w w':World} {az:Nat} (h:w'.heap[az]?=w.heap[az]?) (off:Nat) (sp:Option Nat):w'.cell? ⟨az,off,sp⟩=w.cell? ⟨az,off,sp⟩:=by
 simp only [World.cell?,h]
theorem jz.cell {w w':World} {ok ok':Nat→Prop} (h:jz w w' ok ok') {az:Nat} (hb:ok az) (off:Nat):w'.cell? ⟨az,off,none⟩=w.cell? ⟨az,off,none⟩:=nB (h az hb).2 off _
mutual
theorem aH.mono {w w':World} {ok ok':Nat→Prop} (h:jz w w' ok ok'):∀(x:D) (v:Value),aH w ok x v→aH w' ok' x v
 |.bool b,v,hv=>by simpa [aH] using hv
 |.int k n,v,hv=>by simpa [aH] using hv
 |.str s,v,hv=>by simpa [aH] using hv
 |.sl es,v,hv=>by
  simp only [aH] at hv ⊢
  obtain ⟨base,cap,h1,h2,h3⟩:=hv
  refine ⟨base,cap,h1,h2,h3.imp id ?_⟩
  rintro ⟨az,off,sz,e1,e2,e3⟩
  exact ⟨az,off,sz,e1,(h az e2).1,an.mono h az sz (h.cell e2) es off e3⟩
 |.fn f,v,hv=>by simpa [aH] using hv
 |.mp ag es,v,hv=>by
  simp only [aH] at hv ⊢
  obtain ⟨az,ms,clock,h1,h2,h3,h4,h5⟩:=hv
  exact ⟨az,ms,clock,h1,(h az h2).1,by rw [(h az h2).2];exact h3,h4,be.mono h ag es _ h5⟩
theorem aW.mono {w w':World} {ok ok':Nat→Prop} (h:jz w w' ok ok') (az:Nat) (hb:∀off,w'.cell? ⟨az,off,none⟩=w.cell? ⟨az,off,none⟩):∀(xs:List D) (off:Nat),aW w ok az xs off→aW w' ok' az xs off
 |[],_,_=>by simp [aW]
 |x::xs,off,hv=>by
  simp only [aW] at hv ⊢
  obtain ⟨⟨u,h1,h2⟩,h3⟩:=hv
  exact ⟨⟨u,by rw [hb];exact h1,aH.mono h x u h2⟩,aW.mono h az hb xs _ h3⟩
theorem an.mono {w w':World} {ok ok':Nat→Prop} (h:jz w w' ok ok') (az sz:Nat) (hb:∀off,w'.cell? ⟨az,off,none⟩=w.cell? ⟨az,off,none⟩):∀(rs:List (List D)) (off:Nat),an w ok az sz rs off→an w' ok' az sz rs off
 |[],_,_=>by simp [an]
 |r::rs,off,hv=>by
  simp only [an] at hv ⊢
  exact ⟨hv.1,aW.mono h az hb r _ hv.2.1,an.mono h az sz hb rs _ hv.2.2⟩
theorem be.mono {w w':World} {ok ok':Nat→Prop} (h:jz w w' ok ok') (ag:Bool):∀(rs:List (List D)) (ms:List MapEntry),be w ok ag rs ms→be w' ok' ag rs ms
 |[],_,hv=>by simpa [be] using hv
 |r::rs,ms,hv=>by
  simp only [be] at hv ⊢
  obtain ⟨m,Fx,h1,h2,h3⟩:=hv
  exact ⟨m,Fx,h1,gM.mono h ag r m h2,be.mono h ag rs Fx h3⟩
theorem gM.mono {w w':World} {ok ok':Nat→Prop} (h:jz w w' ok ok') (ag:Bool):∀(r:List D) (m:MapEntry),gM w ok ag r m→gM w' ok' ag r m
 |[],_,hv=>by simp [gM] at hv
 |k::ds,m,hv=>by
  simp only [gM] at hv ⊢
  obtain ⟨h1,cs,h2,h3,h4⟩:=hv
  exact ⟨aH.mono h k _ h1,cs,h2,h3,b9.mono h ds cs h4⟩
theorem b9.mono {w w':World} {ok ok':Nat→Prop} (h:jz w w' ok ok'):∀(ds:List D) (vs:List Value),b9 w ok ds vs→b9 w' ok' ds vs
 |[],_,hv=>by simpa [b9] using hv
 |d::ds,vs,hv=>by
  simp only [b9] at hv ⊢
  obtain ⟨v,r,h1,h2,h3⟩:=hv
  exact ⟨v,r,h1,aH.mono h d v h2,b9.mono h ds r h3⟩
end
def aY (β:Nat→Nat) (bx:List ar) (w:World) (X:Nat→Prop) (az:Nat):Prop:=
 az<w.heap.size∧¬X az∧∀i b,bx[i]?=some b→b.live=true→β i≠az
def zJ (f:Nat):List Value→Value
 |.tuple fs::vs=>.func (.func f) fs ⟨vs⟩
 |vs=>.func (.func f) #[] ⟨vs⟩
theorem FL (f:Nat) (vs:List Value):∃a b,zJ f vs=.func (.func f) a b:=by unfold zJ;split<;>exact ⟨_,_,rfl⟩
mutual
def ah (β:Nat→Nat) (bx:List ar) (w:World) (ok:Nat→Prop):AV→Value→Prop
 |.any,_=>True
 |.d x,v=>aH w ok x v
 |.k c,v=>v=c.val
 |.agg cs,v=>∃vs,v=.agg ⟨vs⟩∧aj β bx w ok cs vs
 |.dA cs,v=>∃vs,v=.tuple ⟨vs⟩∧aj β bx w ok cs vs
 |.ptr b off,v=>v=.pointer (some ⟨β b,off,none⟩)∧bT bx b
 |.rp b sz i j,v=>v=.pointer (some ⟨β b,i*sz+j,none⟩)∧bT bx b
 |.ep ds,v=>∃az off,v=.pointer (some ⟨az,off,none⟩)∧ok az∧aW w ok az ds off
 |.ow b sz n,v=>bT bx b∧((n=0∧∃base,v=.slice base 0 0)∨
  (n≠0∧∃cap c e f,v=.slice (some ⟨β b,0,none⟩) n cap∧n≤cap∧w.heap[β b]?=some (.cells c e f)∧cap*sz≤c.size))
 |.cl es,v=>∃base,v=.slice base es.length es.length∧(es=[]∨∃az off sz,base=some ⟨az,off,none⟩∧ok az∧an w ok az sz es off)
 |.fn f dB,v=>∃vs,v=zJ f vs∧aj β bx w ok dB vs
 |.sG t x,v=>∃u,v=.iface t u∧ah β bx w ok x u
 |.cond p x,v=>(p=true→ah β bx w ok x v)∧(p=false→v=undef)
 |.vw b sz off n c ex,v=>bT bx b∧∃base cap cs e f,v=.slice base n cap∧n≤cap∧c≤cap∧(ex=true→cap=c)∧(cap=0∨base=some ⟨β b,off*sz,none⟩∧w.heap[β b]?=some (.cells cs e f)∧(off+cap)*sz≤cs.size)
 |.zB b,v=>v=.map (some (β b))∧bT bx b
def aj (β:Nat→Nat) (bx:List ar) (w:World) (ok:Nat→Prop):List AV→List Value→Prop
 |[],vs=>vs=[]
 |x::xs,vs=>∃u us,vs=u::us∧ah β bx w ok x u∧aj β bx w ok xs us
end
def dw (β:Nat→Nat) (bx:List ar) (w:World) (ok:Nat→Prop):ar→Nat→Prop
 |.var cs,az=>∃c e,w.heap[az]?=some (.cells c e (0,0))∧aj β bx w ok cs c.toList
 |.row sz es,az=>es=[]∨∃c e,w.heap[az]?=some (.cells c e (0,0))∧an w ok az sz es 0
 |.nP sz es,az=>es=[]∨(ok az∧an w ok az sz es 0)
 |.it s pos,az=>w.heap[az]?=some (.stringIter ⟨s.toArray⟩ pos)
 |.mp ag es,az=>∃ms clock,w.heap[az]?=some (.map ms clock)∧mj ms clock∧be w ok ag es ms.toList
 |.dead,_=>True
 |.bt,_=>True
structure cr (G:Nat→Option (List D)) (β:Nat→Nat) (bx:List ar) (w:World) (X:Nat→Prop):Prop where
 xs:∀az,X az→az<w.heap.size
 zK:∀g ds,G g=some ds→aY β bx w X g∧aW w (aY β bx w X) g ds 0
 inj:∀i j bi bj,bx[i]?=some bi→bx[j]?=some bj→bi.live=true→bj.live=true→β i=β j→i=j
 box:∀i b,bx[i]?=some b→dw β bx w (aY β bx w X) b (β i)
 apart:∀i b,bx[i]?=some b→b.live=true→¬X (β i)
structure Ext (β:Nat→Nat) (bx:List ar) (w:World) (β':Nat→Nat) (aF:List ar) (w':World):Prop where
 os:w'.os=w.os
 tape:w'.tape=w.tape
 output:w'.output=w.output
 size:w.heap.size≤w'.heap.size
 block:∀k,k<w.heap.size→(∀i b,bx[i]?=some b→b.live=true→β i≠k)→w'.heap[k]?=w.heap[k]?
 shape:∀(k:Nat) (c:Array Value) (e:TypeId) (f:Nat×Nat),w.heap[k]?=some (.cells c e f)→∃c',w'.heap[k]?=some (.cells c' e f)∧c'.size=c.size
 born:∀i,bT bx i→β' i=β i∧bT aF i
 live:∀i b,aF[i]?=some b→b.live=true→w.heap.size≤β' i∨∃j b',bx[j]?=some b'∧b'.live=true∧β j=β' i
theorem Ext.refl (β:Nat→Nat) (bx:List ar) (w:World):Ext β bx w β bx w:=
 ⟨rfl,rfl,rfl,Nat.le_refl _,fun _ _ _=>rfl,fun _ c _ _ h=>⟨c,h,rfl⟩,fun _ h=>⟨rfl,h⟩,fun i b h1 h2=>.inr ⟨i,b,h1,h2,rfl⟩⟩
theorem rN {b:ar} (h:b.live=true):b.born=true:=by cases b<;>simp_all [ar.live,ar.born]
theorem Ext.trans {β β' β'':Nat→Nat} {bx aF OI:List ar} {w w' w'':World} (h:Ext β bx w β' aF w') (g:Ext β' aF w' β'' OI w''):Ext β bx w β'' OI w'':=by
 refine ⟨g.os.trans h.os,g.tape.trans h.tape,g.output.trans h.output,Nat.le_trans h.size g.size,?_,?_,?_,?_⟩
 ·intro k hk hl
  rw [g.block k (Nat.lt_of_lt_of_le hk h.size),h.block k hk hl]
  intro i b hb hlv he
  rcases h.live i b hb hlv with h1|⟨j,b',h1,h2,h3⟩
  ·omega
  exact hl j b' h1 h2 (h3.trans he)
 ·intro k c e f hk
  obtain ⟨c',h1,h2⟩:=h.shape k c e f hk
  obtain ⟨c'',h3,h4⟩:=g.shape k c' e f h1
  exact ⟨c'',h3,h4.trans h2⟩
 ·intro i hi
  obtain ⟨h1,h2⟩:=h.born i hi
  obtain ⟨h3,h4⟩:=g.born i h2
  exact ⟨h3.trans h1,h4⟩
 intro i b hb hlv
 rcases g.live i b hb hlv with h1|⟨j,b',h1,h2,h3⟩
 ·exact .inl (Nat.le_trans h.size h1)
 rcases h.live j b' h1 h2 with h4|⟨k,b'',h4,h5,h6⟩
 ·exact .inl (by omega)
 exact .inr ⟨k,b'',h4,h5,h6.trans h3⟩
theorem Ext.keeps {β β':Nat→Nat} {bx aF:List ar} {w w':World} (h:Ext β bx w β' aF w') (X:Nat→Prop):
 jz w w' (aY β bx w X) (aY β' aF w' X):=by
 rintro az ⟨h1,h2,h3⟩
 refine ⟨⟨Nat.lt_of_lt_of_le h1 h.size,h2,?_⟩,h.block az h1 h3⟩
 intro i b hb hlv he
 rcases h.live i b hb hlv with h4|⟨j,b',h4,h5,h6⟩
 ·omega
 exact h3 j b' h4 h5 (h6.trans he)
structure sQ (β:Nat→Nat) (bx:List ar) (w:World) (ok:Nat→Prop) (β':Nat→Nat) (aF:List ar) (w':World) (ok':Nat→Prop):Prop where
 keeps:jz w w' ok ok'
 born:∀i,bT bx i→β' i=β i∧bT aF i
 shape:∀(k:Nat) (c:Array Value) (e:TypeId) (f:Nat×Nat),w.heap[k]?=some (.cells c e f)→∃c',w'.heap[k]?=some (.cells c' e f)∧c'.size=c.size
theorem Ext.dN {β β':Nat→Nat} {bx aF:List ar} {w w':World} (h:Ext β bx w β' aF w') (X:Nat→Prop):
 sQ β bx w (aY β bx w X) β' aF w' (aY β' aF w' X):=⟨h.keeps X,h.born,h.shape⟩
mutual
theorem ah.mono {β β':Nat→Nat} {bx aF:List ar} {w w':World} {ok ok':Nat→Prop} (h:sQ β bx w ok β' aF w' ok'):
 ∀(x:AV) (v:Value),ah β bx w ok x v→ah β' aF w' ok' x v
 |.any,_,_=>by simp [ah]
 |.d x,v,hv=>by simp only [ah] at hv ⊢;exact aH.mono h.keeps x v hv
 |.k c,v,hv=>by simpa [ah] using hv
 |.agg cs,v,hv=>by simp only [ah] at hv ⊢;obtain ⟨vs,e,g⟩:=hv;exact ⟨vs,e,aj.mono h cs vs g⟩
 |.dA cs,v,hv=>by simp only [ah] at hv ⊢;obtain ⟨vs,e,g⟩:=hv;exact ⟨vs,e,aj.mono h cs vs g⟩
 |.ptr b off,v,hv=>by simp only [ah] at hv ⊢;obtain ⟨e,g⟩:=hv;exact ⟨by rw [(h.born b g).1];exact e,(h.born b g).2⟩
 |.rp b sz i j,v,hv=>by simp only [ah] at hv ⊢;obtain ⟨e,g⟩:=hv;exact ⟨by rw [(h.born b g).1];exact e,(h.born b g).2⟩
 |.ep ds,v,hv=>by
  simp only [ah] at hv ⊢
  obtain ⟨az,off,e,g1,g2⟩:=hv
  exact ⟨az,off,e,(h.keeps az g1).1,aW.mono h.keeps az (h.keeps.cell g1) ds off g2⟩
 |.ow b sz n,v,hv=>by
  simp only [ah] at hv ⊢
  obtain ⟨g,hv⟩:=hv
  refine ⟨(h.born b g).2,hv.imp id ?_⟩
  rintro ⟨hn,cap,c,e,f,e1,e2,e3,e4⟩
  obtain ⟨c',e5,e6⟩:=h.shape _ _ _ _ e3
  rw [(h.born b g).1]
  exact ⟨hn,cap,c',e,f,e1,e2,e5,by rw [e6];exact e4⟩
 |.cl es,v,hv=>by
  simp only [ah] at hv ⊢
  obtain ⟨base,e,g⟩:=hv
  refine ⟨base,e,g.imp id ?_⟩
  rintro ⟨az,off,sz,e1,e2,e3⟩
  exact ⟨az,off,sz,e1,(h.keeps az e2).1,an.mono h.keeps az sz (h.keeps.cell e2) es off e3⟩
 |.fn f dB,v,hv=>by simp only [ah] at hv ⊢;obtain ⟨vs,e,g⟩:=hv;exact ⟨vs,e,aj.mono h dB vs g⟩
 |.sG t x,v,hv=>by simp only [ah] at hv ⊢;obtain ⟨u,e,g⟩:=hv;exact ⟨u,e,ah.mono h x u g⟩
 |.cond p x,v,hv=>by simp only [ah] at hv ⊢;exact ⟨fun hp=>ah.mono h x v (hv.1 hp),hv.2⟩
 |.vw b sz off n c ex,v,hv=>by
  simp only [ah] at hv ⊢
  obtain ⟨g,base,cap,cs,e,f,e1,e2,e3,e4,e5⟩:=hv
  rcases e5 with e5|⟨e5,e6,e7⟩
  ·exact ⟨(h.born b g).2,base,cap,cs,e,f,e1,e2,e3,e4,.inl e5⟩
  obtain ⟨c',k5,k6⟩:=h.shape _ _ _ _ e6
  rw [(h.born b g).1]
  exact ⟨(h.born b g).2,base,cap,c',e,f,e1,e2,e3,e4,.inr ⟨e5,k5,by rw [k6];exact e7⟩⟩
 |.zB b,v,hv=>by simp only [ah] at hv ⊢;obtain ⟨e,g⟩:=hv;exact ⟨by rw [(h.born b g).1];exact e,(h.born b g).2⟩
theorem aj.mono {β β':Nat→Nat} {bx aF:List ar} {w w':World} {ok ok':Nat→Prop} (h:sQ β bx w ok β' aF w' ok'):
 ∀(xs:List AV) (vs:List Value),aj β bx w ok xs vs→aj β' aF w' ok' xs vs
 |[],vs,hv=>by simpa [aj] using hv
 |x::xs,vs,hv=>by
  simp only [aj] at hv ⊢
  obtain ⟨u,us,e,g1,g2⟩:=hv
  exact ⟨u,us,e,ah.mono h x u g1,aj.mono h xs us g2⟩
end
theorem aj.length {β:Nat→Nat} {bx:List ar} {w:World} {ok:Nat→Prop}:∀{xs:List AV} {vs:List Value},aj β bx w ok xs vs→vs.length=xs.length
 |[],vs,h=>by simp only [aj] at h;simp [h]
 |x::xs,vs,h=>by simp only [aj] at h;obtain ⟨u,us,rfl,_,g⟩:=h;simp [aj.length g]
theorem aj.get {β:Nat→Nat} {bx:List ar} {w:World} {ok:Nat→Prop}:∀{xs:List AV} {vs:List Value} (i:Nat) (x:AV),aj β bx w ok xs vs→xs[i]?=some x→∃v,vs[i]?=some v∧ah β bx w ok x v
 |[],_,i,x,_,hx=>by simp at hx
 |y::ys,vs,i,x,h,hx=>by
  simp only [aj] at h
  obtain ⟨u,us,rfl,g1,g2⟩:=h
  cases i with
  |zero=>simp at hx;subst hx;exact ⟨u,by simp,g1⟩
  |succ i=>simp at hx;obtain ⟨v,h1,h2⟩:=aj.get i x g2 hx;exact ⟨v,by simpa using h1,h2⟩
theorem aj.drop {β:Nat→Nat} {bx:List ar} {w:World} {ok:Nat→Prop}:∀(n:Nat) {xs:List AV} {vs:List Value},aj β bx w ok xs vs→aj β bx w ok (xs.drop n) (vs.drop n)
 |0,xs,vs,h=>by simpa using h
 |n+1,[],vs,h=>by simp only [aj] at h;subst h;simp [aj]
 |n+1,x::xs,vs,h=>by
  simp only [aj] at h
  obtain ⟨u,us,rfl,_,g2⟩:=h
  simpa using aj.drop n g2
theorem aj.take {β:Nat→Nat} {bx:List ar} {w:World} {ok:Nat→Prop}:∀(n:Nat) {xs:List AV} {vs:List Value},aj β bx w ok xs vs→aj β bx w ok (xs.take n) (vs.take n)
 |0,xs,vs,h=>by simp [aj]
 |n+1,[],vs,h=>by simp only [aj] at h;subst h;simp [aj]
 |n+1,x::xs,vs,h=>by
  simp only [aj] at h
  obtain ⟨u,us,rfl,g1,g2⟩:=h
  simp only [List.take_succ_cons,aj]
  exact ⟨u,_,rfl,g1,aj.take n g2⟩
theorem aj.append {β:Nat→Nat} {bx:List ar} {w:World} {ok:Nat→Prop}:∀{xs ys:List AV} {vs us:List Value},aj β bx w ok xs vs→aj β bx w ok ys us→aj β bx w ok (xs++ys) (vs++us)
 |[],ys,vs,us,h,g=>by simp only [aj] at h;subst h;simpa using g
 |x::xs,ys,vs,us,h,g=>by
  simp only [aj] at h
  obtain ⟨u,OJ,rfl,g1,g2⟩:=h
  simp only [List.cons_append,aj]
  exact ⟨u,_,rfl,g1,aj.append g2 g⟩
def aX:List Value→Nat→List Value→List Value
 |cs,_,[]=>cs
 |[],_,_::_=>[]
 |_::cs,0,v::vs=>v::aX cs 0 vs
 |c::cs,n+1,v::vs=>c::aX cs n (v::vs)
theorem aj.eB {β:Nat→Nat} {bx:List ar} {w:World} {ok:Nat→Prop}:∀{xs:List AV} {vs:List Value} (n:Nat) {ys:List AV} {us:List Value},aj β bx w ok xs vs→aj β bx w ok ys us→
 aj β bx w ok (Dem.eB xs n ys) (aX vs n us)
 |xs,vs,n,[],us,h,g=>by
  simp only [aj] at g;subst g
  cases xs<;>cases vs<;>simpa [Dem.eB,aX] using h
 |[],vs,n,y::ys,us,h,g=>by
  simp only [aj] at h g;obtain ⟨u,OJ,rfl,_,_⟩:=g;subst h
  simp [Dem.eB,aX,aj]
 |x::xs,vs,0,y::ys,us,h,g=>by
  simp only [aj] at h g
  obtain ⟨u,OJ,rfl,g1,g2⟩:=g
  obtain ⟨v,vs',rfl,h1,h2⟩:=h
  simp only [Dem.eB,aX,aj]
  exact ⟨u,_,rfl,g1,aj.eB 0 h2 g2⟩
 |x::xs,vs,n+1,y::ys,us,h,g=>by
  simp only [aj] at h
  obtain ⟨v,vs',rfl,h1,h2⟩:=h
  have g0:=g
  simp only [aj] at g
  obtain ⟨u,OJ,rfl,g1,g2⟩:=g
  simp only [Dem.eB,aX,aj]
  exact ⟨v,_,rfl,h1,aj.eB n h2 g0⟩
theorem dw.mono {β β':Nat→Nat} {bx aF:List ar} {w w':World} {ok ok':Nat→Prop} (h:sQ β bx w ok β' aF w' ok') {b:ar} {az:Nat}
 (hl:b.live=true→w'.heap[az]?=w.heap[az]?) (hb:dw β bx w ok b az):dw β' aF w' ok' b az:=by
 cases b with
 |var cs=>
  obtain ⟨c,e,h1,h2⟩:=hb
  exact ⟨c,e,by rw [hl rfl];exact h1,aj.mono h _ _ h2⟩
 |row sz es=>
  cases es with
  |nil=>exact .inl rfl
  |cons r rs=>
   rcases hb with hb|⟨c,e,h1,h2⟩
   ·exact .inl hb
   exact .inr ⟨c,e,by rw [hl rfl];exact h1,an.mono h.keeps az sz (fun off=>nB (hl rfl) off _) _ _ h2⟩
 |nP sz es=>
  rcases hb with hb|⟨h1,h2⟩
  ·exact .inl hb
  exact .inr ⟨(h.keeps az h1).1,an.mono h.keeps az sz (h.keeps.cell h1) _ _ h2⟩
 |it s pos=>simp only [dw] at hb ⊢;rw [hl rfl];exact hb
 |mp ag es=>
  obtain ⟨ms,clock,h1,h2,h3⟩:=hb
  exact ⟨ms,clock,by rw [hl rfl];exact h1,h2,be.mono h.keeps ag es _ h3⟩
 |dead=>trivial
 |bt=>trivial
theorem cr.step {G:Nat→Option (List D)} {β β':Nat→Nat} {bx aF:List ar} {w w':World} {X:Nat→Prop} (cx:cr G β bx w X) (ex:Ext β bx w β' aF w')
 (ZJ:∀i b,aF[i]?=some b→(bx[i]?=some b∧(b.live=true→w'.heap[β i]?=w.heap[β i]?))∨dw β' aF w' (aY β' aF w' X) b (β' i))
 (hinj:∀i j bi bj,aF[i]?=some bi→aF[j]?=some bj→bi.live=true→bj.live=true→β' i=β' j→i=j):cr G β' aF w' X:=by
 refine ⟨fun az hb=>Nat.lt_of_lt_of_le (cx.xs az hb) ex.size,?_,hinj,?_,?_⟩
 ·intro g ds hg
  obtain ⟨h1,h2⟩:=cx.zK g ds hg
  exact ⟨(ex.keeps X g h1).1,aW.mono (ex.keeps X) g ((ex.keeps X).cell h1) _ _ h2⟩
 ·intro i b hb
  rcases ZJ i b hb with ⟨h1,h2⟩|h
  ·by_cases c8:b.born=true
   ·rw [(ex.born i ⟨b,h1,c8⟩).1]
    exact dw.mono (ex.dN X) h2 (cx.box i b h1)
   cases b<;>simp_all [ar.born,dw]
  exact h
 intro i b hb hl hX
 rcases ex.live i b hb hl with h|⟨j,b',h1,h2,h3⟩
 ·have:=cx.xs _ hX;omega
 exact cx.apart j b' h1 h2 (h3▸hX)
structure D5 (w w':World):Prop where
 heap:w'.heap=w.heap
 os:w'.os=w.os
 tape:w'.tape=w.tape
 output:w'.output=w.output
theorem iI {β:Nat→Nat} {bx:List ar} {w w':World} (h:D5 w w'):Ext β bx w β bx w':=
 ⟨h.os,h.tape,h.output,by rw [h.heap];exact Nat.le_refl _,fun k _ _=>by rw [h.heap],fun k c e f hk=>⟨c,by rw [h.heap];exact hk,rfl⟩,fun i hi=>⟨rfl,hi⟩,fun i b h1 h2=>.inr ⟨i,b,h1,h2,rfl⟩⟩
theorem qn {G:Nat→Option (List D)} {β:Nat→Nat} {bx:List ar} {w w':World} {X:Nat→Prop} (cx:cr G β bx w X) (h:D5 w w'):cr G β bx w' X:=
 cx.step (iI h) (fun i b hb=>.inl ⟨hb,fun _=>by rw [h.heap]⟩) cx.inj
theorem eX (w:World):D5 w {w with drawn:=w.drawn+1}:=⟨rfl,rfl,rfl,rfl⟩
theorem iJ (w:World) (o:Obj) (k:Nat) (h:k<w.heap.size):({w with heap:=w.heap.push o}:World).heap[k]?=w.heap[k]?:=by
 show (w.heap.push o)[k]?=_
 rw [Array.getElem?_push,if_neg (by omega)]
theorem iK (w:World) (o:Obj):({w with heap:=w.heap.push o}:World).heap[w.heap.size]?=some o:=by
 show (w.heap.push o)[w.heap.size]?=_
 simp
theorem eG {w:World} {k:Nat} {o:Obj} (h:w.heap[k]?=some o):k<w.heap.size:=by
 rcases Nat.lt_or_ge k w.heap.size with h'|h'
 ·exact h'
 simp [Array.getElem?_eq_none h'] at h
theorem uF {β:Nat→Nat} {bx:List ar} {w:World} (o:Obj):Ext β bx w β bx {w with heap:=w.heap.push o}:=by
 refine ⟨rfl,rfl,rfl,by simp,fun k hk _=>iJ w o k hk,fun k c e f hk=>⟨c,?_,rfl⟩,fun i hi=>⟨rfl,hi⟩,fun i b h1 h2=>.inr ⟨i,b,h1,h2,rfl⟩⟩
 rw [iJ w o k (eG hk)];exact hk
theorem dw.eH {β:Nat→Nat} {bx:List ar} {w:World} {ok:Nat→Prop} {b:ar} {az:Nat} (h:dw β bx w ok b az) (hl:b.live=true):az<w.heap.size:=by
 cases b with
 |var cs=>obtain ⟨c,e,h1,_⟩:=h;exact eG h1
 |row sz es=>
  cases es with
  |nil=>simp [ar.live] at hl
  |cons r rs=>
   rcases h with h|⟨c,e,h1,_⟩;· simp at h
   exact eG h1
 |it s pos=>exact eG h
 |mp ag es=>obtain ⟨ms,clock,h1,_⟩:=h;exact eG h1
 |nP _ _=>simp [ar.live] at hl
 |dead=>simp [ar.live] at hl
 |bt=>simp [ar.live] at hl
theorem FM {G:Nat→Option (List D)} {β:Nat→Nat} {bx:List ar} {w:World} {X:Nat→Prop} (cx:cr G β bx w X) (o:Obj):cr G β bx {w with heap:=w.heap.push o} X:=
 cx.step (uF o) (fun i b hb=>.inl ⟨hb,fun hl=>iJ w o _ ((cx.box i b hb).eH hl)⟩) cx.inj
def kY (β:Nat→Nat) (i az:Nat):Nat→Nat:=fun j=>if j=i then az else β j
theorem bf (β:Nat→Nat) (i az:Nat):kY β i az i=az:=by simp [kY]
theorem cP (β:Nat→Nat) {i j:Nat} (az:Nat) (h:j≠i):kY β i az j=β j:=by simp [kY,h]
theorem ek {bx:List ar} {B:ar} {i:Nat} {b:ar} (h:bx[i]?=some b):(bx++[B])[i]?=some b:=by
 have:i<bx.length:=by
  rcases Nat.lt_or_ge i bx.length with h'|h';· exact h'
  simp [List.getElem?_eq_none h'] at h
 rw [List.getElem?_append_left this];exact h
theorem bp {bx:List ar} {B:ar} {i:Nat} {b:ar} (h:(bx++[B])[i]?=some b):(bx[i]?=some b∧i<bx.length)∨(i=bx.length∧b=B):=by
 rcases Nat.lt_or_ge i bx.length with h'|h'
 ·rw [List.getElem?_append_left h'] at h;exact .inl ⟨h,h'⟩
 rw [List.getElem?_append_right h'] at h
 by_cases hi:i=bx.length
 ·subst hi;simp at h;exact .inr ⟨rfl,h.symm⟩
 simp [show i-bx.length≠0 by omega] at h
theorem fD {β:Nat→Nat} {bx:List ar} {w:World} (o:Obj) (B:ar):Ext β bx w (kY β bx.length w.heap.size) (bx++[B]) {w with heap:=w.heap.push o}:=by
 refine ⟨rfl,rfl,rfl,by simp,fun k hk _=>iJ w o k hk,fun k c e f hk=>⟨c,?_,rfl⟩,?_,?_⟩
 ·rw [iJ w o k (eG hk)];exact hk
 ·rintro i ⟨b,h1,h2⟩
  have:i<bx.length:=by
   rcases Nat.lt_or_ge i bx.length with h'|h';· exact h'
   simp [List.getElem?_eq_none h'] at h1
  exact ⟨cP _ _ (by omega),b,ek h1,h2⟩
 intro i b h1 h2
 rcases bp h1 with ⟨h3,h4⟩|⟨rfl,rfl⟩
 ·exact .inr ⟨i,b,h3,h2,(cP _ _ (by omega)).symm⟩
 exact .inl (by rw [bf];exact Nat.le_refl _)
theorem kD {G:Nat→Option (List D)} {β:Nat→Nat} {bx:List ar} {w:World} {X:Nat→Prop} (cx:cr G β bx w X) (o:Obj) (B:ar)
 (hB:dw (kY β bx.length w.heap.size) (bx++[B]) {w with heap:=w.heap.push o} (aY (kY β bx.length w.heap.size) (bx++[B]) {w with heap:=w.heap.push o} X) B w.heap.size):
 cr G (kY β bx.length w.heap.size) (bx++[B]) {w with heap:=w.heap.push o} X:=by
 refine cx.step (fD o B) ?_ ?_
 ·intro i b hb
  rcases bp hb with ⟨h3,h4⟩|⟨rfl,rfl⟩
  ·exact .inl ⟨h3,fun hl=>iJ w o _ ((cx.box i b h3).eH hl)⟩
  exact .inr (by rw [bf];exact hB)
 intro i j bi bj h1 h2 l1 l2 he
 rcases bp h1 with ⟨h3,h4⟩|⟨rfl,rfl⟩<;>rcases bp h2 with ⟨h5,h6⟩|⟨rfl,rfl⟩
 ·rw [cP _ _ (by omega),cP _ _ (by omega)] at he
  exact cx.inj i j bi bj h3 h5 l1 l2 he
 ·rw [cP _ _ (by omega),bf] at he
  have:=(cx.box i bi h3).eH l1;omega
 ·rw [bf,cP _ _ (by omega)] at he
  have:=(cx.box j bj h5).eH l2;omega
 rfl
end Dem
end
section
open Go
namespace Dem
structure iz (P:Program) (T:Nat→Option TI):Prop where
 ti:∀t ti,T t=some ti→pX P t=some ti
 fields:∀t ti fs,T t=some ti→ti.kd=.struct fs→∀f∈fs,∃tf,T f.2=some tf
 deep:8≤P.depth
theorem aG {P:Program} {t:Nat} {ti:TI} (h:pX P t=some ti):
 ∃i d,P.info? t=some i∧P.underlying t=some d∧ti.size=i.size∧ti.bytes=i.bytes∧ti.kd=cH d∧ti.zero=(match i.zero with|some z=>RT z|none=>.any):=by
 unfold pX at h
 split at h
 ·rename_i i d h1 h2
  simp at h;subst h
  exact ⟨i,d,h1,h2,rfl,rfl,rfl,rfl⟩
 simp at h
theorem MB {P:Program} {t:Nat} {ti:TI} (h:pX P t=some ti) {nm:String} {f:Nat} (hi:ti.inv=some (nm,f)):
 ∃i d,P.info? t=some i∧P.underlying t=some d∧(∀e,d≠.pointer e)∧∃m,i.methods.find? (fun m=>m.name==nm)=some m∧m.path.toList=[]∧m.func=some (f,false):=by
 unfold pX at h
 split at h
 ·rename_i i d h1 h2
  simp only [osI] at h;subst h
  simp only at hi
  cases hp:(cH d).plain with
  |false=>simp [hp] at hi
  |true=>
  simp only [hp,cond_true] at hi
  refine ⟨i,d,h1,h2,fun e he=>by subst he;simp [cH,Kd.plain] at hp,?_⟩
  unfold Uj at hi
  obtain ⟨Un,hn,hi⟩:=List.exists_of_findSome?_eq_some hi
  split at hi
  ·rename_i a b path g hm
   cases he:path.toList.isEmpty with
   |false=>simp [he] at hi
   |true=>
   simp only [he,cond_true,osI,Prod.mk.injEq] at hi
   obtain ⟨rfl,rfl⟩:=hi
   exact ⟨_,by rw [←Array.find?_toList];exact hm,by simpa using he,rfl⟩
  cases hi
 simp at h
theorem RY {P:Program} {t:Nat} {ti:TI} (h:pX P t=some ti) {d:TypeDesc} (hd:P.underlying t=some d):ti.eq=Ox P t d:=by
 unfold pX at h
 split at h
 ·rename_i i d' h1 h2
  rw [hd] at h2
  simp at h;subst h
  simp only [osI] at h2;subst h2;rfl
 simp at h
section
variable {P:Program} {w:World} {t:Nat}
theorem aP {d:TypeDesc} (h:P.underlying t=some d):(underlying t).run P w=.ok d w:=by
 simp [underlying,program,Sem.run,h,Bind.bind,Sem.bind,Pure.pure]
theorem mo {i:TypeInfo} (h:P.info? t=some i):(typeInfo t).run P w=.ok i w:=by
 simp [typeInfo,program,Sem.run,h,Bind.bind,Sem.bind,Pure.pure]
theorem bN {i:TypeInfo} (h:P.info? t=some i):(Go.sizeOf t).run P w=.ok i.size w:=by
 simp [Go.sizeOf,mo h]
theorem gq {i:TypeInfo} {z:Value} (h:P.info? t=some i) (hz:i.zero=some z):(zeroValue t).run P w=.ok z w:=by
 simp [zeroValue,mo h,hz]
theorem CG {d:TypeDesc} (h:P.underlying t=some d):(isAgg t).run P w=.ok (cH d).isAgg w:=by
 simp [isAgg,aP h]
 cases d<;>simp [cH,Kd.isAgg]
theorem run_load {a:Addr} {v:Value} (h:w.cell? a=some v):(load a).run P w=.ok v w:=by
 simp [load,Sem.run,h]
end
theorem fk (az off n:Nat):(⟨az,off,none⟩:Addr).add n=⟨az,off+n,none⟩:=by
 unfold Addr.add;split
 ·simp_all
 rfl
theorem run_loadCellsFrom {P:Program} {w:World} {az off:Nat}:∀(vs:List Value) (i:Nat) (acc:Array Value),(∀j v,vs[j]?=some v→w.cell? ⟨az,off+i+j,none⟩=some v)→
 (loadCellsFrom ⟨az,off,none⟩ i vs.length acc).run P w=.ok (acc++vs.toArray) w
 |[],i,acc,_=>by simp [loadCellsFrom]
 |v::vs,i,acc,h=>by
  have h0:=h 0 v rfl
  simp only [List.length_cons,loadCellsFrom,fk,Sem.run_bind]
  rw [run_load (v:=v) (by simpa using h0)]
  simp only [Result.andThen_ok]
  rw [run_loadCellsFrom vs (i+1) (acc.push v) (fun j u hj=>by have:=h (j+1) u (by simpa using hj);rwa [show off+i+(j+1)=off+(i+1)+j by omega] at this)]
  simp
theorem run_loadCells {P:Program} {w:World} {az off:Nat} (vs:List Value) (h:∀j v,vs[j]?=some v→w.cell? ⟨az,off+j,none⟩=some v):
 (loadCells ⟨az,off,none⟩ vs.length).run P w=.ok vs.toArray w:=by
 have:=run_loadCellsFrom (P:=P) vs 0 #[] (w:=w) (az:=az) (off:=off) (by simpa using h)
 simpa [loadCells] using this
def c5 (G:Nat→Option (List D)) (β:Nat→Nat) (bx:List ar) (w:World) (X:Nat→Prop) (r:Result Next) (v:AV) (aF:List ar):Prop:=
 ∃β' w',Ext β bx w β' aF w'∧cr G β' aF w' X∧
  ((∃u,r=.ok (.value u) w'∧ah β' aF w' (aY β' aF w' X) v u)∨(r=.ok .skip w'∧v=.any))
section
variable {P:Program} {T:Nat→Option TI} {G:Nat→Option (List D)} {β:Nat→Nat} {bx:List ar} {w:World} {X:Nat→Prop}
theorem c5.pure {r:Result Next} {v:AV} {u:Value} (cx:cr G β bx w X) (hr:r=.ok (.value u) w) (h:ah β bx w (aY β bx w X) v u):c5 G β bx w X r v bx:=
 ⟨β,w,Ext.refl _ _ _,cx,.inl ⟨u,hr,h⟩⟩
theorem rO {ok:Nat→Prop} {az:Nat}:∀(ds:List D) (off:Nat),aW w ok az ds off→∃vs,vs.length=ds.length∧(∀j v,vs[j]?=some v→w.cell? ⟨az,off+j,none⟩=some v)∧
 aj β bx w ok (ds.map .d) vs
 |[],off,_=>⟨[],rfl,by simp,by simp [aj]⟩
 |x::xs,off,h=>by
  simp only [aW] at h
  obtain ⟨⟨u,h1,h2⟩,h3⟩:=h
  obtain ⟨vs,g1,g2,g3⟩:=rO xs (off+1) h3
  refine ⟨u::vs,by simp [g1],?_,?_⟩
  ·intro j v hj
   cases j with
   |zero=>simp at hj;subst hj;simpa using h1
   |succ j=>have:=g2 j v (by simpa using hj);rwa [show off+(j+1)=off+1+j by omega]
  simp only [List.map_cons,aj,ah];exact ⟨u,vs,rfl,h2,g3⟩
theorem aW.drop {ok:Nat→Prop} {az:Nat}:∀(n:Nat) (ds:List D) (off:Nat),aW w ok az ds off→aW w ok az (ds.drop n) (off+n)
 |0,ds,off,h=>by simpa using h
 |n+1,[],off,h=>by simp [aW]
 |n+1,x::xs,off,h=>by
  simp only [aW] at h
  have:=aW.drop n xs (off+1) h.2
  simpa [show off+(n+1)=off+1+n by omega] using this
theorem aW.take {ok:Nat→Prop} {az:Nat}:∀(n:Nat) (ds:List D) (off:Nat),aW w ok az ds off→aW w ok az (ds.take n) off
 |0,ds,off,h=>by simp [aW]
 |n+1,[],off,h=>by simp [aW]
 |n+1,x::xs,off,h=>by
  simp only [aW] at h
  simp only [List.take_succ_cons,aW]
  exact ⟨h.1,aW.take n xs _ h.2⟩
theorem an.get {ok:Nat→Prop} {az sz:Nat}:∀(i:Nat) (es:List (List D)) (off:Nat),an w ok az sz es off→i<es.length→(es.getD i []).length=sz∧aW w ok az (es.getD i []) (off+i*sz)
 |_,[],_,_,hi=>by simp at hi
 |0,r::rs,off,h,_=>by simp only [an] at h;simpa using ⟨h.1,h.2.1⟩
 |i+1,r::rs,off,h,hi=>by
  simp only [an] at h
  have:=an.get i rs (off+sz) h.2.2 (by simpa using hi)
  simpa [Nat.add_mul,show off+sz+i*sz=off+(i*sz+sz) by omega] using this
theorem tB {ti:TI} {t:Nat} (ht:pX P t=some ti) {cs:List AV} {v:AV} {vs:List Value} {az off:Nat} {ok:Nat→Prop}
 (hs:cC ti.kd.isAgg ti.size cs=some v) (hr:aj β bx w ok cs vs) (hc:∀j v,vs[j]?=some v→w.cell? ⟨az,off+j,none⟩=some v):
 ∃u,(loadVar t ⟨az,off,none⟩).run P w=.ok u w∧ah β bx w ok v u:=by
 obtain ⟨i,d,h1,h2,h3,h4,h5,h6⟩:=aG ht
 unfold cC at hs
 simp only [loadVar,Sem.run_bind,CG h2,Result.andThen_ok,h5] at hs ⊢
 cases hk:(cH d).isAgg with
 |true=>
  simp only [hk,cond_true] at hs
  cases hle:Nat.ble ti.size cs.length with
  |false=>simp [hle] at hs
  |true=>
   simp only [hle,cond_true,osI] at hs
   subst hs
   have hlen:=aj.length hr
   have hle':ti.size≤cs.length:=Nat.le_of_ble_eq_true hle
   have:=run_loadCells (P:=P) (w:=w) (az:=az) (off:=off) (vs.take ti.size) (fun j v hj=>by
    rw [List.getElem?_take] at hj
    split at hj
    ·exact hc j v hj
    simp at hj)
   rw [List.length_take,Nat.min_eq_left (by omega)] at this
   simp only [if_true,Sem.run_bind,bN h1,Result.andThen_ok,←h3,this]
   exact ⟨_,rfl,by simp only [ah];exact ⟨_,rfl,aj.take _ hr⟩⟩
 |false=>
  simp only [hk,cond_false] at hs
  cases cs with
  |nil=>simp at hs
  |cons c cs=>
   simp at hs;subst hs
   simp only [aj] at hr
   obtain ⟨u,us,rfl,g1,_⟩:=hr
   have:=hc 0 u rfl
   simp only [Bool.false_eq_true,if_false]
   exact ⟨u,run_load (by simpa using this),g1⟩
theorem zL (hT:iz P T) (cx:cr G β bx w X) {t:Nat} {ti:TI} (ht:T t=some ti) {a:AV} {u:Value} (ha:ah β bx w (aY β bx w X) a u)
 {c:Prop} {v:AV} {b:Option (List ar)} (hr:pL ti a bx=some ⟨c,v,b⟩) (hc:c):
 b=none∧∃x,(Instr.loadAt t u).run P w=.ok x w∧ah β bx w (aY β bx w X) v x:=by
 have ht':=hT.ti t ti ht
 unfold pL at hr
 split at hr
 ·rename_i b' off
  simp only [ah] at ha
  obtain ⟨rfl,hb⟩:=ha
  split at hr
  ·rename_i cs rP
   split at hr
   ·rename_i v' hs
    simp only [R.pure,osI,R.mk.injEq] at hr
    obtain ⟨_,rfl,rfl⟩:=hr
    obtain ⟨ca,e,h1,h2⟩:=cx.box _ _ rP
    have h3:=aj.drop off h2
    obtain ⟨x,g1,g2⟩:=tB (P:=P) (w:=w) (az:=β b') (off:=off) ht' hs h3 (fun j v hj=>by
     rw [List.getElem?_drop] at hj
     simp only [World.cell?,h1]
     simpa using hj)
    exact ⟨rfl,x,by simpa [Instr.loadAt,Instr.sureAddr] using g1,g2⟩
   simp at hr
  simp at hr
 ·rename_i ds
  simp only [ah] at ha
  obtain ⟨az,off,rfl,hb,hrow⟩:=ha
  split at hr
  ·rename_i v' hs
   simp only [R.pure,osI,R.mk.injEq] at hr
   obtain ⟨_,rfl,rfl⟩:=hr
   obtain ⟨vs,g1,g2,g3⟩:=rO (β:=β) (bx:=bx) ds off hrow
   obtain ⟨x,k1,k2⟩:=tB (P:=P) (w:=w) (az:=az) (off:=off) ht' hs g3 g2
   exact ⟨rfl,x,by simpa [Instr.loadAt,Instr.sureAddr] using k1,k2⟩
  simp at hr
 ·rename_i b' sz i j
  simp only [ah] at ha
  obtain ⟨rfl,hb⟩:=ha
  have main:∀(s:Nat) (es:List (List D)),i<es.length→s=sz→an w (aY β bx w X) (β b') s es 0→∀v',cC ti.kd.isAgg ti.size (List.map AV.d ((es.getD i []).drop j))=some v'→
   ∃x,(Instr.loadAt t (.pointer (some ⟨β b',i*sz+j,none⟩))).run P w=.ok x w∧ah β bx w (aY β bx w X) v' x:=by
   intro s es hi hs hrows v' hsp
   obtain ⟨_,hrow⟩:=an.get i es 0 hrows hi
   have hrow:=aW.drop j _ _ hrow
   obtain ⟨vs,g1,g2,g3⟩:=rO (β:=β) (bx:=bx) _ _ hrow
   subst hs
   obtain ⟨x,k1,k2⟩:=tB (P:=P) (w:=w) (az:=β b') (off:=0+i*s+j) ht' hsp g3 g2
   exact ⟨x,by simpa [Instr.loadAt,Instr.sureAddr] using k1,k2⟩
  split at hr
  ·rename_i s es rP
   split at hr
   ·rename_i v' hsp
    simp only [osI,R.mk.injEq] at hr
    obtain ⟨rfl,rfl,rfl⟩:=hr
    rcases cx.box _ _ rP with h|⟨ca,e,h1,h2⟩
    ·subst h;simp at hc
    exact ⟨rfl,main s es hc.2 hc.1 h2 _ hsp⟩
   simp at hr
  ·rename_i s es rP
   split at hr
   ·rename_i v' hsp
    simp only [osI,R.mk.injEq] at hr
    obtain ⟨rfl,rfl,rfl⟩:=hr
    rcases cx.box _ _ rP with h|⟨h1,h2⟩
    ·subst h;simp at hc
    exact ⟨rfl,main s es hc.2 hc.1 h2 _ hsp⟩
   simp at hr
  simp at hr
 simp at hr
def I0:Value→Prop
 |.agg _=>False
 |.tuple _=>False
 |_=>True
theorem aH.sc {ok:Nat→Prop} {x:D} {v:Value} (h:aH w ok x v):I0 v:=by
 cases x<;>simp only [aH] at h
 ·subst h;trivial
 ·subst h;trivial
 ·subst h;trivial
 ·obtain ⟨_,_,rfl,_⟩:=h;trivial
 ·subst h;trivial
 obtain ⟨_,_,_,rfl,_⟩:=h;trivial
theorem ah.sc {ok:Nat→Prop} {x:AV} {v:Value} (hx:x.sc=true) (h:ah β bx w ok x v):I0 v:=by
 cases x<;>simp only [AV.sc,Bool.false_eq_true] at hx<;>simp only [ah] at h
 ·exact aH.sc h
 ·rename_i c;subst h;cases c<;>trivial
 ·obtain ⟨rfl,_⟩:=h;trivial
 ·obtain ⟨rfl,_⟩:=h;trivial
 ·obtain ⟨_,_,rfl,_⟩:=h;trivial
 ·obtain ⟨_,h|h⟩:=h
  ·obtain ⟨_,_,rfl⟩:=h;trivial
  obtain ⟨_,_,_,_,_,rfl,_⟩:=h;trivial
 ·obtain ⟨_,rfl,_⟩:=h;trivial
 ·obtain ⟨vs,rfl,_⟩:=h;obtain ⟨a,b,e⟩:=FL _ vs;rw [e];trivial
 ·obtain ⟨_,rfl,_⟩:=h;trivial
 obtain ⟨rfl,_⟩:=h;trivial
theorem aj.sc {ok:Nat→Prop}:∀{xs:List AV} {vs:List Value},uA xs=true→aj β bx w ok xs vs→∀v∈vs,I0 v
 |[],vs,_,h=>by simp only [aj] at h;subst h;simp
 |x::xs,vs,hx,h=>by
  simp only [aj] at h
  obtain ⟨u,us,rfl,g1,g2⟩:=h
  cases hs:x.sc with
  |false=>simp [uA,hs] at hx
  |true=>
   simp only [uA,hs,cond_true] at hx
   intro v hv
   rcases List.mem_cons.1 hv with rfl|hv
   ·exact ah.sc hs g1
   exact aj.sc hx g2 v hv
theorem nU {ok:Nat→Prop} {x:AV} {v:Value} {cs:List AV} (hx:x.cells?=some cs) (h:ah β bx w ok x v):
 ∃vs,v.cells=⟨vs⟩∧aj β bx w ok cs vs∧(∀u∈vs,I0 u):=by
 have one:∀(y:AV) (u:Value),y.sc=true→ah β bx w ok y u→∃vs,u.cells=⟨vs⟩∧aj β bx w ok [y] vs∧(∀u∈vs,I0 u):=by
  intro y u hy hu
  have:=ah.sc hy hu
  refine ⟨[u],?_,by simp only [aj];exact ⟨u,[],rfl,hu,rfl⟩,by simpa using this⟩
  cases u<;>simp_all [Value.cells,I0]
 cases x with
 |any=>simp [AV.cells?] at hx
 |vw _ _ _ _ _ _=>simp [AV.cells?] at hx
 |dA _=>simp [AV.cells?] at hx
 |cond _ _=>simp [AV.cells?] at hx
 |agg as=>
  simp only [AV.cells?] at hx
  cases ha:uA as with
  |false=>simp [ha] at hx
  |true=>
   simp only [ha,cond_true,osI] at hx
   subst hx
   simp only [ah] at h
   obtain ⟨vs,rfl,g⟩:=h
   exact ⟨vs,rfl,g,aj.sc ha g⟩
 |d x=>simp only [AV.cells?,osI] at hx;subst hx;exact one _ _ rfl h
 |k x=>simp only [AV.cells?,osI] at hx;subst hx;exact one _ _ rfl h
 |ptr _ _=>simp only [AV.cells?,osI] at hx;subst hx;exact one _ _ rfl h
 |rp _ _ _ _=>simp only [AV.cells?,osI] at hx;subst hx;exact one _ _ rfl h
 |ep _=>simp only [AV.cells?,osI] at hx;subst hx;exact one _ _ rfl h
 |ow _ _ _=>simp only [AV.cells?,osI] at hx;subst hx;exact one _ _ rfl h
 |cl _=>simp only [AV.cells?,osI] at hx;subst hx;exact one _ _ rfl h
 |fn _ _=>simp only [AV.cells?,osI] at hx;subst hx;exact one _ _ rfl h
 |sG _ _=>simp only [AV.cells?,osI] at hx;subst hx;exact one _ _ rfl h
 |zB _=>simp only [AV.cells?,osI] at hx;subst hx;exact one _ _ rfl h
def dR (w:World) (az:Nat) (o:Obj):World:={w with heap:=w.heap.setIfInBounds az o}
theorem zM (w:World) (az:Nat) (o:Obj) (k:Nat):(dR w az o).heap[k]?=if k=az then (w.heap[k]?).map (fun _=>o) else w.heap[k]?:=by
 show (w.heap.setIfInBounds az o)[k]?=_
 rw [Array.getElem?_setIfInBounds]
 by_cases h:az=k
 ·subst h
  by_cases hk:az<w.heap.size
  ·simp [hk]
  simp [hk]
 simp [h,Ne.symm h]
theorem dI {w:World} {az:Nat} {o o':Obj} (h:w.heap[az]?=some o'):(dR w az o).heap[az]?=some o:=by rw [zM];simp [h]
theorem iv {w:World} {az k:Nat} {o:Obj} (h:k≠az):(dR w az o).heap[k]?=w.heap[k]?:=by rw [zM];simp [h]
theorem D6 (w:World) (az:Nat) (o o':Obj):dR (dR w az o) az o'=dR w az o':=by
 unfold dR
 simp
theorem FN {w:World} {az off:Nat} {c:Array Value} {e:TypeId} {f:Nat×Nat} (h:w.heap[az]?=some (.cells c e f)) (v:Value):
 w.setCell ⟨az,off,none⟩ v=dR w az (.cells (c.setIfInBounds off v) e f):=by
 unfold World.setCell dR
 congr 1
 apply Array.ext_getElem?
 intro i
 rw [Array.getElem?_modify,Array.getElem?_setIfInBounds]
 by_cases hi:az=i
 ·subst hi
  have hlt:=eG h
  have h':w.heap[az]=.cells c e f:=by simpa [hlt] using h
  simp [hlt,h']
 simp [hi]
theorem oI:∀(l:List Value) (n:Nat) (v:Value) (vs:List Value),aX l n (v::vs)=aX (l.set n v) (n+1) vs
 |[],n,v,vs=>by cases vs<;>simp [aX]
 |c::cs,0,v,vs=>by
  simp only [aX,List.set_cons_zero]
  cases vs with
  |nil=>cases cs<;>simp [aX]
  |cons u us=>simp [aX]
 |c::cs,n+1,v,vs=>by
  simp only [aX,List.set_cons_succ]
  rw [oI cs n v vs]
  cases vs with
  |nil=>simp [aX]
  |cons u us=>simp [aX]
theorem I1 {w:World} {az off:Nat} {c:Array Value} {e:TypeId} (h:w.heap[az]?=some (.cells c e (0,0))) (ho:off<c.size) {v:Value} (hv:I0 v):
 (store ⟨az,off,none⟩ v).run P w=.ok () (dR w az (.cells (c.setIfInBounds off v) e (0,0))):=by
 have h1:w.cell? ⟨az,off,none⟩=some c[off]:=by simp [World.cell?,h,ho]
 have h2:w.frozen? ⟨az,off,none⟩=false:=by simp [World.frozen?,h]
 rw [←FN h]
 cases v<;>simp [I0] at hv<;>simp [store,Sem.run,h1,h2]
theorem iL {az off:Nat} {e:TypeId}:∀(vs:List Value) (i:Nat) (w:World) (c:Array Value),w.heap[az]?=some (.cells c e (0,0))→(∀v∈vs,I0 v)→off+i+vs.length≤c.size→
 (storeCells ⟨az,off,none⟩ vs i).run P w=.ok () (dR w az (.cells ⟨aX c.toList (off+i) vs⟩ e (0,0)))
 |[],i,w,c,h,_,_=>by
  have:dR w az (.cells c e (0,0))=w:=by
   have:w.heap.setIfInBounds az (.cells c e (0,0))=w.heap:=by
    apply Array.ext_getElem?
    intro k
    rw [Array.getElem?_setIfInBounds]
    split
    ·rename_i hk;subst hk;split<;>simp_all
    rfl
   simp [dR,this]
  cases hc:c.toList with
  |nil=>
   simp [storeCells,aX];have wg:c=#[]:=by simpa using hc
   subst wg;exact this.symm
  |cons x xs=>simp [storeCells,aX];rw [←hc];exact this.symm
 |v::vs,i,w,c,h,hs,hl=>by
  simp only [List.length_cons] at hl
  simp only [storeCells,Sem.run_bind,fk]
  rw [I1 h (by omega) (hs v (by simp))]
  simp only [Result.andThen_ok]
  rw [iL vs (i+1) _ (c.setIfInBounds (off+i) v) (dI h) (fun u hu=>hs u (by simp [hu])) (by simp;omega),D6,oI]
  congr 4
  simp [show off+(i+1)=off+i+1 by omega]
theorem uG {t:Nat} {ti:TI} (ht:pX P t=some ti) {az off:Nat} {w:World} {c:Array Value} {e:TypeId} (h:w.heap[az]?=some (.cells c e (0,0))) {v:Value} {vs:List Value} (hv:v.cells=⟨vs⟩)
 (hs:∀u∈vs,I0 u) (hn:vs.length=ti.size) (hl:off+vs.length≤c.size):
 (storeVar t ⟨az,off,none⟩ v).run P w=.ok () (dR w az (.cells ⟨aX c.toList off vs⟩ e (0,0))):=by
 obtain ⟨i,d,h1,h2,h3,h4,h5,h6⟩:=aG ht
 have:=iL (P:=P) (off:=off) vs 0 w c h hs (by simpa using hl)
 simp only [Nat.add_zero] at this
 simp [storeVar,hv,bN h1,hn,h3,this]
theorem cW:∀(l:List Value) (n:Nat) (vs:List Value),(aX l n vs).length=l.length
 |l,n,[]=>by cases l<;>simp [aX]
 |[],n,v::vs=>by simp [aX]
 |c::cs,0,v::vs=>by simp [aX,cW cs 0 vs]
 |c::cs,n+1,v::vs=>by simp [aX,cW cs n (v::vs)]
end
end Dem
end
section
open Go
namespace Dem
section
variable {P:Program} {T:Nat→Option TI} {G:Nat→Option (List D)} {β:Nat→Nat} {bx:List ar} {w:World} {X:Nat→Prop}
theorem aI {b i:Nat} {B B':ar} (h:(bx.set b B')[i]?=some B):(i=b∧B=B'∧b<bx.length)∨(i≠b∧bx[i]?=some B):=by
 rw [List.getElem?_set] at h
 split at h
 ·rename_i zg;subst zg
  split at h
  ·simp at h;exact .inl ⟨rfl,h.symm,by assumption⟩
  simp at h
 rename_i zg;exact .inr ⟨fun e=>zg e.symm,h⟩
theorem iM {i:Nat} {B:ar} (h:bx[i]?=some B):i<bx.length:=by
 rcases Nat.lt_or_ge i bx.length with h'|h'
 ·exact h'
 simp [List.getElem?_eq_none h'] at h
theorem iN {b:Nat} {B B':ar} (h:bx[b]?=some B):(bx.set b B')[b]?=some B':=by
 have:=iM h
 simp [this]
theorem ie {b i:Nat} {B':ar} (hB:B'.born=true) (h:bT bx i):bT (bx.set b B') i:=by
 obtain ⟨B,h1,h2⟩:=h
 by_cases hi:i=b
 ·subst hi;exact ⟨B',iN h1,hB⟩
 exact ⟨B,by rw [List.getElem?_set_ne (Ne.symm hi)];exact h1,h2⟩
theorem mq {b:Nat} {B B':ar} (hb:bx[b]?=some B) (hl:B.live=true) {c c':Array Value} {e:TypeId} (hh:w.heap[β b]?=some (.cells c e (0,0))) (hc:c'.size=c.size) (RZ:B'.born=true):
 Ext β bx w β (bx.set b B') (dR w (β b) (.cells c' e (0,0))):=by
 refine ⟨rfl,rfl,rfl,by simp [dR],?_,?_,fun i hi=>⟨rfl,ie RZ hi⟩,?_⟩
 ·intro k hk hl'
  exact iv (fun e=>hl' b B hb hl e.symm)
 ·intro k c1 e1 f1 hk
  by_cases h:k=β b
  ·subst h
   rw [hh] at hk
   simp only [osI,Obj.cells.injEq] at hk
   obtain ⟨rfl,rfl,rfl⟩:=hk
   exact ⟨c',dI hh,hc⟩
  exact ⟨c1,by rw [iv h];exact hk,rfl⟩
 intro i b' h1 h2
 rcases aI h1 with ⟨rfl,_,_⟩|⟨_,h3⟩
 ·exact .inr ⟨i,B,hb,hl,rfl⟩
 exact .inr ⟨i,b',h3,h2,rfl⟩
theorem tC (cx:cr G β bx w X) {b:Nat} {B B':ar} (hb:bx[b]?=some B) (hl:B.live=true) {c c':Array Value} {e:TypeId} (hh:w.heap[β b]?=some (.cells c e (0,0))) (hc:c'.size=c.size) (RZ:B'.born=true)
 (hok:dw β (bx.set b B') (dR w (β b) (.cells c' e (0,0))) (aY β (bx.set b B') (dR w (β b) (.cells c' e (0,0))) X) B' (β b)):
 cr G β (bx.set b B') (dR w (β b) (.cells c' e (0,0))) X:=by
 refine cx.step (mq hb hl hh hc RZ) ?_ ?_
 ·intro i b' h1
  rcases aI h1 with ⟨rfl,rfl,_⟩|⟨h2,h3⟩
  ·exact .inr hok
  refine .inl ⟨h3,fun hl'=>iv (fun e=>h2 (cx.inj i b b' B h3 hb hl' hl e))⟩
 intro i j bi bj h1 h2 l1 l2 he
 rcases aI h1 with ⟨rfl,rfl,_⟩|⟨h3,h4⟩<;>rcases aI h2 with ⟨rfl,rfl,_⟩|⟨h5,h6⟩
 ·rfl
 ·exact cx.inj _ j B bj hb h6 hl l2 he
 ·exact cx.inj i _ bi B h4 hb l1 hl he
 exact cx.inj i j bi bj h4 h6 l1 l2 he
theorem ig {b:Nat} {B B':ar} (_hb:bx[b]?=some B) (RZ:B'.live=false) (c8:B'.born=true):Ext β bx w β (bx.set b B') w:=by
 refine ⟨rfl,rfl,rfl,Nat.le_refl _,fun _ _ _=>rfl,fun k c e f h=>⟨c,h,rfl⟩,fun i hi=>⟨rfl,ie c8 hi⟩,?_⟩
 intro i b' h1 h2
 rcases aI h1 with ⟨rfl,rfl,_⟩|⟨_,h3⟩
 ·rw [RZ] at h2;simp at h2
 exact .inr ⟨i,b',h3,h2,rfl⟩
theorem jH (cx:cr G β bx w X) {b:Nat} {B B':ar} (hb:bx[b]?=some B) (RZ:B'.live=false) (c8:B'.born=true)
 (hok:dw β (bx.set b B') w (aY β (bx.set b B') w X) B' (β b)):cr G β (bx.set b B') w X:=by
 refine cx.step (ig hb RZ c8) ?_ ?_
 ·intro i b' h1
  rcases aI h1 with ⟨rfl,rfl,_⟩|⟨h2,h3⟩
  ·exact .inr hok
  exact .inl ⟨h3,fun _=>rfl⟩
 intro i j bi bj h1 h2 l1 l2 he
 rcases aI h1 with ⟨rfl,rfl,_⟩|⟨h3,h4⟩
 ·rw [RZ] at l1;simp at l1
 rcases aI h2 with ⟨rfl,rfl,_⟩|⟨h5,h6⟩
 ·rw [RZ] at l2;simp at l2
 exact cx.inj i j bi bj h4 h6 l1 l2 he
theorem Lo (cx:cr G β bx w X) {b:Nat} {sz:Nat} {es:List (List D)} (hb:bx[b]?=some (.row sz es)):
 Ext β bx w β (bx.set b (.nP sz es)) w∧cr G β (bx.set b (.nP sz es)) w X∧(es=[]∨aY β (bx.set b (.nP sz es)) w X (β b)∧an w (aY β (bx.set b (.nP sz es)) w X) (β b) sz es 0):=by
 have ex:Ext β bx w β (bx.set b (.nP sz es)) w:=ig hb rfl rfl
 have key:es=[]∨aY β (bx.set b (.nP sz es)) w X (β b)∧an w (aY β (bx.set b (.nP sz es)) w X) (β b) sz es 0:=by
  rcases cx.box b _ hb with h|⟨c,e,h1,h2⟩
  ·exact .inl h
  cases es with
  |nil=>exact .inl rfl
  |cons r rs=>
   refine .inr ⟨⟨eG h1,cx.apart b _ hb rfl,?_⟩,an.mono (ex.keeps X) _ _ (fun _=>rfl) _ _ h2⟩
   intro i b' h3 h4 he
   rcases aI h3 with ⟨rfl,rfl,_⟩|⟨h5,h6⟩
   ·simp [ar.live] at h4
   exact h5 (cx.inj i b b' _ h6 hb h4 rfl he)
 exact ⟨ex,jH cx hb rfl rfl key,key⟩
theorem an.lens {ok:Nat→Prop} {az sz:Nat}:∀(es:List (List D)) (off:Nat),an w ok az sz es off→∀r∈es,r.length=sz
 |[],_,_=>by simp
 |r::rs,off,h=>by
  simp only [an] at h
  intro x hx
  rcases List.mem_cons.1 hx with rfl|hx
  ·exact h.1
  exact an.lens rs _ h.2.2 x hx
theorem jI {ok:Nat→Prop} {az sz:Nat}:∀(es:List (List D)) (off:Nat),an w ok az sz es off→∃vs,vs.length=es.length*sz∧(∀j v,vs[j]?=some v→w.cell? ⟨az,off+j,none⟩=some v)∧
 aj β bx w ok (es.flatten.map .d) vs
 |[],off,_=>⟨[],by simp,by simp,by simp [aj]⟩
 |r::rs,off,h=>by
  simp only [an] at h
  obtain ⟨h1,h2,h3⟩:=h
  obtain ⟨vs,g1,g2,g3⟩:=rO (β:=β) (bx:=bx) r off h2
  obtain ⟨us,k1,k2,k3⟩:=jI rs (off+sz) h3
  refine ⟨vs++us,by simp [g1,k1,h1,Nat.add_mul];omega,?_,by simpa using aj.append g3 k3⟩
  intro j v hj
  rcases Nat.lt_or_ge j vs.length with hlt|hge
  ·rw [List.getElem?_append_left hlt] at hj;exact g2 j v hj
  rw [List.getElem?_append_right hge] at hj
  have:=k2 _ v hj
  rwa [show off+sz+(j-vs.length)=off+j by omega] at this
theorem D7 {ok:Nat→Prop} {az:Nat}:∀(ds:List D) (off:Nat) (vs:List Value),(∀j v,vs[j]?=some v→w.cell? ⟨az,off+j,none⟩=some v)→aj β bx w ok (ds.map .d) vs→aW w ok az ds off
 |[],_,_,_,_=>by simp [aW]
 |x::xs,off,vs,hc,h=>by
  simp only [List.map_cons,aj,ah] at h
  obtain ⟨u,us,rfl,g1,g2⟩:=h
  simp only [aW]
  refine ⟨⟨u,by simpa using hc 0 u rfl,g1⟩,D7 xs (off+1) us (fun j v hj=>?_) g2⟩
  have:=hc (j+1) v (by simpa using hj)
  rwa [show off+(j+1)=off+1+j by omega] at this
theorem m0 {ok:Nat→Prop} {az sz:Nat}:∀(es:List (List D)) (off:Nat) (vs:List Value),(∀r∈es,r.length=sz)→(∀j v,vs[j]?=some v→w.cell? ⟨az,off+j,none⟩=some v)→
 aj β bx w ok (es.flatten.map .d) vs→an w ok az sz es off
 |[],_,_,_,_,_=>by simp [an]
 |r::rs,off,vs,hl,hc,h=>by
  simp only [List.flatten_cons,List.map_append] at h
  have h1:=aj.take r.length h
  have h2:=aj.drop r.length h
  rw [List.take_left' (by simp)] at h1
  rw [List.drop_left' (by simp)] at h2
  have hr:r.length=sz:=hl r (by simp)
  simp only [an]
  refine ⟨hr,D7 r off _ (fun j v hj=>?_) h1,m0 rs (off+sz) _ (fun x hx=>hl x (by simp [hx])) (fun j v hj=>?_) h2⟩
  ·rw [List.getElem?_take] at hj
   split at hj
   ·exact hc j v hj
   simp at hj
  rw [List.getElem?_drop] at hj
  have:=hc _ v hj
  rwa [show off+(r.length+j)=off+sz+j by omega] at this
theorem zN {ok:Nat→Prop} {x:AV} {es:List (List D)} {u:Value} (hx:∀b sz n,x≠.ow b sz n) (Oo:x.uB=false) (hr:x.rows bx=some es) (h:ah β bx w ok x u):
 ∃base cap,u=.slice base es.length cap∧es.length≤cap∧(es=[]∨∃az off sz,base=some ⟨az,off,none⟩∧ok az∧an w ok az sz es off):=by
 cases x with
 |d y=>
  cases y with
  |sl es'=>simp only [AV.rows,osI] at hr;subst hr;simpa [ah,aH] using h
  |_=>simp [AV.rows] at hr
 |cl es'=>
  simp only [AV.rows,osI] at hr;subst hr
  simp only [ah] at h
  obtain ⟨base,rfl,g⟩:=h
  exact ⟨base,_,rfl,Nat.le_refl _,g⟩
 |ow b sz n=>exact absurd rfl (hx b sz n)
 |vw b sz off n c ex=>simp [AV.uB] at Oo
 |_=>simp [AV.rows] at hr
theorem an.OK {ok:Nat→Prop} {az sz:Nat}:∀(n:Nat) (es:List (List D)) (off:Nat),an w ok az sz es off→an w ok az sz (es.drop n) (off+n*sz)
 |0,es,off,h=>by simpa using h
 |n+1,[],off,h=>by simp [an]
 |n+1,r::rs,off,h=>by
  simp only [an] at h
  have:=an.OK n rs (off+sz) h.2.2
  simpa [Nat.add_mul,show off+sz+n*sz=off+(n*sz+sz) by omega] using this
theorem an.FO {ok:Nat→Prop} {az sz:Nat}:∀(n:Nat) (es:List (List D)) (off:Nat),an w ok az sz es off→an w ok az sz (es.take n) off
 |0,es,off,h=>by simp [an]
 |n+1,[],off,h=>by simp [an]
 |n+1,r::rs,off,h=>by
  simp only [an] at h
  simp only [List.take_succ_cons,an]
  exact ⟨h.1,h.2.1,an.FO n rs _ h.2.2⟩
theorem CH {s sz n m:Nat} {α:Type} {x y:α} (h:(bif Nat.beq s sz&&Nat.ble n m then some x else none)=some y):s=sz∧n≤m∧x=y:=by
 cases h1:Nat.beq s sz<;>cases h2:Nat.ble n m<;>simp [h1,h2] at h
 exact ⟨Nat.eq_of_beq_eq_true h1,Nat.le_of_ble_eq_true h2,h⟩
theorem oJ {b sz off n c:Nat} {ex:Bool} {Lp:List (List D)} {I2:Nat→Prop} {u:Value} {ok:Nat→Prop} (hn:off+n≤Lp.length) (hrows:Lp=[]∨an w I2 (β b) sz Lp 0) (h:ah β bx w ok (.vw b sz off n c ex) u):
 ∃base cap,u=.slice base ((Lp.drop off).take n).length cap∧((Lp.drop off).take n).length≤cap∧((Lp.drop off).take n=[]∨base=some ⟨β b,off*sz,none⟩∧an w I2 (β b) sz ((Lp.drop off).take n) (off*sz)):=by
 simp only [ah] at h
 obtain ⟨_,base,cap,cs,e,f,rfl,h1,h2,h3,h4⟩:=h
 have hlen:((Lp.drop off).take n).length=n:=by simp;omega
 refine ⟨base,cap,by rw [hlen],by rw [hlen];exact h1,?_⟩
 by_cases hn0:n=0
 ·subst hn0;exact .inl (by simp)
 right
 rcases h4 with h4|⟨h4,_⟩
 ·omega
 refine ⟨h4,?_⟩
 rcases hrows with rfl|hrows
 ·simp at hn;omega
 have:=an.FO n _ _ (an.OK off _ _ hrows)
 simpa using this
theorem MC {s sz n m:Nat} {α:Type} {x y:α} (h:(bif Nat.beq s sz&&Nat.beq n m then some x else none)=some y):s=sz∧n=m∧x=y:=by
 cases h1:Nat.beq s sz<;>cases h2:Nat.beq n m<;>simp [h1,h2] at h
 exact ⟨Nat.eq_of_beq_eq_true h1,Nat.eq_of_beq_eq_true h2,h⟩
theorem uH (cx:cr G β bx w X) {b sz n:Nat} {es:List (List D)} {u:Value} (hr:(AV.ow b sz n).rows bx=some es) (h:ah β bx w (aY β bx w X) (.ow b sz n) u):
 n=es.length∧(∃base cap,u=.slice base es.length cap∧es.length≤cap∧(es=[]∧cap=0∨es≠[]∧base=some ⟨β b,0,none⟩∧an w (aY β bx w X) (β b) sz es 0∧
  ∃c e f,w.heap[β b]?=some (.cells c e f)∧cap*sz≤c.size)):=by
 have main:∀es',n=es'.length→(es'=[]∨an w (aY β bx w X) (β b) sz es' 0)→∃base cap,u=.slice base es'.length cap∧es'.length≤cap∧(es'=[]∧cap=0∨es'≠[]∧base=some ⟨β b,0,none⟩∧an w (aY β bx w X) (β b) sz es' 0∧
  ∃c e f,w.heap[β b]?=some (.cells c e f)∧cap*sz≤c.size):=by
  intro es' hn hrows
  simp only [ah] at h
  obtain ⟨_,⟨h0,base,rfl⟩|⟨h0,cap,c,e,f,rfl,h1,h2,h3⟩⟩:=h
  ·have:es'=[]:=by simpa using (hn.symm.trans h0)
   subst this
   exact ⟨base,0,by simp,by simp,.inl ⟨rfl,rfl⟩⟩
  rcases hrows with rfl|hrows
  ·exact absurd (by simpa using hn) h0
  exact ⟨_,cap,by rw [hn],by omega,.inr ⟨by rintro rfl;exact h0 (by simpa using hn),rfl,hrows,c,e,f,h2,h3⟩⟩
 simp only [AV.rows] at hr
 split at hr
 ·rename_i s es' hb
  obtain ⟨rfl,rfl,rfl⟩:=MC hr
  exact ⟨rfl,main _ rfl ((cx.box b _ hb).imp id fun ⟨_,_,_,g⟩=>g)⟩
 ·rename_i s es' hb
  obtain ⟨rfl,rfl,rfl⟩:=MC hr
  exact ⟨rfl,main _ rfl ((cx.box b _ hb).imp id fun ⟨_,g⟩=>g)⟩
 simp at hr
theorem U1 {b sz n:Nat} {y:D} (h:(AV.ow b sz n).sH bx=some y):∃es,y=.sl es∧(AV.ow b sz n).rows bx=some es:=by
 simp only [AV.sH] at h
 simp only [AV.rows]
 split at h
 ·rename_i s es hb
  obtain ⟨rfl,rfl,rfl⟩:=MC h
  exact ⟨es,rfl,by simp [hb]⟩
 ·rename_i s es hb
  obtain ⟨rfl,rfl,rfl⟩:=MC h
  exact ⟨es,rfl,by simp [hb]⟩
 simp at h
theorem jJ (cx:cr G β bx w X) {x:AV} {es:List (List D)} {u:Value} (hr:x.rows bx=some es) (h:ah β bx w (aY β bx w X) x u):
 Ext β bx w β (x.cz bx) w∧cr G β (x.cz bx) w X∧
 ∃base cap,u=.slice base es.length cap∧es.length≤cap∧(es=[]∨∃az off sz,base=some ⟨az,off,none⟩∧aY β (x.cz bx) w X az∧an w (aY β (x.cz bx) w X) az sz es off):=by
 by_cases hx:∃b sz n,x=.ow b sz n
 ·obtain ⟨b,sz,n,rfl⟩:=hx
  obtain ⟨hn,base,cap,rfl,h1,h2⟩:=uH cx hr h
  simp only [AV.rows] at hr
  split at hr
  ·rename_i s es' hb
   obtain ⟨rfl,_,rfl⟩:=MC hr
   obtain ⟨g1,g2,g3⟩:=Lo cx hb
   have qo:(AV.ow b s n).cz bx=bx.set b (.nP s es'):=by simp [AV.cz,hb]
   rw [qo]
   refine ⟨g1,g2,base,cap,rfl,h1,?_⟩
   rcases h2 with ⟨rfl,_⟩|⟨hne,rfl,_⟩
   ·exact .inl rfl
   rcases g3 with rfl|⟨g3,g4⟩
   ·exact .inl rfl
   exact .inr ⟨β b,0,s,rfl,g3,g4⟩
  ·rename_i s es' hb
   obtain ⟨rfl,_,rfl⟩:=MC hr
   have qo:(AV.ow b s n).cz bx=bx:=by simp [AV.cz,hb]
   rw [qo]
   refine ⟨Ext.refl _ _ _,cx,base,cap,rfl,h1,?_⟩
   rcases h2 with ⟨rfl,_⟩|⟨hne,rfl,g,_⟩
   ·exact .inl rfl
   rcases cx.box b _ hb with rfl|⟨g3,g4⟩
   ·exact .inl rfl
   exact .inr ⟨β b,0,s,rfl,g3,g4⟩
  simp at hr
 have hx':∀b sz n,x≠.ow b sz n:=fun b sz n e=>hx ⟨b,sz,n,e⟩
 cases hv:x.uB with
 |true=>
  cases x with
  |vw b sz off n c ex=>
   simp only [AV.rows] at hr
   split at hr
   ·rename_i s es' hb
    obtain ⟨rfl,hle,rfl⟩:=CH hr
    obtain ⟨g1,g2,g3⟩:=Lo cx hb
    have qo:(AV.vw b s off n c ex).cz bx=bx.set b (.nP s es'):=by simp [AV.cz,hb]
    rw [qo]
    refine ⟨g1,g2,?_⟩
    obtain ⟨base,cap,rfl,k1,k2⟩:=oJ (I2:=aY β (bx.set b (.nP s es')) w X) hle (g3.imp id fun g=>g.2) h
    refine ⟨base,cap,rfl,k1,?_⟩
    rcases g3 with rfl|⟨g3,_⟩
    ·left;simp
    rcases k2 with k2|⟨rfl,k3⟩
    ·exact .inl k2
    exact .inr ⟨β b,off*s,s,rfl,g3,k3⟩
   ·rename_i s es' hb
    obtain ⟨rfl,hle,rfl⟩:=CH hr
    have qo:(AV.vw b s off n c ex).cz bx=bx:=by simp [AV.cz,hb]
    rw [qo]
    refine ⟨Ext.refl _ _ _,cx,?_⟩
    have g3:=cx.box b _ hb
    obtain ⟨base,cap,rfl,k1,k2⟩:=oJ (I2:=aY β bx w X) hle (g3.imp id fun g=>g.2) h
    refine ⟨base,cap,rfl,k1,?_⟩
    rcases g3 with rfl|⟨g3,_⟩
    ·left;simp
    rcases k2 with k2|⟨rfl,k3⟩
    ·exact .inl k2
    exact .inr ⟨β b,off*s,s,rfl,g3,k3⟩
   simp at hr
  |_=>simp [AV.uB] at hv
 |false=>
 have qo:x.cz bx=bx:=by cases x<;>simp_all [AV.cz,AV.uB]
 rw [qo]
 exact ⟨Ext.refl _ _ _,cx,zN hx' hv hr h⟩
theorem zO (cx:cr G β bx w X) {x:AV} {y:D} {u:Value} (hd:x.sH bx=some y) (h:ah β bx w (aY β bx w X) x u):
 Ext β bx w β (x.cz bx) w∧cr G β (x.cz bx) w X∧aH w (aY β (x.cz bx) w X) y u:=by
 cases x with
 |d x=>simp only [AV.sH,osI] at hd;subst hd;exact ⟨Ext.refl _ _ _,cx,h⟩
 |cl es=>
  simp only [AV.sH,osI] at hd;subst hd
  obtain ⟨g1,g2,g3⟩:=jJ cx (x:=.cl es) (es:=es) rfl h
  exact ⟨g1,g2,by simpa [aH] using g3⟩
 |ow b sz n=>
  obtain ⟨es,rfl,hr⟩:=U1 hd
  obtain ⟨g1,g2,g3⟩:=jJ cx hr h
  exact ⟨g1,g2,by simpa [aH] using g3⟩
 |fn f cs=>
  cases cs with
  |nil=>
   simp only [AV.sH,osI] at hd;subst hd
   simp only [ah,aj] at h
   obtain ⟨vs,rfl,rfl⟩:=h
   exact ⟨Ext.refl _ _ _,cx,by simp [zJ,aH]⟩
  |cons c cs=>simp [AV.sH] at hd
 |_=>simp [AV.sH] at hd
theorem uI {z:AV} {i s:Nat} {es:List (List D)} (h:bx[i]?=some (.row s es)∨bx[i]?=some (.nP s es)):(z.cz bx)[i]?=some (.row s es)∨(z.cz bx)[i]?=some (.nP s es):=by
 cases z with
 |ow b sz n=>
  simp only [AV.cz]
  split
  ·rename_i s' es' hb
   by_cases hi:i=b
   ·subst hi
    rw [hb] at h
    simp at h
    obtain ⟨rfl,rfl⟩:=h
    exact .inr (iN hb)
   rw [List.getElem?_set_ne (Ne.symm hi)];exact h
  exact h
 |vw b sz off n c ex=>
  simp only [AV.cz]
  split
  ·rename_i s' es' hb
   by_cases hi:i=b
   ·subst hi
    rw [hb] at h
    simp at h
    obtain ⟨rfl,rfl⟩:=h
    exact .inr (iN hb)
   rw [List.getElem?_set_ne (Ne.symm hi)];exact h
  exact h
 |_=>exact h
theorem CI {x z:AV} {y:D} (h:x.sH bx=some y):x.sH (z.cz bx)=some y:=by
 cases x with
 |ow b sz n=>
  simp only [AV.sH] at h ⊢
  split at h
  ·rename_i s es hb
   rcases uI (z:=z) (.inl hb) with g|g<;>simp [g,h]
  ·rename_i s es hb
   rcases uI (z:=z) (.inr hb) with g|g<;>simp [g,h]
  simp at h
 |fn f cs=>cases cs with
  |nil=>exact h
  |cons c cs=>exact h
 |_=>exact h
theorem tD {z:AV}:∀{xs:List AV} {ys:List D},iD bx xs=some ys→iD (z.cz bx) xs=some ys
 |[],ys,h=>h
 |x::xs,ys,h=>by
  simp only [iD] at h ⊢
  split at h
  ·rename_i y ys' hy hys
   rw [CI hy,tD hys];exact h
  simp at h
theorem wo:∀(xs:List AV) (bx:List ar) (ys:List D) (vs:List Value),cr G β bx w X→iD bx xs=some ys→aj β bx w (aY β bx w X) xs vs→
 Ext β bx w β (dW bx xs) w∧cr G β (dW bx xs) w X∧aj β (dW bx xs) w (aY β (dW bx xs) w X) (ys.map .d) vs
 |[],bx,ys,vs,cx,hd,h=>by simp [iD] at hd;subst hd;exact ⟨Ext.refl _ _ _,cx,by simpa [dW] using h⟩
 |x::xs,bx,ys,vs,cx,hd,h=>by
  simp only [iD] at hd
  split at hd
  ·rename_i y ys' hy hys
   simp at hd;subst hd
   simp only [aj] at h
   obtain ⟨u,us,rfl,g1,g2⟩:=h
   obtain ⟨e1,c1,r1⟩:=zO cx hy g1
   obtain ⟨e2,c2,r2⟩:=wo xs (x.cz bx) ys' us c1 (tD hys) (aj.mono (e1.dN X) _ _ g2)
   refine ⟨e1.trans e2,c2,?_⟩
   simp only [dW,List.map_cons,aj,ah]
   exact ⟨u,us,rfl,aH.mono (e2.keeps X) _ _ r1,r2⟩
  simp at hd
theorem mr:∀(l m:List Value) (n:Nat) (vs:List Value),n+vs.length≤l.length→aX (l++m) n vs=aX l n vs++m
 |l,m,n,[],_=>by cases l<;>cases m<;>simp [aX]
 |[],m,n,v::vs,h=>by simp at h
 |c::cs,m,0,v::vs,h=>by
  simp only [List.length_cons] at h
  simp only [List.cons_append,aX]
  rw [mr cs m 0 vs (by omega)]
 |c::cs,m,n+1,v::vs,h=>by
  simp only [List.length_cons] at h
  simp only [List.cons_append,aX]
  rw [mr cs m n (v::vs) (by simp;omega)]
theorem mu:∀(l:List D) (n:Nat) (vs:List D),(bG l n vs).length=l.length
 |l,n,[]=>by cases l<;>simp [bG]
 |[],n,v::vs=>by simp [bG]
 |c::cs,0,v::vs=>by simp [bG,mu cs 0 vs]
 |c::cs,n+1,v::vs=>by simp [bG,mu cs n (v::vs)]
theorem qp:∀(l:List D) (n:Nat) (vs:List D),(bG l n vs).map AV.d=eB (l.map .d) n (vs.map .d)
 |l,n,[]=>by cases l<;>simp [bG,eB]
 |[],n,v::vs=>by simp [bG,eB]
 |c::cs,0,v::vs=>by simp [bG,eB,qp cs 0 vs]
 |c::cs,n+1,v::vs=>by simp [bG,eB];rw [qp cs n (v::vs)];simp
theorem uJ:∀(l m:List D) (n:Nat) (vs:List D),bG (l++m) (l.length+n) vs=l++bG m n vs
 |[],m,n,vs=>by simp
 |c::cs,m,n,vs=>by
  cases vs with
  |nil=>cases m<;>simp [bG]
  |cons v vs=>
   rw [show (c::cs).length+n=(cs.length+n)+1 by simp;omega]
   simp only [List.cons_append,bG]
   rw [uJ cs m n (v::vs)]
theorem nC:∀(l m:List D) (n:Nat) (vs:List D),n+vs.length≤l.length→bG (l++m) n vs=bG l n vs++m
 |l,m,n,[],_=>by cases l<;>cases m<;>simp [bG]
 |[],m,n,v::vs,h=>by simp at h
 |c::cs,m,0,v::vs,h=>by
  simp only [List.length_cons] at h
  simp only [List.cons_append,bG]
  rw [nC cs m 0 vs (by omega)]
 |c::cs,m,n+1,v::vs,h=>by
  simp only [List.length_cons] at h
  simp only [List.cons_append,bG]
  rw [nC cs m n (v::vs) (by simp;omega)]
theorem qq {sz:Nat}:∀(es:List (List D)) (i j:Nat) (ds:List D),(∀r∈es,r.length=sz)→i<es.length→j+ds.length≤(es.getD i []).length→
 (es.set i (bG (es.getD i []) j ds)).flatten=bG es.flatten (i*sz+j) ds
 |[],i,j,ds,_,h,_=>by simp at h
 |r::rs,0,j,ds,hl,_,hj=>by
  simp at hj
  simp only [List.set_cons_zero,List.flatten_cons,Nat.zero_mul,Nat.zero_add]
  rw [nC r _ j ds hj]
  simp
 |r::rs,i+1,j,ds,hl,hi,hj=>by
  have hr:r.length=sz:=hl r (by simp)
  simp at hi hj
  have:=qq rs i j ds (fun x hx=>hl x (by simp [hx])) hi (by simpa using hj)
  simp only [List.set_cons_succ,List.flatten_cons,List.getD_cons_succ]
  rw [this,show (i+1)*sz+j=r.length+(i*sz+j) by rw [hr,Nat.add_mul];omega,uJ]
theorem OL {ok:Nat→Prop} {x:AV} {y:D} {u:Value} (h:x.sH []=some y) (hx:ah β bx w ok x u):aH w ok y u:=by
 cases x with
 |d x=>simp only [AV.sH,osI] at h;subst h;simpa [ah] using hx
 |cl es=>
  simp only [AV.sH,osI] at h;subst h
  simp only [ah] at hx
  obtain ⟨base,rfl,g⟩:=hx
  simp only [aH];exact ⟨base,_,rfl,Nat.le_refl _,g⟩
 |ow b sz n=>simp [AV.sH] at h
 |fn f cs=>
  cases cs with
  |nil=>
   simp only [AV.sH,osI] at h;subst h
   simp only [ah,aj] at hx
   obtain ⟨vs,rfl,rfl⟩:=hx
   simp [aH,zJ]
  |cons c cs=>simp [AV.sH] at h
 |_=>simp [AV.sH] at h
theorem rQ {ok:Nat→Prop}:∀{xs:List AV} {ys:List D} {us:List Value},iD [] xs=some ys→aj β bx w ok xs us→aj β bx w ok (ys.map .d) us
 |[],ys,us,h,hx=>by simp [iD] at h;subst h;simpa using hx
 |x::xs,ys,us,h,hx=>by
  simp only [iD] at h
  split at h
  ·rename_i y ys' h1 h2
   simp only [osI] at h;subst h
   simp only [aj] at hx
   obtain ⟨u,OJ,rfl,g1,g2⟩:=hx
   simp only [List.map_cons,aj,ah]
   exact ⟨u,OJ,rfl,OL h1 g1,rQ h2 g2⟩
  simp at h
end
end Dem
end
