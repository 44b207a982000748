/- Parts of a proof, joined. -/
import Derived.Test.YtjnbpclolnmimaaGreatDoorJ00
set_option linter.unusedSimpArgs false
set_option linter.unusedVariables false
set_option maxRecDepth 100000
set_option maxHeartbeats 4000000
section
open Go
namespace Dem
def mC (es:Array MapEntry) (clock:Nat):Prop:=es.all (·.born<clock)=true∧(es.toList.map (·.born)).Nodup
mutual
def aK (w:World) (ok:Nat→Prop):D→Value→Prop
 |.bool b,v=>v=.bool b
 |.int k n,v=>v=.int k n
 |.str s,v=>v=.string ⟨s.toArray⟩
 |.sl es,v=>∃base cap,v=.slice base es.length cap∧es.length≤cap∧
  (es=[]∨∃aB off sz,base=some ⟨aB,off,none⟩∧ok aB∧av w ok aB sz es off)
 |.fn f,v=>v=.func (.func f) #[] #[]
 |.mp ag es,v=>∃aB ms clock,v=.map (some aB)∧ok aB∧w.heap[aB]?=some (.map ms clock)∧mC ms clock∧bp w ok ag es ms.toList
def aY (w:World) (ok:Nat→Prop) (aB:Nat):List D→Nat→Prop
 |[],_=>True
 |x::xs,off=>(∃u,w.cell? ⟨aB,off,none⟩=some u∧aK w ok x u)∧aY w ok aB xs (off+1)
def av (w:World) (ok:Nat→Prop) (aB sz:Nat):List (List D)→Nat→Prop
 |[],_=>True
 |r::rs,off=>r.length=sz∧aY w ok aB r off∧av w ok aB sz rs (off+sz)
def bp (w:World) (ok:Nat→Prop) (ag:Bool):List (List D)→List MapEntry→Prop
 |[],ms=>ms=[]
 |r::rs,ms=>∃m Ge,ms=m::Ge∧gR w ok ag r m∧bp w ok ag rs Ge
def gR (w:World) (ok:Nat→Prop) (ag:Bool):List D→MapEntry→Prop
 |[],_=>False
 |k::ds,m=>aK w ok k m.key∧∃cs,m.val=(bif ag then .agg ⟨cs⟩ else cs.headD undef)∧(ag=false→cs.length=1)∧cq w ok ds cs
def cq (w:World) (ok:Nat→Prop):List D→List Value→Prop
 |[],vs=>vs=[]
 |d::ds,vs=>∃v r,vs=v::r∧aK w ok d v∧cq w ok ds r
end
def jC (w w':World) (ok ok':Nat→Prop):Prop:=∀aB,ok aB→ok' aB∧w'.heap[aB]?=w.heap[aB]?
theorem nN {w w':World} {aB:Nat} (h:w'.heap[aB]?=w.heap[aB]?) (off:Nat) (sp:Option Nat):w'.cell? ⟨aB,off,sp⟩=w.cell? ⟨aB,off,sp⟩:=by
 simp only [World.cell?,h]
theorem jC.cell {w w':World} {ok ok':Nat→Prop} (h:jC w w' ok ok') {aB:Nat} (hb:ok aB) (off:Nat):w'.cell? ⟨aB,off,none⟩=w.cell? ⟨aB,off,none⟩:=nN (h aB hb).2 off _
mutual
theorem aK.mono {w w':World} {ok ok':Nat→Prop} (h:jC w w' ok ok'):∀(x:D) (v:Value),aK w ok x v→aK w' ok' x v
 |.bool b,v,hv=>by simpa [aK] using hv
 |.int k n,v,hv=>by simpa [aK] using hv
 |.str s,v,hv=>by simpa [aK] using hv
 |.sl es,v,hv=>by
  simp only [aK] at hv ⊢
  obtain ⟨base,cap,h1,h2,h3⟩:=hv
  refine ⟨base,cap,h1,h2,h3.imp id ?_⟩
  rintro ⟨aB,off,sz,e1,e2,e3⟩
  exact ⟨aB,off,sz,e1,(h aB e2).1,av.mono h aB sz (h.cell e2) es off e3⟩
 |.fn f,v,hv=>by simpa [aK] using hv
 |.mp ag es,v,hv=>by
  simp only [aK] at hv ⊢
  obtain ⟨aB,ms,clock,h1,h2,h3,h4,h5⟩:=hv
  exact ⟨aB,ms,clock,h1,(h aB h2).1,by rw [(h aB h2).2];exact h3,h4,bp.mono h ag es _ h5⟩
theorem aY.mono {w w':World} {ok ok':Nat→Prop} (h:jC w w' ok ok') (aB:Nat) (hb:∀off,w'.cell? ⟨aB,off,none⟩=w.cell? ⟨aB,off,none⟩):∀(xs:List D) (off:Nat),aY w ok aB xs off→aY w' ok' aB xs off
 |[],_,_=>by simp [aY]
 |x::xs,off,hv=>by
  simp only [aY] at hv ⊢
  obtain ⟨⟨u,h1,h2⟩,h3⟩:=hv
  exact ⟨⟨u,by rw [hb];exact h1,aK.mono h x u h2⟩,aY.mono h aB hb xs _ h3⟩
theorem av.mono {w w':World} {ok ok':Nat→Prop} (h:jC w w' ok ok') (aB sz:Nat) (hb:∀off,w'.cell? ⟨aB,off,none⟩=w.cell? ⟨aB,off,none⟩):∀(rs:List (List D)) (off:Nat),av w ok aB sz rs off→av w' ok' aB sz rs off
 |[],_,_=>by simp [av]
 |r::rs,off,hv=>by
  simp only [av] at hv ⊢
  exact ⟨hv.1,aY.mono h aB hb r _ hv.2.1,av.mono h aB sz hb rs _ hv.2.2⟩
theorem bp.mono {w w':World} {ok ok':Nat→Prop} (h:jC w w' ok ok') (ag:Bool):∀(rs:List (List D)) (ms:List MapEntry),bp w ok ag rs ms→bp w' ok' ag rs ms
 |[],_,hv=>by simpa [bp] using hv
 |r::rs,ms,hv=>by
  simp only [bp] at hv ⊢
  obtain ⟨m,Ge,h1,h2,h3⟩:=hv
  exact ⟨m,Ge,h1,gR.mono h ag r m h2,bp.mono h ag rs Ge h3⟩
theorem gR.mono {w w':World} {ok ok':Nat→Prop} (h:jC w w' ok ok') (ag:Bool):∀(r:List D) (m:MapEntry),gR w ok ag r m→gR w' ok' ag r m
 |[],_,hv=>by simp [gR] at hv
 |k::ds,m,hv=>by
  simp only [gR] at hv ⊢
  obtain ⟨h1,cs,h2,h3,h4⟩:=hv
  exact ⟨aK.mono h k _ h1,cs,h2,h3,cq.mono h ds cs h4⟩
theorem cq.mono {w w':World} {ok ok':Nat→Prop} (h:jC w w' ok ok'):∀(ds:List D) (vs:List Value),cq w ok ds vs→cq w' ok' ds vs
 |[],_,hv=>by simpa [cq] using hv
 |d::ds,vs,hv=>by
  simp only [cq] at hv ⊢
  obtain ⟨v,r,h1,h2,h3⟩:=hv
  exact ⟨v,r,h1,aK.mono h d v h2,cq.mono h ds r h3⟩
end
def be (β:Nat→Nat) (bx:List ax) (w:World) (X:Nat→Prop) (aB:Nat):Prop:=
 aB<w.heap.size∧¬X aB∧∀i b,bx[i]?=some b→b.live=true→β i≠aB
def Aq (f:Nat):List Value→Value
 |.tuple fs::vs=>.func (.func f) fs ⟨vs⟩
 |vs=>.func (.func f) #[] ⟨vs⟩
theorem Gq (f:Nat) (vs:List Value):∃a b,Aq f vs=.func (.func f) a b:=by unfold Aq;split<;>exact ⟨_,_,rfl⟩
mutual
def ah (β:Nat→Nat) (bx:List ax) (w:World) (ok:Nat→Prop):AV→Value→Prop
 |.any,_=>True
 |.d x,v=>aK w ok x v
 |.k c,v=>v=c.val
 |.agg cs,v=>∃vs,v=.agg ⟨vs⟩∧aj β bx w ok cs vs
 |.dF cs,v=>∃vs,v=.tuple ⟨vs⟩∧aj β bx w ok cs vs
 |.ptr b off,v=>v=.pointer (some ⟨β b,off,none⟩)∧bV bx b
 |.rp b sz i j,v=>v=.pointer (some ⟨β b,i*sz+j,none⟩)∧bV bx b
 |.ep ds,v=>∃aB off,v=.pointer (some ⟨aB,off,none⟩)∧ok aB∧aY w ok aB ds off
 |.ow b sz n,v=>bV bx b∧((n=0∧∃base,v=.slice base 0 0)∨
  (n≠0∧∃cap c e f,v=.slice (some ⟨β b,0,none⟩) n cap∧n≤cap∧w.heap[β b]?=some (.cells c e f)∧cap*sz≤c.size))
 |.cl es,v=>∃base,v=.slice base es.length es.length∧(es=[]∨∃aB off sz,base=some ⟨aB,off,none⟩∧ok aB∧av w ok aB sz es off)
 |.fn f dG,v=>∃vs,v=Aq f vs∧aj β bx w ok dG vs
 |.tC t x,v=>∃u,v=.iface t u∧ah β bx w ok x u
 |.cond p x,v=>(p=true→ah β bx w ok x v)∧(p=false→v=undef)
 |.vw b sz off n c ex,v=>bV bx b∧∃base cap cs e f,v=.slice base n cap∧n≤cap∧c≤cap∧(ex=true→cap=c)∧(cap=0∨base=some ⟨β b,off*sz,none⟩∧w.heap[β b]?=some (.cells cs e f)∧(off+cap)*sz≤cs.size)
 |.Ai b,v=>v=.map (some (β b))∧bV bx b
def aj (β:Nat→Nat) (bx:List ax) (w:World) (ok:Nat→Prop):List AV→List Value→Prop
 |[],vs=>vs=[]
 |x::xs,vs=>∃u us,vs=u::us∧ah β bx w ok x u∧aj β bx w ok xs us
end
def dA (β:Nat→Nat) (bx:List ax) (w:World) (ok:Nat→Prop):ax→Nat→Prop
 |.var cs,aB=>∃c e,w.heap[aB]?=some (.cells c e (0,0))∧aj β bx w ok cs c.toList
 |.row sz es,aB=>es=[]∨∃c e,w.heap[aB]?=some (.cells c e (0,0))∧av w ok aB sz es 0
 |.oh sz es,aB=>es=[]∨(ok aB∧av w ok aB sz es 0)
 |.it s pos,aB=>w.heap[aB]?=some (.stringIter ⟨s.toArray⟩ pos)
 |.mp ag es,aB=>∃ms clock,w.heap[aB]?=some (.map ms clock)∧mC ms clock∧bp w ok ag es ms.toList
 |.dead,_=>True
 |.bA,_=>True
structure ct (G:Nat→Option (List D)) (β:Nat→Nat) (bx:List ax) (w:World) (X:Nat→Prop):Prop where
 xs:∀aB,X aB→aB<w.heap.size
 Ar:∀g ds,G g=some ds→be β bx w X g∧aY w (be β bx w X) g ds 0
 inj:∀i j bi bj,bx[i]?=some bi→bx[j]?=some bj→bi.live=true→bj.live=true→β i=β j→i=j
 box:∀i b,bx[i]?=some b→dA β bx w (be β bx w X) b (β i)
 apart:∀i b,bx[i]?=some b→b.live=true→¬X (β i)
structure Ext (β:Nat→Nat) (bx:List ax) (w:World) (β':Nat→Nat) (aG:List ax) (w':World):Prop where
 os:w'.os=w.os
 tape:w'.tape=w.tape
 output:w'.output=w.output
 size:w.heap.size≤w'.heap.size
 block:∀k,k<w.heap.size→(∀i b,bx[i]?=some b→b.live=true→β i≠k)→w'.heap[k]?=w.heap[k]?
 shape:∀(k:Nat) (c:Array Value) (e:TypeId) (f:Nat×Nat),w.heap[k]?=some (.cells c e f)→∃c',w'.heap[k]?=some (.cells c' e f)∧c'.size=c.size
 born:∀i,bV bx i→β' i=β i∧bV aG i
 live:∀i b,aG[i]?=some b→b.live=true→w.heap.size≤β' i∨∃j b',bx[j]?=some b'∧b'.live=true∧β j=β' i
theorem Ext.refl (β:Nat→Nat) (bx:List ax) (w:World):Ext β bx w β bx w:=
 ⟨rfl,rfl,rfl,Nat.le_refl _,fun _ _ _=>rfl,fun _ c _ _ h=>⟨c,h,rfl⟩,fun _ h=>⟨rfl,h⟩,fun i b h1 h2=>.inr ⟨i,b,h1,h2,rfl⟩⟩
theorem sy {b:ax} (h:b.live=true):b.born=true:=by cases b<;>simp_all [ax.live,ax.born]
theorem Ext.trans {β β' β'':Nat→Nat} {bx aG PG:List ax} {w w' w'':World} (h:Ext β bx w β' aG w') (g:Ext β' aG w' β'' PG w''):Ext β bx w β'' PG w'':=by
 refine ⟨g.os.trans h.os,g.tape.trans h.tape,g.output.trans h.output,Nat.le_trans h.size g.size,?_,?_,?_,?_⟩
 ·intro k hk hl
  rw [g.block k (Nat.lt_of_lt_of_le hk h.size),h.block k hk hl]
  intro i b hb hlv he
  rcases h.live i b hb hlv with h1|⟨j,b',h1,h2,h3⟩
  ·omega
  exact hl j b' h1 h2 (h3.trans he)
 ·intro k c e f hk
  obtain ⟨c',h1,h2⟩:=h.shape k c e f hk
  obtain ⟨c'',h3,h4⟩:=g.shape k c' e f h1
  exact ⟨c'',h3,h4.trans h2⟩
 ·intro i hi
  obtain ⟨h1,h2⟩:=h.born i hi
  obtain ⟨h3,h4⟩:=g.born i h2
  exact ⟨h3.trans h1,h4⟩
 intro i b hb hlv
 rcases g.live i b hb hlv with h1|⟨j,b',h1,h2,h3⟩
 ·exact .inl (Nat.le_trans h.size h1)
 rcases h.live j b' h1 h2 with h4|⟨k,b'',h4,h5,h6⟩
 ·exact .inl (by omega)
 exact .inr ⟨k,b'',h4,h5,h6.trans h3⟩
theorem Ext.keeps {β β':Nat→Nat} {bx aG:List ax} {w w':World} (h:Ext β bx w β' aG w') (X:Nat→Prop):
 jC w w' (be β bx w X) (be β' aG w' X):=by
 rintro aB ⟨h1,h2,h3⟩
 refine ⟨⟨Nat.lt_of_lt_of_le h1 h.size,h2,?_⟩,h.block aB h1 h3⟩
 intro i b hb hlv he
 rcases h.live i b hb hlv with h4|⟨j,b',h4,h5,h6⟩
 ·omega
 exact h3 j b' h4 h5 (h6.trans he)
structure tI (β:Nat→Nat) (bx:List ax) (w:World) (ok:Nat→Prop) (β':Nat→Nat) (aG:List ax) (w':World) (ok':Nat→Prop):Prop where
 keeps:jC w w' ok ok'
 born:∀i,bV bx i→β' i=β i∧bV aG i
 shape:∀(k:Nat) (c:Array Value) (e:TypeId) (f:Nat×Nat),w.heap[k]?=some (.cells c e f)→∃c',w'.heap[k]?=some (.cells c' e f)∧c'.size=c.size
theorem Ext.dQ {β β':Nat→Nat} {bx aG:List ax} {w w':World} (h:Ext β bx w β' aG w') (X:Nat→Prop):
 tI β bx w (be β bx w X) β' aG w' (be β' aG w' X):=⟨h.keeps X,h.born,h.shape⟩
mutual
theorem ah.mono {β β':Nat→Nat} {bx aG:List ax} {w w':World} {ok ok':Nat→Prop} (h:tI β bx w ok β' aG w' ok'):
 ∀(x:AV) (v:Value),ah β bx w ok x v→ah β' aG w' ok' x v
 |.any,_,_=>by simp [ah]
 |.d x,v,hv=>by simp only [ah] at hv ⊢;exact aK.mono h.keeps x v hv
 |.k c,v,hv=>by simpa [ah] using hv
 |.agg cs,v,hv=>by simp only [ah] at hv ⊢;obtain ⟨vs,e,g⟩:=hv;exact ⟨vs,e,aj.mono h cs vs g⟩
 |.dF cs,v,hv=>by simp only [ah] at hv ⊢;obtain ⟨vs,e,g⟩:=hv;exact ⟨vs,e,aj.mono h cs vs g⟩
 |.ptr b off,v,hv=>by simp only [ah] at hv ⊢;obtain ⟨e,g⟩:=hv;exact ⟨by rw [(h.born b g).1];exact e,(h.born b g).2⟩
 |.rp b sz i j,v,hv=>by simp only [ah] at hv ⊢;obtain ⟨e,g⟩:=hv;exact ⟨by rw [(h.born b g).1];exact e,(h.born b g).2⟩
 |.ep ds,v,hv=>by
  simp only [ah] at hv ⊢
  obtain ⟨aB,off,e,g1,g2⟩:=hv
  exact ⟨aB,off,e,(h.keeps aB g1).1,aY.mono h.keeps aB (h.keeps.cell g1) ds off g2⟩
 |.ow b sz n,v,hv=>by
  simp only [ah] at hv ⊢
  obtain ⟨g,hv⟩:=hv
  refine ⟨(h.born b g).2,hv.imp id ?_⟩
  rintro ⟨hn,cap,c,e,f,e1,e2,e3,e4⟩
  obtain ⟨c',e5,e6⟩:=h.shape _ _ _ _ e3
  rw [(h.born b g).1]
  exact ⟨hn,cap,c',e,f,e1,e2,e5,by rw [e6];exact e4⟩
 |.cl es,v,hv=>by
  simp only [ah] at hv ⊢
  obtain ⟨base,e,g⟩:=hv
  refine ⟨base,e,g.imp id ?_⟩
  rintro ⟨aB,off,sz,e1,e2,e3⟩
  exact ⟨aB,off,sz,e1,(h.keeps aB e2).1,av.mono h.keeps aB sz (h.keeps.cell e2) es off e3⟩
 |.fn f dG,v,hv=>by simp only [ah] at hv ⊢;obtain ⟨vs,e,g⟩:=hv;exact ⟨vs,e,aj.mono h dG vs g⟩
 |.tC t x,v,hv=>by simp only [ah] at hv ⊢;obtain ⟨u,e,g⟩:=hv;exact ⟨u,e,ah.mono h x u g⟩
 |.cond p x,v,hv=>by simp only [ah] at hv ⊢;exact ⟨fun hp=>ah.mono h x v (hv.1 hp),hv.2⟩
 |.vw b sz off n c ex,v,hv=>by
  simp only [ah] at hv ⊢
  obtain ⟨g,base,cap,cs,e,f,e1,e2,e3,e4,e5⟩:=hv
  rcases e5 with e5|⟨e5,e6,e7⟩
  ·exact ⟨(h.born b g).2,base,cap,cs,e,f,e1,e2,e3,e4,.inl e5⟩
  obtain ⟨c',k5,k6⟩:=h.shape _ _ _ _ e6
  rw [(h.born b g).1]
  exact ⟨(h.born b g).2,base,cap,c',e,f,e1,e2,e3,e4,.inr ⟨e5,k5,by rw [k6];exact e7⟩⟩
 |.Ai b,v,hv=>by simp only [ah] at hv ⊢;obtain ⟨e,g⟩:=hv;exact ⟨by rw [(h.born b g).1];exact e,(h.born b g).2⟩
theorem aj.mono {β β':Nat→Nat} {bx aG:List ax} {w w':World} {ok ok':Nat→Prop} (h:tI β bx w ok β' aG w' ok'):
 ∀(xs:List AV) (vs:List Value),aj β bx w ok xs vs→aj β' aG w' ok' xs vs
 |[],vs,hv=>by simpa [aj] using hv
 |x::xs,vs,hv=>by
  simp only [aj] at hv ⊢
  obtain ⟨u,us,e,g1,g2⟩:=hv
  exact ⟨u,us,e,ah.mono h x u g1,aj.mono h xs us g2⟩
end
theorem aj.length {β:Nat→Nat} {bx:List ax} {w:World} {ok:Nat→Prop}:∀{xs:List AV} {vs:List Value},aj β bx w ok xs vs→vs.length=xs.length
 |[],vs,h=>by simp only [aj] at h;simp [h]
 |x::xs,vs,h=>by simp only [aj] at h;obtain ⟨u,us,rfl,_,g⟩:=h;simp [aj.length g]
theorem aj.get {β:Nat→Nat} {bx:List ax} {w:World} {ok:Nat→Prop}:∀{xs:List AV} {vs:List Value} (i:Nat) (x:AV),aj β bx w ok xs vs→xs[i]?=some x→∃v,vs[i]?=some v∧ah β bx w ok x v
 |[],_,i,x,_,hx=>by simp at hx
 |y::ys,vs,i,x,h,hx=>by
  simp only [aj] at h
  obtain ⟨u,us,rfl,g1,g2⟩:=h
  cases i with
  |zero=>simp at hx;subst hx;exact ⟨u,by simp,g1⟩
  |succ i=>simp at hx;obtain ⟨v,h1,h2⟩:=aj.get i x g2 hx;exact ⟨v,by simpa using h1,h2⟩
theorem aj.drop {β:Nat→Nat} {bx:List ax} {w:World} {ok:Nat→Prop}:∀(n:Nat) {xs:List AV} {vs:List Value},aj β bx w ok xs vs→aj β bx w ok (xs.drop n) (vs.drop n)
 |0,xs,vs,h=>by simpa using h
 |n+1,[],vs,h=>by simp only [aj] at h;subst h;simp [aj]
 |n+1,x::xs,vs,h=>by
  simp only [aj] at h
  obtain ⟨u,us,rfl,_,g2⟩:=h
  simpa using aj.drop n g2
theorem aj.take {β:Nat→Nat} {bx:List ax} {w:World} {ok:Nat→Prop}:∀(n:Nat) {xs:List AV} {vs:List Value},aj β bx w ok xs vs→aj β bx w ok (xs.take n) (vs.take n)
 |0,xs,vs,h=>by simp [aj]
 |n+1,[],vs,h=>by simp only [aj] at h;subst h;simp [aj]
 |n+1,x::xs,vs,h=>by
  simp only [aj] at h
  obtain ⟨u,us,rfl,g1,g2⟩:=h
  simp only [List.take_succ_cons,aj]
  exact ⟨u,_,rfl,g1,aj.take n g2⟩
theorem aj.append {β:Nat→Nat} {bx:List ax} {w:World} {ok:Nat→Prop}:∀{xs ys:List AV} {vs us:List Value},aj β bx w ok xs vs→aj β bx w ok ys us→aj β bx w ok (xs++ys) (vs++us)
 |[],ys,vs,us,h,g=>by simp only [aj] at h;subst h;simpa using g
 |x::xs,ys,vs,us,h,g=>by
  simp only [aj] at h
  obtain ⟨u,PI,rfl,g1,g2⟩:=h
  simp only [List.cons_append,aj]
  exact ⟨u,_,rfl,g1,aj.append g2 g⟩
def bc:List Value→Nat→List Value→List Value
 |cs,_,[]=>cs
 |[],_,_::_=>[]
 |_::cs,0,v::vs=>v::bc cs 0 vs
 |c::cs,n+1,v::vs=>c::bc cs n (v::vs)
theorem aj.eD {β:Nat→Nat} {bx:List ax} {w:World} {ok:Nat→Prop}:∀{xs:List AV} {vs:List Value} (n:Nat) {ys:List AV} {us:List Value},aj β bx w ok xs vs→aj β bx w ok ys us→
 aj β bx w ok (Dem.eD xs n ys) (bc vs n us)
 |xs,vs,n,[],us,h,g=>by
  simp only [aj] at g;subst g
  cases xs<;>cases vs<;>simpa [Dem.eD,bc] using h
 |[],vs,n,y::ys,us,h,g=>by
  simp only [aj] at h g;obtain ⟨u,PI,rfl,_,_⟩:=g;subst h
  simp [Dem.eD,bc,aj]
 |x::xs,vs,0,y::ys,us,h,g=>by
  simp only [aj] at h g
  obtain ⟨u,PI,rfl,g1,g2⟩:=g
  obtain ⟨v,vs',rfl,h1,h2⟩:=h
  simp only [Dem.eD,bc,aj]
  exact ⟨u,_,rfl,g1,aj.eD 0 h2 g2⟩
 |x::xs,vs,n+1,y::ys,us,h,g=>by
  simp only [aj] at h
  obtain ⟨v,vs',rfl,h1,h2⟩:=h
  have g0:=g
  simp only [aj] at g
  obtain ⟨u,PI,rfl,g1,g2⟩:=g
  simp only [Dem.eD,bc,aj]
  exact ⟨v,_,rfl,h1,aj.eD n h2 g0⟩
theorem dA.mono {β β':Nat→Nat} {bx aG:List ax} {w w':World} {ok ok':Nat→Prop} (h:tI β bx w ok β' aG w' ok') {b:ax} {aB:Nat}
 (hl:b.live=true→w'.heap[aB]?=w.heap[aB]?) (hb:dA β bx w ok b aB):dA β' aG w' ok' b aB:=by
 cases b with
 |var cs=>
  obtain ⟨c,e,h1,h2⟩:=hb
  exact ⟨c,e,by rw [hl rfl];exact h1,aj.mono h _ _ h2⟩
 |row sz es=>
  cases es with
  |nil=>exact .inl rfl
  |cons r rs=>
   rcases hb with hb|⟨c,e,h1,h2⟩
   ·exact .inl hb
   exact .inr ⟨c,e,by rw [hl rfl];exact h1,av.mono h.keeps aB sz (fun off=>nN (hl rfl) off _) _ _ h2⟩
 |oh sz es=>
  rcases hb with hb|⟨h1,h2⟩
  ·exact .inl hb
  exact .inr ⟨(h.keeps aB h1).1,av.mono h.keeps aB sz (h.keeps.cell h1) _ _ h2⟩
 |it s pos=>simp only [dA] at hb ⊢;rw [hl rfl];exact hb
 |mp ag es=>
  obtain ⟨ms,clock,h1,h2,h3⟩:=hb
  exact ⟨ms,clock,by rw [hl rfl];exact h1,h2,bp.mono h.keeps ag es _ h3⟩
 |dead=>trivial
 |bA=>trivial
theorem ct.step {G:Nat→Option (List D)} {β β':Nat→Nat} {bx aG:List ax} {w w':World} {X:Nat→Prop} (cx:ct G β bx w X) (ex:Ext β bx w β' aG w')
 (aaQ:∀i b,aG[i]?=some b→(bx[i]?=some b∧(b.live=true→w'.heap[β i]?=w.heap[β i]?))∨dA β' aG w' (be β' aG w' X) b (β' i))
 (hinj:∀i j bi bj,aG[i]?=some bi→aG[j]?=some bj→bi.live=true→bj.live=true→β' i=β' j→i=j):ct G β' aG w' X:=by
 refine ⟨fun aB hb=>Nat.lt_of_lt_of_le (cx.xs aB hb) ex.size,?_,hinj,?_,?_⟩
 ·intro g ds hg
  obtain ⟨h1,h2⟩:=cx.Ar g ds hg
  exact ⟨(ex.keeps X g h1).1,aY.mono (ex.keeps X) g ((ex.keeps X).cell h1) _ _ h2⟩
 ·intro i b hb
  rcases aaQ i b hb with ⟨h1,h2⟩|h
  ·by_cases dj:b.born=true
   ·rw [(ex.born i ⟨b,h1,dj⟩).1]
    exact dA.mono (ex.dQ X) h2 (cx.box i b h1)
   cases b<;>simp_all [ax.born,dA]
  exact h
 intro i b hb hl hX
 rcases ex.live i b hb hl with h|⟨j,b',h1,h2,h3⟩
 ·have:=cx.xs _ hX;omega
 exact cx.apart j b' h1 h2 (h3▸hX)
structure EF (w w':World):Prop where
 heap:w'.heap=w.heap
 os:w'.os=w.os
 tape:w'.tape=w.tape
 output:w'.output=w.output
theorem iO {β:Nat→Nat} {bx:List ax} {w w':World} (h:EF w w'):Ext β bx w β bx w':=
 ⟨h.os,h.tape,h.output,by rw [h.heap];exact Nat.le_refl _,fun k _ _=>by rw [h.heap],fun k c e f hk=>⟨c,by rw [h.heap];exact hk,rfl⟩,fun i hi=>⟨rfl,hi⟩,fun i b h1 h2=>.inr ⟨i,b,h1,h2,rfl⟩⟩
theorem qR {G:Nat→Option (List D)} {β:Nat→Nat} {bx:List ax} {w w':World} {X:Nat→Prop} (cx:ct G β bx w X) (h:EF w w'):ct G β bx w' X:=
 cx.step (iO h) (fun i b hb=>.inl ⟨hb,fun _=>by rw [h.heap]⟩) cx.inj
theorem ff (w:World):EF w {w with drawn:=w.drawn+1}:=⟨rfl,rfl,rfl,rfl⟩
theorem iP (w:World) (o:Obj) (k:Nat) (h:k<w.heap.size):({w with heap:=w.heap.push o}:World).heap[k]?=w.heap[k]?:=by
 show (w.heap.push o)[k]?=_
 rw [Array.getElem?_push,if_neg (by omega)]
theorem iQ (w:World) (o:Obj):({w with heap:=w.heap.push o}:World).heap[w.heap.size]?=some o:=by
 show (w.heap.push o)[w.heap.size]?=_
 simp
theorem eK {w:World} {k:Nat} {o:Obj} (h:w.heap[k]?=some o):k<w.heap.size:=by
 rcases Nat.lt_or_ge k w.heap.size with h'|h'
 ·exact h'
 simp [Array.getElem?_eq_none h'] at h
theorem u9 {β:Nat→Nat} {bx:List ax} {w:World} (o:Obj):Ext β bx w β bx {w with heap:=w.heap.push o}:=by
 refine ⟨rfl,rfl,rfl,by simp,fun k hk _=>iP w o k hk,fun k c e f hk=>⟨c,?_,rfl⟩,fun i hi=>⟨rfl,hi⟩,fun i b h1 h2=>.inr ⟨i,b,h1,h2,rfl⟩⟩
 rw [iP w o k (eK hk)];exact hk
theorem dA.eL {β:Nat→Nat} {bx:List ax} {w:World} {ok:Nat→Prop} {b:ax} {aB:Nat} (h:dA β bx w ok b aB) (hl:b.live=true):aB<w.heap.size:=by
 cases b with
 |var cs=>obtain ⟨c,e,h1,_⟩:=h;exact eK h1
 |row sz es=>
  cases es with
  |nil=>simp [ax.live] at hl
  |cons r rs=>
   rcases h with h|⟨c,e,h1,_⟩;· simp at h
   exact eK h1
 |it s pos=>exact eK h
 |mp ag es=>obtain ⟨ms,clock,h1,_⟩:=h;exact eK h1
 |oh _ _=>simp [ax.live] at hl
 |dead=>simp [ax.live] at hl
 |bA=>simp [ax.live] at hl
theorem Gr {G:Nat→Option (List D)} {β:Nat→Nat} {bx:List ax} {w:World} {X:Nat→Prop} (cx:ct G β bx w X) (o:Obj):ct G β bx {w with heap:=w.heap.push o} X:=
 cx.step (u9 o) (fun i b hb=>.inl ⟨hb,fun hl=>iP w o _ ((cx.box i b hb).eL hl)⟩) cx.inj
def lq (β:Nat→Nat) (i aB:Nat):Nat→Nat:=fun j=>if j=i then aB else β j
theorem bt (β:Nat→Nat) (i aB:Nat):lq β i aB i=aB:=by simp [lq]
theorem cQ (β:Nat→Nat) {i j:Nat} (aB:Nat) (h:j≠i):lq β i aB j=β j:=by simp [lq,h]
theorem eB {bx:List ax} {B:ax} {i:Nat} {b:ax} (h:bx[i]?=some b):(bx++[B])[i]?=some b:=by
 have:i<bx.length:=by
  rcases Nat.lt_or_ge i bx.length with h'|h';· exact h'
  simp [List.getElem?_eq_none h'] at h
 rw [List.getElem?_append_left this];exact h
theorem bw {bx:List ax} {B:ax} {i:Nat} {b:ax} (h:(bx++[B])[i]?=some b):(bx[i]?=some b∧i<bx.length)∨(i=bx.length∧b=B):=by
 rcases Nat.lt_or_ge i bx.length with h'|h'
 ·rw [List.getElem?_append_left h'] at h;exact .inl ⟨h,h'⟩
 rw [List.getElem?_append_right h'] at h
 by_cases hi:i=bx.length
 ·subst hi;simp at h;exact .inr ⟨rfl,h.symm⟩
 simp [show i-bx.length≠0 by omega] at h
theorem fH {β:Nat→Nat} {bx:List ax} {w:World} (o:Obj) (B:ax):Ext β bx w (lq β bx.length w.heap.size) (bx++[B]) {w with heap:=w.heap.push o}:=by
 refine ⟨rfl,rfl,rfl,by simp,fun k hk _=>iP w o k hk,fun k c e f hk=>⟨c,?_,rfl⟩,?_,?_⟩
 ·rw [iP w o k (eK hk)];exact hk
 ·rintro i ⟨b,h1,h2⟩
  have:i<bx.length:=by
   rcases Nat.lt_or_ge i bx.length with h'|h';· exact h'
   simp [List.getElem?_eq_none h'] at h1
  exact ⟨cQ _ _ (by omega),b,eB h1,h2⟩
 intro i b h1 h2
 rcases bw h1 with ⟨h3,h4⟩|⟨rfl,rfl⟩
 ·exact .inr ⟨i,b,h3,h2,(cQ _ _ (by omega)).symm⟩
 exact .inl (by rw [bt];exact Nat.le_refl _)
theorem kJ {G:Nat→Option (List D)} {β:Nat→Nat} {bx:List ax} {w:World} {X:Nat→Prop} (cx:ct G β bx w X) (o:Obj) (B:ax)
 (hB:dA (lq β bx.length w.heap.size) (bx++[B]) {w with heap:=w.heap.push o} (be (lq β bx.length w.heap.size) (bx++[B]) {w with heap:=w.heap.push o} X) B w.heap.size):
 ct G (lq β bx.length w.heap.size) (bx++[B]) {w with heap:=w.heap.push o} X:=by
 refine cx.step (fH o B) ?_ ?_
 ·intro i b hb
  rcases bw hb with ⟨h3,h4⟩|⟨rfl,rfl⟩
  ·exact .inl ⟨h3,fun hl=>iP w o _ ((cx.box i b h3).eL hl)⟩
  exact .inr (by rw [bt];exact hB)
 intro i j bi bj h1 h2 l1 l2 he
 rcases bw h1 with ⟨h3,h4⟩|⟨rfl,rfl⟩<;>rcases bw h2 with ⟨h5,h6⟩|⟨rfl,rfl⟩
 ·rw [cQ _ _ (by omega),cQ _ _ (by omega)] at he
  exact cx.inj i j bi bj h3 h5 l1 l2 he
 ·rw [cQ _ _ (by omega),bt] at he
  have:=(cx.box i bi h3).eL l1;omega
 ·rw [bt,cQ _ _ (by omega)] at he
  have:=(cx.box j bj h5).eL l2;omega
 rfl
end Dem
end
section
open Go
namespace Dem
structure iH (P:Program) (T:Nat→Option TI):Prop where
 ti:∀t ti,T t=some ti→qz P t=some ti
 fields:∀t ti fs,T t=some ti→ti.kd=.struct fs→∀f∈fs,∃tf,T f.2=some tf
 deep:8≤P.depth
theorem aJ {P:Program} {t:Nat} {ti:TI} (h:qz P t=some ti):
 ∃i d,P.info? t=some i∧P.underlying t=some d∧ti.size=i.size∧ti.bytes=i.bytes∧ti.kd=cJ d∧ti.zero=(match i.zero with|some z=>SY z|none=>.any):=by
 unfold qz at h
 split at h
 ·rename_i i d h1 h2
  simp at h;subst h
  exact ⟨i,d,h1,h2,rfl,rfl,rfl,rfl⟩
 simp at h
theorem No {P:Program} {t:Nat} {ti:TI} (h:qz P t=some ti) {nm:String} {f:Nat} (hi:ti.inv=some (nm,f)):
 ∃i d,P.info? t=some i∧P.underlying t=some d∧(∀e,d≠.pointer e)∧∃m,i.methods.find? (fun m=>m.name==nm)=some m∧m.path.toList=[]∧m.func=some (f,false):=by
 unfold qz at h
 split at h
 ·rename_i i d h1 h2
  simp only [osI] at h;subst h
  simp only at hi
  cases hp:(cJ d).plain with
  |false=>simp [hp] at hi
  |true=>
  simp only [hp,cond_true] at hi
  refine ⟨i,d,h1,h2,fun e he=>by subst he;simp [cJ,Kd.plain] at hp,?_⟩
  unfold Vs at hi
  obtain ⟨Vw,hn,hi⟩:=List.exists_of_findSome?_eq_some hi
  split at hi
  ·rename_i a b path g hm
   cases he:path.toList.isEmpty with
   |false=>simp [he] at hi
   |true=>
   simp only [he,cond_true,osI,Prod.mk.injEq] at hi
   obtain ⟨rfl,rfl⟩:=hi
   exact ⟨_,by rw [←Array.find?_toList];exact hm,by simpa using he,rfl⟩
  cases hi
 simp at h
theorem S3 {P:Program} {t:Nat} {ti:TI} (h:qz P t=some ti) {d:TypeDesc} (hd:P.underlying t=some d):ti.eq=Pv P t d:=by
 unfold qz at h
 split at h
 ·rename_i i d' h1 h2
  rw [hd] at h2
  simp at h;subst h
  simp only [osI] at h2;subst h2;rfl
 simp at h
section
variable {P:Program} {w:World} {t:Nat}
theorem aQ {d:TypeDesc} (h:P.underlying t=some d):(underlying t).run P w=.ok d w:=by
 simp [underlying,program,Sem.run,h,Bind.bind,Sem.bind,Pure.pure]
theorem mD {i:TypeInfo} (h:P.info? t=some i):(typeInfo t).run P w=.ok i w:=by
 simp [typeInfo,program,Sem.run,h,Bind.bind,Sem.bind,Pure.pure]
theorem bN {i:TypeInfo} (h:P.info? t=some i):(Go.sizeOf t).run P w=.ok i.size w:=by
 simp [Go.sizeOf,mD h]
theorem gB {i:TypeInfo} {z:Value} (h:P.info? t=some i) (hz:i.zero=some z):(zeroValue t).run P w=.ok z w:=by
 simp [zeroValue,mD h,hz]
theorem Dg {d:TypeDesc} (h:P.underlying t=some d):(isAgg t).run P w=.ok (cJ d).isAgg w:=by
 simp [isAgg,aQ h]
 cases d<;>simp [cJ,Kd.isAgg]
theorem run_load {a:Addr} {v:Value} (h:w.cell? a=some v):(load a).run P w=.ok v w:=by
 simp [load,Sem.run,h]
end
theorem fy (aB off n:Nat):(⟨aB,off,none⟩:Addr).add n=⟨aB,off+n,none⟩:=by
 unfold Addr.add;split
 ·simp_all
 rfl
theorem run_loadCellsFrom {P:Program} {w:World} {aB off:Nat}:∀(vs:List Value) (i:Nat) (acc:Array Value),(∀j v,vs[j]?=some v→w.cell? ⟨aB,off+i+j,none⟩=some v)→
 (loadCellsFrom ⟨aB,off,none⟩ i vs.length acc).run P w=.ok (acc++vs.toArray) w
 |[],i,acc,_=>by simp [loadCellsFrom]
 |v::vs,i,acc,h=>by
  have h0:=h 0 v rfl
  simp only [List.length_cons,loadCellsFrom,fy,Sem.run_bind]
  rw [run_load (v:=v) (by simpa using h0)]
  simp only [Result.andThen_ok]
  rw [run_loadCellsFrom vs (i+1) (acc.push v) (fun j u hj=>by have:=h (j+1) u (by simpa using hj);rwa [show off+i+(j+1)=off+(i+1)+j by omega] at this)]
  simp
theorem run_loadCells {P:Program} {w:World} {aB off:Nat} (vs:List Value) (h:∀j v,vs[j]?=some v→w.cell? ⟨aB,off+j,none⟩=some v):
 (loadCells ⟨aB,off,none⟩ vs.length).run P w=.ok vs.toArray w:=by
 have:=run_loadCellsFrom (P:=P) vs 0 #[] (w:=w) (aB:=aB) (off:=off) (by simpa using h)
 simpa [loadCells] using this
def de (G:Nat→Option (List D)) (β:Nat→Nat) (bx:List ax) (w:World) (X:Nat→Prop) (r:Result Next) (v:AV) (aG:List ax):Prop:=
 ∃β' w',Ext β bx w β' aG w'∧ct G β' aG w' X∧
  ((∃u,r=.ok (.value u) w'∧ah β' aG w' (be β' aG w' X) v u)∨(r=.ok .skip w'∧v=.any))
section
variable {P:Program} {T:Nat→Option TI} {G:Nat→Option (List D)} {β:Nat→Nat} {bx:List ax} {w:World} {X:Nat→Prop}
theorem de.pure {r:Result Next} {v:AV} {u:Value} (cx:ct G β bx w X) (hr:r=.ok (.value u) w) (h:ah β bx w (be β bx w X) v u):de G β bx w X r v bx:=
 ⟨β,w,Ext.refl _ _ _,cx,.inl ⟨u,hr,h⟩⟩
theorem sA {ok:Nat→Prop} {aB:Nat}:∀(ds:List D) (off:Nat),aY w ok aB ds off→∃vs,vs.length=ds.length∧(∀j v,vs[j]?=some v→w.cell? ⟨aB,off+j,none⟩=some v)∧
 aj β bx w ok (ds.map .d) vs
 |[],off,_=>⟨[],rfl,by simp,by simp [aj]⟩
 |x::xs,off,h=>by
  simp only [aY] at h
  obtain ⟨⟨u,h1,h2⟩,h3⟩:=h
  obtain ⟨vs,g1,g2,g3⟩:=sA xs (off+1) h3
  refine ⟨u::vs,by simp [g1],?_,?_⟩
  ·intro j v hj
   cases j with
   |zero=>simp at hj;subst hj;simpa using h1
   |succ j=>have:=g2 j v (by simpa using hj);rwa [show off+(j+1)=off+1+j by omega]
  simp only [List.map_cons,aj,ah];exact ⟨u,vs,rfl,h2,g3⟩
theorem aY.drop {ok:Nat→Prop} {aB:Nat}:∀(n:Nat) (ds:List D) (off:Nat),aY w ok aB ds off→aY w ok aB (ds.drop n) (off+n)
 |0,ds,off,h=>by simpa using h
 |n+1,[],off,h=>by simp [aY]
 |n+1,x::xs,off,h=>by
  simp only [aY] at h
  have:=aY.drop n xs (off+1) h.2
  simpa [show off+(n+1)=off+1+n by omega] using this
theorem aY.take {ok:Nat→Prop} {aB:Nat}:∀(n:Nat) (ds:List D) (off:Nat),aY w ok aB ds off→aY w ok aB (ds.take n) off
 |0,ds,off,h=>by simp [aY]
 |n+1,[],off,h=>by simp [aY]
 |n+1,x::xs,off,h=>by
  simp only [aY] at h
  simp only [List.take_succ_cons,aY]
  exact ⟨h.1,aY.take n xs _ h.2⟩
theorem av.get {ok:Nat→Prop} {aB sz:Nat}:∀(i:Nat) (es:List (List D)) (off:Nat),av w ok aB sz es off→i<es.length→(es.getD i []).length=sz∧aY w ok aB (es.getD i []) (off+i*sz)
 |_,[],_,_,hi=>by simp at hi
 |0,r::rs,off,h,_=>by simp only [av] at h;simpa using ⟨h.1,h.2.1⟩
 |i+1,r::rs,off,h,hi=>by
  simp only [av] at h
  have:=av.get i rs (off+sz) h.2.2 (by simpa using hi)
  simpa [Nat.add_mul,show off+sz+i*sz=off+(i*sz+sz) by omega] using this
theorem tZ {ti:TI} {t:Nat} (ht:qz P t=some ti) {cs:List AV} {v:AV} {vs:List Value} {aB off:Nat} {ok:Nat→Prop}
 (hs:cC ti.kd.isAgg ti.size cs=some v) (hr:aj β bx w ok cs vs) (hc:∀j v,vs[j]?=some v→w.cell? ⟨aB,off+j,none⟩=some v):
 ∃u,(loadVar t ⟨aB,off,none⟩).run P w=.ok u w∧ah β bx w ok v u:=by
 obtain ⟨i,d,h1,h2,h3,h4,h5,h6⟩:=aJ ht
 unfold cC at hs
 simp only [loadVar,Sem.run_bind,Dg h2,Result.andThen_ok,h5] at hs ⊢
 cases hk:(cJ d).isAgg with
 |true=>
  simp only [hk,cond_true] at hs
  cases hle:Nat.ble ti.size cs.length with
  |false=>simp [hle] at hs
  |true=>
   simp only [hle,cond_true,osI] at hs
   subst hs
   have hlen:=aj.length hr
   have hle':ti.size≤cs.length:=Nat.le_of_ble_eq_true hle
   have:=run_loadCells (P:=P) (w:=w) (aB:=aB) (off:=off) (vs.take ti.size) (fun j v hj=>by
    rw [List.getElem?_take] at hj
    split at hj
    ·exact hc j v hj
    simp at hj)
   rw [List.length_take,Nat.min_eq_left (by omega)] at this
   simp only [if_true,Sem.run_bind,bN h1,Result.andThen_ok,←h3,this]
   exact ⟨_,rfl,by simp only [ah];exact ⟨_,rfl,aj.take _ hr⟩⟩
 |false=>
  simp only [hk,cond_false] at hs
  cases cs with
  |nil=>simp at hs
  |cons c cs=>
   simp at hs;subst hs
   simp only [aj] at hr
   obtain ⟨u,us,rfl,g1,_⟩:=hr
   have:=hc 0 u rfl
   simp only [Bool.false_eq_true,if_false]
   exact ⟨u,run_load (by simpa using this),g1⟩
theorem As (hT:iH P T) (cx:ct G β bx w X) {t:Nat} {ti:TI} (ht:T t=some ti) {a:AV} {u:Value} (ha:ah β bx w (be β bx w X) a u)
 {c:Prop} {v:AV} {b:Option (List ax)} (hr:qd ti a bx=some ⟨c,v,b⟩) (hc:c):
 b=none∧∃x,(Instr.loadAt t u).run P w=.ok x w∧ah β bx w (be β bx w X) v x:=by
 have ht':=hT.ti t ti ht
 unfold qd at hr
 split at hr
 ·rename_i b' off
  simp only [ah] at ha
  obtain ⟨rfl,hb⟩:=ha
  split at hr
  ·rename_i cs sB
   split at hr
   ·rename_i v' hs
    simp only [R.pure,osI,R.mk.injEq] at hr
    obtain ⟨_,rfl,rfl⟩:=hr
    obtain ⟨ca,e,h1,h2⟩:=cx.box _ _ sB
    have h3:=aj.drop off h2
    obtain ⟨x,g1,g2⟩:=tZ (P:=P) (w:=w) (aB:=β b') (off:=off) ht' hs h3 (fun j v hj=>by
     rw [List.getElem?_drop] at hj
     simp only [World.cell?,h1]
     simpa using hj)
    exact ⟨rfl,x,by simpa [Instr.loadAt,Instr.sureAddr] using g1,g2⟩
   simp at hr
  simp at hr
 ·rename_i ds
  simp only [ah] at ha
  obtain ⟨aB,off,rfl,hb,hrow⟩:=ha
  split at hr
  ·rename_i v' hs
   simp only [R.pure,osI,R.mk.injEq] at hr
   obtain ⟨_,rfl,rfl⟩:=hr
   obtain ⟨vs,g1,g2,g3⟩:=sA (β:=β) (bx:=bx) ds off hrow
   obtain ⟨x,k1,k2⟩:=tZ (P:=P) (w:=w) (aB:=aB) (off:=off) ht' hs g3 g2
   exact ⟨rfl,x,by simpa [Instr.loadAt,Instr.sureAddr] using k1,k2⟩
  simp at hr
 ·rename_i b' sz i j
  simp only [ah] at ha
  obtain ⟨rfl,hb⟩:=ha
  have main:∀(s:Nat) (es:List (List D)),i<es.length→s=sz→av w (be β bx w X) (β b') s es 0→∀v',cC ti.kd.isAgg ti.size (List.map AV.d ((es.getD i []).drop j))=some v'→
   ∃x,(Instr.loadAt t (.pointer (some ⟨β b',i*sz+j,none⟩))).run P w=.ok x w∧ah β bx w (be β bx w X) v' x:=by
   intro s es hi hs hrows v' hsp
   obtain ⟨_,hrow⟩:=av.get i es 0 hrows hi
   have hrow:=aY.drop j _ _ hrow
   obtain ⟨vs,g1,g2,g3⟩:=sA (β:=β) (bx:=bx) _ _ hrow
   subst hs
   obtain ⟨x,k1,k2⟩:=tZ (P:=P) (w:=w) (aB:=β b') (off:=0+i*s+j) ht' hsp g3 g2
   exact ⟨x,by simpa [Instr.loadAt,Instr.sureAddr] using k1,k2⟩
  split at hr
  ·rename_i s es sB
   split at hr
   ·rename_i v' hsp
    simp only [osI,R.mk.injEq] at hr
    obtain ⟨rfl,rfl,rfl⟩:=hr
    rcases cx.box _ _ sB with h|⟨ca,e,h1,h2⟩
    ·subst h;simp at hc
    exact ⟨rfl,main s es hc.2 hc.1 h2 _ hsp⟩
   simp at hr
  ·rename_i s es sB
   split at hr
   ·rename_i v' hsp
    simp only [osI,R.mk.injEq] at hr
    obtain ⟨rfl,rfl,rfl⟩:=hr
    rcases cx.box _ _ sB with h|⟨h1,h2⟩
    ·subst h;simp at hc
    exact ⟨rfl,main s es hc.2 hc.1 h2 _ hsp⟩
   simp at hr
  simp at hr
 simp at hr
def JM:Value→Prop
 |.agg _=>False
 |.tuple _=>False
 |_=>True
theorem aK.sc {ok:Nat→Prop} {x:D} {v:Value} (h:aK w ok x v):JM v:=by
 cases x<;>simp only [aK] at h
 ·subst h;trivial
 ·subst h;trivial
 ·subst h;trivial
 ·obtain ⟨_,_,rfl,_⟩:=h;trivial
 ·subst h;trivial
 obtain ⟨_,_,_,rfl,_⟩:=h;trivial
theorem ah.sc {ok:Nat→Prop} {x:AV} {v:Value} (hx:x.sc=true) (h:ah β bx w ok x v):JM v:=by
 cases x<;>simp only [AV.sc,Bool.false_eq_true] at hx<;>simp only [ah] at h
 ·exact aK.sc h
 ·rename_i c;subst h;cases c<;>trivial
 ·obtain ⟨rfl,_⟩:=h;trivial
 ·obtain ⟨rfl,_⟩:=h;trivial
 ·obtain ⟨_,_,rfl,_⟩:=h;trivial
 ·obtain ⟨_,h|h⟩:=h
  ·obtain ⟨_,_,rfl⟩:=h;trivial
  obtain ⟨_,_,_,_,_,rfl,_⟩:=h;trivial
 ·obtain ⟨_,rfl,_⟩:=h;trivial
 ·obtain ⟨vs,rfl,_⟩:=h;obtain ⟨a,b,e⟩:=Gq _ vs;rw [e];trivial
 ·obtain ⟨_,rfl,_⟩:=h;trivial
 obtain ⟨rfl,_⟩:=h;trivial
theorem aj.sc {ok:Nat→Prop}:∀{xs:List AV} {vs:List Value},uW xs=true→aj β bx w ok xs vs→∀v∈vs,JM v
 |[],vs,_,h=>by simp only [aj] at h;subst h;simp
 |x::xs,vs,hx,h=>by
  simp only [aj] at h
  obtain ⟨u,us,rfl,g1,g2⟩:=h
  cases hs:x.sc with
  |false=>simp [uW,hs] at hx
  |true=>
   simp only [uW,hs,cond_true] at hx
   intro v hv
   rcases List.mem_cons.1 hv with rfl|hv
   ·exact ah.sc hs g1
   exact aj.sc hx g2 v hv
theorem ot {ok:Nat→Prop} {x:AV} {v:Value} {cs:List AV} (hx:x.cells?=some cs) (h:ah β bx w ok x v):
 ∃vs,v.cells=⟨vs⟩∧aj β bx w ok cs vs∧(∀u∈vs,JM u):=by
 have one:∀(y:AV) (u:Value),y.sc=true→ah β bx w ok y u→∃vs,u.cells=⟨vs⟩∧aj β bx w ok [y] vs∧(∀u∈vs,JM u):=by
  intro y u hy hu
  have:=ah.sc hy hu
  refine ⟨[u],?_,by simp only [aj];exact ⟨u,[],rfl,hu,rfl⟩,by simpa using this⟩
  cases u<;>simp_all [Value.cells,JM]
 cases x with
 |any=>simp [AV.cells?] at hx
 |vw _ _ _ _ _ _=>simp [AV.cells?] at hx
 |dF _=>simp [AV.cells?] at hx
 |cond _ _=>simp [AV.cells?] at hx
 |agg as=>
  simp only [AV.cells?] at hx
  cases ha:uW as with
  |false=>simp [ha] at hx
  |true=>
   simp only [ha,cond_true,osI] at hx
   subst hx
   simp only [ah] at h
   obtain ⟨vs,rfl,g⟩:=h
   exact ⟨vs,rfl,g,aj.sc ha g⟩
 |d x=>simp only [AV.cells?,osI] at hx;subst hx;exact one _ _ rfl h
 |k x=>simp only [AV.cells?,osI] at hx;subst hx;exact one _ _ rfl h
 |ptr _ _=>simp only [AV.cells?,osI] at hx;subst hx;exact one _ _ rfl h
 |rp _ _ _ _=>simp only [AV.cells?,osI] at hx;subst hx;exact one _ _ rfl h
 |ep _=>simp only [AV.cells?,osI] at hx;subst hx;exact one _ _ rfl h
 |ow _ _ _=>simp only [AV.cells?,osI] at hx;subst hx;exact one _ _ rfl h
 |cl _=>simp only [AV.cells?,osI] at hx;subst hx;exact one _ _ rfl h
 |fn _ _=>simp only [AV.cells?,osI] at hx;subst hx;exact one _ _ rfl h
 |tC _ _=>simp only [AV.cells?,osI] at hx;subst hx;exact one _ _ rfl h
 |Ai _=>simp only [AV.cells?,osI] at hx;subst hx;exact one _ _ rfl h
def dW (w:World) (aB:Nat) (o:Obj):World:={w with heap:=w.heap.setIfInBounds aB o}
theorem At (w:World) (aB:Nat) (o:Obj) (k:Nat):(dW w aB o).heap[k]?=if k=aB then (w.heap[k]?).map (fun _=>o) else w.heap[k]?:=by
 show (w.heap.setIfInBounds aB o)[k]?=_
 rw [Array.getElem?_setIfInBounds]
 by_cases h:aB=k
 ·subst h
  by_cases hk:aB<w.heap.size
  ·simp [hk]
  simp [hk]
 simp [h,Ne.symm h]
theorem dL {w:World} {aB:Nat} {o o':Obj} (h:w.heap[aB]?=some o'):(dW w aB o).heap[aB]?=some o:=by rw [At];simp [h]
theorem iC {w:World} {aB k:Nat} {o:Obj} (h:k≠aB):(dW w aB o).heap[k]?=w.heap[k]?:=by rw [At];simp [h]
theorem EG (w:World) (aB:Nat) (o o':Obj):dW (dW w aB o) aB o'=dW w aB o':=by
 unfold dW
 simp
theorem Gs {w:World} {aB off:Nat} {c:Array Value} {e:TypeId} {f:Nat×Nat} (h:w.heap[aB]?=some (.cells c e f)) (v:Value):
 w.setCell ⟨aB,off,none⟩ v=dW w aB (.cells (c.setIfInBounds off v) e f):=by
 unfold World.setCell dW
 congr 1
 apply Array.ext_getElem?
 intro i
 rw [Array.getElem?_modify,Array.getElem?_setIfInBounds]
 by_cases hi:aB=i
 ·subst hi
  have hlt:=eK h
  have h':w.heap[aB]=.cells c e f:=by simpa [hlt] using h
  simp [hlt,h']
 simp [hi]
theorem oZ:∀(l:List Value) (n:Nat) (v:Value) (vs:List Value),bc l n (v::vs)=bc (l.set n v) (n+1) vs
 |[],n,v,vs=>by cases vs<;>simp [bc]
 |c::cs,0,v,vs=>by
  simp only [bc,List.set_cons_zero]
  cases vs with
  |nil=>cases cs<;>simp [bc]
  |cons u us=>simp [bc]
 |c::cs,n+1,v,vs=>by
  simp only [bc,List.set_cons_succ]
  rw [oZ cs n v vs]
  cases vs with
  |nil=>simp [bc]
  |cons u us=>simp [bc]
theorem JN {w:World} {aB off:Nat} {c:Array Value} {e:TypeId} (h:w.heap[aB]?=some (.cells c e (0,0))) (ho:off<c.size) {v:Value} (hv:JM v):
 (store ⟨aB,off,none⟩ v).run P w=.ok () (dW w aB (.cells (c.setIfInBounds off v) e (0,0))):=by
 have h1:w.cell? ⟨aB,off,none⟩=some c[off]:=by simp [World.cell?,h,ho]
 have h2:w.frozen? ⟨aB,off,none⟩=false:=by simp [World.frozen?,h]
 rw [←Gs h]
 cases v<;>simp [JM] at hv<;>simp [store,Sem.run,h1,h2]
theorem iR {aB off:Nat} {e:TypeId}:∀(vs:List Value) (i:Nat) (w:World) (c:Array Value),w.heap[aB]?=some (.cells c e (0,0))→(∀v∈vs,JM v)→off+i+vs.length≤c.size→
 (storeCells ⟨aB,off,none⟩ vs i).run P w=.ok () (dW w aB (.cells ⟨bc c.toList (off+i) vs⟩ e (0,0)))
 |[],i,w,c,h,_,_=>by
  have:dW w aB (.cells c e (0,0))=w:=by
   have:w.heap.setIfInBounds aB (.cells c e (0,0))=w.heap:=by
    apply Array.ext_getElem?
    intro k
    rw [Array.getElem?_setIfInBounds]
    split
    ·rename_i hk;subst hk;split<;>simp_all
    rfl
   simp [dW,this]
  cases hc:c.toList with
  |nil=>
   simp [storeCells,bc];have wW:c=#[]:=by simpa using hc
   subst wW;exact this.symm
  |cons x xs=>simp [storeCells,bc];rw [←hc];exact this.symm
 |v::vs,i,w,c,h,hs,hl=>by
  simp only [List.length_cons] at hl
  simp only [storeCells,Sem.run_bind,fy]
  rw [JN h (by omega) (hs v (by simp))]
  simp only [Result.andThen_ok]
  rw [iR vs (i+1) _ (c.setIfInBounds (off+i) v) (dL h) (fun u hu=>hs u (by simp [hu])) (by simp;omega),EG,oZ]
  congr 4
  simp [show off+(i+1)=off+i+1 by omega]
theorem vb {t:Nat} {ti:TI} (ht:qz P t=some ti) {aB off:Nat} {w:World} {c:Array Value} {e:TypeId} (h:w.heap[aB]?=some (.cells c e (0,0))) {v:Value} {vs:List Value} (hv:v.cells=⟨vs⟩)
 (hs:∀u∈vs,JM u) (hn:vs.length=ti.size) (hl:off+vs.length≤c.size):
 (storeVar t ⟨aB,off,none⟩ v).run P w=.ok () (dW w aB (.cells ⟨bc c.toList off vs⟩ e (0,0))):=by
 obtain ⟨i,d,h1,h2,h3,h4,h5,h6⟩:=aJ ht
 have:=iR (P:=P) (off:=off) vs 0 w c h hs (by simpa using hl)
 simp only [Nat.add_zero] at this
 simp [storeVar,hv,bN h1,hn,h3,this]
theorem cZ:∀(l:List Value) (n:Nat) (vs:List Value),(bc l n vs).length=l.length
 |l,n,[]=>by cases l<;>simp [bc]
 |[],n,v::vs=>by simp [bc]
 |c::cs,0,v::vs=>by simp [bc,cZ cs 0 vs]
 |c::cs,n+1,v::vs=>by simp [bc,cZ cs n (v::vs)]
end
end Dem
end
section
open Go
namespace Dem
section
variable {P:Program} {T:Nat→Option TI} {G:Nat→Option (List D)} {β:Nat→Nat} {bx:List ax} {w:World} {X:Nat→Prop}
theorem aL {b i:Nat} {B B':ax} (h:(bx.set b B')[i]?=some B):(i=b∧B=B'∧b<bx.length)∨(i≠b∧bx[i]?=some B):=by
 rw [List.getElem?_set] at h
 split at h
 ·rename_i zT;subst zT
  split at h
  ·simp at h;exact .inl ⟨rfl,h.symm,by assumption⟩
  simp at h
 rename_i zT;exact .inr ⟨fun e=>zT e.symm,h⟩
theorem iS {i:Nat} {B:ax} (h:bx[i]?=some B):i<bx.length:=by
 rcases Nat.lt_or_ge i bx.length with h'|h'
 ·exact h'
 simp [List.getElem?_eq_none h'] at h
theorem iT {b:Nat} {B B':ax} (h:bx[b]?=some B):(bx.set b B')[b]?=some B':=by
 have:=iS h
 simp [this]
theorem ix {b i:Nat} {B':ax} (hB:B'.born=true) (h:bV bx i):bV (bx.set b B') i:=by
 obtain ⟨B,h1,h2⟩:=h
 by_cases hi:i=b
 ·subst hi;exact ⟨B',iT h1,hB⟩
 exact ⟨B,by rw [List.getElem?_set_ne (Ne.symm hi)];exact h1,h2⟩
theorem mE {b:Nat} {B B':ax} (hb:bx[b]?=some B) (hl:B.live=true) {c c':Array Value} {e:TypeId} (hh:w.heap[β b]?=some (.cells c e (0,0))) (hc:c'.size=c.size) (S4:B'.born=true):
 Ext β bx w β (bx.set b B') (dW w (β b) (.cells c' e (0,0))):=by
 refine ⟨rfl,rfl,rfl,by simp [dW],?_,?_,fun i hi=>⟨rfl,ix S4 hi⟩,?_⟩
 ·intro k hk hl'
  exact iC (fun e=>hl' b B hb hl e.symm)
 ·intro k c1 e1 f1 hk
  by_cases h:k=β b
  ·subst h
   rw [hh] at hk
   simp only [osI,Obj.cells.injEq] at hk
   obtain ⟨rfl,rfl,rfl⟩:=hk
   exact ⟨c',dL hh,hc⟩
  exact ⟨c1,by rw [iC h];exact hk,rfl⟩
 intro i b' h1 h2
 rcases aL h1 with ⟨rfl,_,_⟩|⟨_,h3⟩
 ·exact .inr ⟨i,B,hb,hl,rfl⟩
 exact .inr ⟨i,b',h3,h2,rfl⟩
theorem uc (cx:ct G β bx w X) {b:Nat} {B B':ax} (hb:bx[b]?=some B) (hl:B.live=true) {c c':Array Value} {e:TypeId} (hh:w.heap[β b]?=some (.cells c e (0,0))) (hc:c'.size=c.size) (S4:B'.born=true)
 (hok:dA β (bx.set b B') (dW w (β b) (.cells c' e (0,0))) (be β (bx.set b B') (dW w (β b) (.cells c' e (0,0))) X) B' (β b)):
 ct G β (bx.set b B') (dW w (β b) (.cells c' e (0,0))) X:=by
 refine cx.step (mE hb hl hh hc S4) ?_ ?_
 ·intro i b' h1
  rcases aL h1 with ⟨rfl,rfl,_⟩|⟨h2,h3⟩
  ·exact .inr hok
  refine .inl ⟨h3,fun hl'=>iC (fun e=>h2 (cx.inj i b b' B h3 hb hl' hl e))⟩
 intro i j bi bj h1 h2 l1 l2 he
 rcases aL h1 with ⟨rfl,rfl,_⟩|⟨h3,h4⟩<;>rcases aL h2 with ⟨rfl,rfl,_⟩|⟨h5,h6⟩
 ·rfl
 ·exact cx.inj _ j B bj hb h6 hl l2 he
 ·exact cx.inj i _ bi B h4 hb l1 hl he
 exact cx.inj i j bi bj h4 h6 l1 l2 he
theorem iy {b:Nat} {B B':ax} (_hb:bx[b]?=some B) (S4:B'.live=false) (dj:B'.born=true):Ext β bx w β (bx.set b B') w:=by
 refine ⟨rfl,rfl,rfl,Nat.le_refl _,fun _ _ _=>rfl,fun k c e f h=>⟨c,h,rfl⟩,fun i hi=>⟨rfl,ix dj hi⟩,?_⟩
 intro i b' h1 h2
 rcases aL h1 with ⟨rfl,rfl,_⟩|⟨_,h3⟩
 ·rw [S4] at h2;simp at h2
 exact .inr ⟨i,b',h3,h2,rfl⟩
theorem jL (cx:ct G β bx w X) {b:Nat} {B B':ax} (hb:bx[b]?=some B) (S4:B'.live=false) (dj:B'.born=true)
 (hok:dA β (bx.set b B') w (be β (bx.set b B') w X) B' (β b)):ct G β (bx.set b B') w X:=by
 refine cx.step (iy hb S4 dj) ?_ ?_
 ·intro i b' h1
  rcases aL h1 with ⟨rfl,rfl,_⟩|⟨h2,h3⟩
  ·exact .inr hok
  exact .inl ⟨h3,fun _=>rfl⟩
 intro i j bi bj h1 h2 l1 l2 he
 rcases aL h1 with ⟨rfl,rfl,_⟩|⟨h3,h4⟩
 ·rw [S4] at l1;simp at l1
 rcases aL h2 with ⟨rfl,rfl,_⟩|⟨h5,h6⟩
 ·rw [S4] at l2;simp at l2
 exact cx.inj i j bi bj h4 h6 l1 l2 he
theorem Mb (cx:ct G β bx w X) {b:Nat} {sz:Nat} {es:List (List D)} (hb:bx[b]?=some (.row sz es)):
 Ext β bx w β (bx.set b (.oh sz es)) w∧ct G β (bx.set b (.oh sz es)) w X∧(es=[]∨be β (bx.set b (.oh sz es)) w X (β b)∧av w (be β (bx.set b (.oh sz es)) w X) (β b) sz es 0):=by
 have ex:Ext β bx w β (bx.set b (.oh sz es)) w:=iy hb rfl rfl
 have key:es=[]∨be β (bx.set b (.oh sz es)) w X (β b)∧av w (be β (bx.set b (.oh sz es)) w X) (β b) sz es 0:=by
  rcases cx.box b _ hb with h|⟨c,e,h1,h2⟩
  ·exact .inl h
  cases es with
  |nil=>exact .inl rfl
  |cons r rs=>
   refine .inr ⟨⟨eK h1,cx.apart b _ hb rfl,?_⟩,av.mono (ex.keeps X) _ _ (fun _=>rfl) _ _ h2⟩
   intro i b' h3 h4 he
   rcases aL h3 with ⟨rfl,rfl,_⟩|⟨h5,h6⟩
   ·simp [ax.live] at h4
   exact h5 (cx.inj i b b' _ h6 hb h4 rfl he)
 exact ⟨ex,jL cx hb rfl rfl key,key⟩
theorem av.lens {ok:Nat→Prop} {aB sz:Nat}:∀(es:List (List D)) (off:Nat),av w ok aB sz es off→∀r∈es,r.length=sz
 |[],_,_=>by simp
 |r::rs,off,h=>by
  simp only [av] at h
  intro x hx
  rcases List.mem_cons.1 hx with rfl|hx
  ·exact h.1
  exact av.lens rs _ h.2.2 x hx
theorem jM {ok:Nat→Prop} {aB sz:Nat}:∀(es:List (List D)) (off:Nat),av w ok aB sz es off→∃vs,vs.length=es.length*sz∧(∀j v,vs[j]?=some v→w.cell? ⟨aB,off+j,none⟩=some v)∧
 aj β bx w ok (es.flatten.map .d) vs
 |[],off,_=>⟨[],by simp,by simp,by simp [aj]⟩
 |r::rs,off,h=>by
  simp only [av] at h
  obtain ⟨h1,h2,h3⟩:=h
  obtain ⟨vs,g1,g2,g3⟩:=sA (β:=β) (bx:=bx) r off h2
  obtain ⟨us,k1,k2,k3⟩:=jM rs (off+sz) h3
  refine ⟨vs++us,by simp [g1,k1,h1,Nat.add_mul];omega,?_,by simpa using aj.append g3 k3⟩
  intro j v hj
  rcases Nat.lt_or_ge j vs.length with hlt|hge
  ·rw [List.getElem?_append_left hlt] at hj;exact g2 j v hj
  rw [List.getElem?_append_right hge] at hj
  have:=k2 _ v hj
  rwa [show off+sz+(j-vs.length)=off+j by omega] at this
theorem EH {ok:Nat→Prop} {aB:Nat}:∀(ds:List D) (off:Nat) (vs:List Value),(∀j v,vs[j]?=some v→w.cell? ⟨aB,off+j,none⟩=some v)→aj β bx w ok (ds.map .d) vs→aY w ok aB ds off
 |[],_,_,_,_=>by simp [aY]
 |x::xs,off,vs,hc,h=>by
  simp only [List.map_cons,aj,ah] at h
  obtain ⟨u,us,rfl,g1,g2⟩:=h
  simp only [aY]
  refine ⟨⟨u,by simpa using hc 0 u rfl,g1⟩,EH xs (off+1) us (fun j v hj=>?_) g2⟩
  have:=hc (j+1) v (by simpa using hj)
  rwa [show off+(j+1)=off+1+j by omega] at this
theorem nw {ok:Nat→Prop} {aB sz:Nat}:∀(es:List (List D)) (off:Nat) (vs:List Value),(∀r∈es,r.length=sz)→(∀j v,vs[j]?=some v→w.cell? ⟨aB,off+j,none⟩=some v)→
 aj β bx w ok (es.flatten.map .d) vs→av w ok aB sz es off
 |[],_,_,_,_,_=>by simp [av]
 |r::rs,off,vs,hl,hc,h=>by
  simp only [List.flatten_cons,List.map_append] at h
  have h1:=aj.take r.length h
  have h2:=aj.drop r.length h
  rw [List.take_left' (by simp)] at h1
  rw [List.drop_left' (by simp)] at h2
  have hr:r.length=sz:=hl r (by simp)
  simp only [av]
  refine ⟨hr,EH r off _ (fun j v hj=>?_) h1,nw rs (off+sz) _ (fun x hx=>hl x (by simp [hx])) (fun j v hj=>?_) h2⟩
  ·rw [List.getElem?_take] at hj
   split at hj
   ·exact hc j v hj
   simp at hj
  rw [List.getElem?_drop] at hj
  have:=hc _ v hj
  rwa [show off+(r.length+j)=off+sz+j by omega] at this
theorem Au {ok:Nat→Prop} {x:AV} {es:List (List D)} {u:Value} (hx:∀b sz n,x≠.ow b sz n) (Mc:x.uX=false) (hr:x.rows bx=some es) (h:ah β bx w ok x u):
 ∃base cap,u=.slice base es.length cap∧es.length≤cap∧(es=[]∨∃aB off sz,base=some ⟨aB,off,none⟩∧ok aB∧av w ok aB sz es off):=by
 cases x with
 |d y=>
  cases y with
  |sl es'=>simp only [AV.rows,osI] at hr;subst hr;simpa [ah,aK] using h
  |_=>simp [AV.rows] at hr
 |cl es'=>
  simp only [AV.rows,osI] at hr;subst hr
  simp only [ah] at h
  obtain ⟨base,rfl,g⟩:=h
  exact ⟨base,_,rfl,Nat.le_refl _,g⟩
 |ow b sz n=>exact absurd rfl (hx b sz n)
 |vw b sz off n c ex=>simp [AV.uX] at Mc
 |_=>simp [AV.rows] at hr
theorem av.PJ {ok:Nat→Prop} {aB sz:Nat}:∀(n:Nat) (es:List (List D)) (off:Nat),av w ok aB sz es off→av w ok aB sz (es.drop n) (off+n*sz)
 |0,es,off,h=>by simpa using h
 |n+1,[],off,h=>by simp [av]
 |n+1,r::rs,off,h=>by
  simp only [av] at h
  have:=av.PJ n rs (off+sz) h.2.2
  simpa [Nat.add_mul,show off+sz+n*sz=off+(n*sz+sz) by omega] using this
theorem av.Gt {ok:Nat→Prop} {aB sz:Nat}:∀(n:Nat) (es:List (List D)) (off:Nat),av w ok aB sz es off→av w ok aB sz (es.take n) off
 |0,es,off,h=>by simp [av]
 |n+1,[],off,h=>by simp [av]
 |n+1,r::rs,off,h=>by
  simp only [av] at h
  simp only [List.take_succ_cons,av]
  exact ⟨h.1,h.2.1,av.Gt n rs _ h.2.2⟩
theorem Dh {s sz n m:Nat} {α:Type} {x y:α} (h:(bif Nat.beq s sz&&Nat.ble n m then some x else none)=some y):s=sz∧n≤m∧x=y:=by
 cases h1:Nat.beq s sz<;>cases h2:Nat.ble n m<;>simp [h1,h2] at h
 exact ⟨Nat.eq_of_beq_eq_true h1,Nat.le_of_ble_eq_true h2,h⟩
theorem pe {b sz off n c:Nat} {ex:Bool} {Md:List (List D)} {JO:Nat→Prop} {u:Value} {ok:Nat→Prop} (hn:off+n≤Md.length) (hrows:Md=[]∨av w JO (β b) sz Md 0) (h:ah β bx w ok (.vw b sz off n c ex) u):
 ∃base cap,u=.slice base ((Md.drop off).take n).length cap∧((Md.drop off).take n).length≤cap∧((Md.drop off).take n=[]∨base=some ⟨β b,off*sz,none⟩∧av w JO (β b) sz ((Md.drop off).take n) (off*sz)):=by
 simp only [ah] at h
 obtain ⟨_,base,cap,cs,e,f,rfl,h1,h2,h3,h4⟩:=h
 have hlen:((Md.drop off).take n).length=n:=by simp;omega
 refine ⟨base,cap,by rw [hlen],by rw [hlen];exact h1,?_⟩
 by_cases hn0:n=0
 ·subst hn0;exact .inl (by simp)
 right
 rcases h4 with h4|⟨h4,_⟩
 ·omega
 refine ⟨h4,?_⟩
 rcases hrows with rfl|hrows
 ·simp at hn;omega
 have:=av.Gt n _ _ (av.PJ off _ _ hrows)
 simpa using this
theorem Np {s sz n m:Nat} {α:Type} {x y:α} (h:(bif Nat.beq s sz&&Nat.beq n m then some x else none)=some y):s=sz∧n=m∧x=y:=by
 cases h1:Nat.beq s sz<;>cases h2:Nat.beq n m<;>simp [h1,h2] at h
 exact ⟨Nat.eq_of_beq_eq_true h1,Nat.eq_of_beq_eq_true h2,h⟩
theorem vc (cx:ct G β bx w X) {b sz n:Nat} {es:List (List D)} {u:Value} (hr:(AV.ow b sz n).rows bx=some es) (h:ah β bx w (be β bx w X) (.ow b sz n) u):
 n=es.length∧(∃base cap,u=.slice base es.length cap∧es.length≤cap∧(es=[]∧cap=0∨es≠[]∧base=some ⟨β b,0,none⟩∧av w (be β bx w X) (β b) sz es 0∧
  ∃c e f,w.heap[β b]?=some (.cells c e f)∧cap*sz≤c.size)):=by
 have main:∀es',n=es'.length→(es'=[]∨av w (be β bx w X) (β b) sz es' 0)→∃base cap,u=.slice base es'.length cap∧es'.length≤cap∧(es'=[]∧cap=0∨es'≠[]∧base=some ⟨β b,0,none⟩∧av w (be β bx w X) (β b) sz es' 0∧
  ∃c e f,w.heap[β b]?=some (.cells c e f)∧cap*sz≤c.size):=by
  intro es' hn hrows
  simp only [ah] at h
  obtain ⟨_,⟨h0,base,rfl⟩|⟨h0,cap,c,e,f,rfl,h1,h2,h3⟩⟩:=h
  ·have:es'=[]:=by simpa using (hn.symm.trans h0)
   subst this
   exact ⟨base,0,by simp,by simp,.inl ⟨rfl,rfl⟩⟩
  rcases hrows with rfl|hrows
  ·exact absurd (by simpa using hn) h0
  exact ⟨_,cap,by rw [hn],by omega,.inr ⟨by rintro rfl;exact h0 (by simpa using hn),rfl,hrows,c,e,f,h2,h3⟩⟩
 simp only [AV.rows] at hr
 split at hr
 ·rename_i s es' hb
  obtain ⟨rfl,rfl,rfl⟩:=Np hr
  exact ⟨rfl,main _ rfl ((cx.box b _ hb).imp id fun ⟨_,_,_,g⟩=>g)⟩
 ·rename_i s es' hb
  obtain ⟨rfl,rfl,rfl⟩:=Np hr
  exact ⟨rfl,main _ rfl ((cx.box b _ hb).imp id fun ⟨_,g⟩=>g)⟩
 simp at hr
theorem We {b sz n:Nat} {y:D} (h:(AV.ow b sz n).tD bx=some y):∃es,y=.sl es∧(AV.ow b sz n).rows bx=some es:=by
 simp only [AV.tD] at h
 simp only [AV.rows]
 split at h
 ·rename_i s es hb
  obtain ⟨rfl,rfl,rfl⟩:=Np h
  exact ⟨es,rfl,by simp [hb]⟩
 ·rename_i s es hb
  obtain ⟨rfl,rfl,rfl⟩:=Np h
  exact ⟨es,rfl,by simp [hb]⟩
 simp at h
theorem jN (cx:ct G β bx w X) {x:AV} {es:List (List D)} {u:Value} (hr:x.rows bx=some es) (h:ah β bx w (be β bx w X) x u):
 Ext β bx w β (x.cz bx) w∧ct G β (x.cz bx) w X∧
 ∃base cap,u=.slice base es.length cap∧es.length≤cap∧(es=[]∨∃aB off sz,base=some ⟨aB,off,none⟩∧be β (x.cz bx) w X aB∧av w (be β (x.cz bx) w X) aB sz es off):=by
 by_cases hx:∃b sz n,x=.ow b sz n
 ·obtain ⟨b,sz,n,rfl⟩:=hx
  obtain ⟨hn,base,cap,rfl,h1,h2⟩:=vc cx hr h
  simp only [AV.rows] at hr
  split at hr
  ·rename_i s es' hb
   obtain ⟨rfl,_,rfl⟩:=Np hr
   obtain ⟨g1,g2,g3⟩:=Mb cx hb
   have qT:(AV.ow b s n).cz bx=bx.set b (.oh s es'):=by simp [AV.cz,hb]
   rw [qT]
   refine ⟨g1,g2,base,cap,rfl,h1,?_⟩
   rcases h2 with ⟨rfl,_⟩|⟨hne,rfl,_⟩
   ·exact .inl rfl
   rcases g3 with rfl|⟨g3,g4⟩
   ·exact .inl rfl
   exact .inr ⟨β b,0,s,rfl,g3,g4⟩
  ·rename_i s es' hb
   obtain ⟨rfl,_,rfl⟩:=Np hr
   have qT:(AV.ow b s n).cz bx=bx:=by simp [AV.cz,hb]
   rw [qT]
   refine ⟨Ext.refl _ _ _,cx,base,cap,rfl,h1,?_⟩
   rcases h2 with ⟨rfl,_⟩|⟨hne,rfl,g,_⟩
   ·exact .inl rfl
   rcases cx.box b _ hb with rfl|⟨g3,g4⟩
   ·exact .inl rfl
   exact .inr ⟨β b,0,s,rfl,g3,g4⟩
  simp at hr
 have hx':∀b sz n,x≠.ow b sz n:=fun b sz n e=>hx ⟨b,sz,n,e⟩
 cases hv:x.uX with
 |true=>
  cases x with
  |vw b sz off n c ex=>
   simp only [AV.rows] at hr
   split at hr
   ·rename_i s es' hb
    obtain ⟨rfl,hle,rfl⟩:=Dh hr
    obtain ⟨g1,g2,g3⟩:=Mb cx hb
    have qT:(AV.vw b s off n c ex).cz bx=bx.set b (.oh s es'):=by simp [AV.cz,hb]
    rw [qT]
    refine ⟨g1,g2,?_⟩
    obtain ⟨base,cap,rfl,k1,k2⟩:=pe (JO:=be β (bx.set b (.oh s es')) w X) hle (g3.imp id fun g=>g.2) h
    refine ⟨base,cap,rfl,k1,?_⟩
    rcases g3 with rfl|⟨g3,_⟩
    ·left;simp
    rcases k2 with k2|⟨rfl,k3⟩
    ·exact .inl k2
    exact .inr ⟨β b,off*s,s,rfl,g3,k3⟩
   ·rename_i s es' hb
    obtain ⟨rfl,hle,rfl⟩:=Dh hr
    have qT:(AV.vw b s off n c ex).cz bx=bx:=by simp [AV.cz,hb]
    rw [qT]
    refine ⟨Ext.refl _ _ _,cx,?_⟩
    have g3:=cx.box b _ hb
    obtain ⟨base,cap,rfl,k1,k2⟩:=pe (JO:=be β bx w X) hle (g3.imp id fun g=>g.2) h
    refine ⟨base,cap,rfl,k1,?_⟩
    rcases g3 with rfl|⟨g3,_⟩
    ·left;simp
    rcases k2 with k2|⟨rfl,k3⟩
    ·exact .inl k2
    exact .inr ⟨β b,off*s,s,rfl,g3,k3⟩
   simp at hr
  |_=>simp [AV.uX] at hv
 |false=>
 have qT:x.cz bx=bx:=by cases x<;>simp_all [AV.cz,AV.uX]
 rw [qT]
 exact ⟨Ext.refl _ _ _,cx,Au hx' hv hr h⟩
theorem Av (cx:ct G β bx w X) {x:AV} {y:D} {u:Value} (hd:x.tD bx=some y) (h:ah β bx w (be β bx w X) x u):
 Ext β bx w β (x.cz bx) w∧ct G β (x.cz bx) w X∧aK w (be β (x.cz bx) w X) y u:=by
 cases x with
 |d x=>simp only [AV.tD,osI] at hd;subst hd;exact ⟨Ext.refl _ _ _,cx,h⟩
 |cl es=>
  simp only [AV.tD,osI] at hd;subst hd
  obtain ⟨g1,g2,g3⟩:=jN cx (x:=.cl es) (es:=es) rfl h
  exact ⟨g1,g2,by simpa [aK] using g3⟩
 |ow b sz n=>
  obtain ⟨es,rfl,hr⟩:=We hd
  obtain ⟨g1,g2,g3⟩:=jN cx hr h
  exact ⟨g1,g2,by simpa [aK] using g3⟩
 |fn f cs=>
  cases cs with
  |nil=>
   simp only [AV.tD,osI] at hd;subst hd
   simp only [ah,aj] at h
   obtain ⟨vs,rfl,rfl⟩:=h
   exact ⟨Ext.refl _ _ _,cx,by simp [Aq,aK]⟩
  |cons c cs=>simp [AV.tD] at hd
 |_=>simp [AV.tD] at hd
theorem ve {z:AV} {i s:Nat} {es:List (List D)} (h:bx[i]?=some (.row s es)∨bx[i]?=some (.oh s es)):(z.cz bx)[i]?=some (.row s es)∨(z.cz bx)[i]?=some (.oh s es):=by
 cases z with
 |ow b sz n=>
  simp only [AV.cz]
  split
  ·rename_i s' es' hb
   by_cases hi:i=b
   ·subst hi
    rw [hb] at h
    simp at h
    obtain ⟨rfl,rfl⟩:=h
    exact .inr (iT hb)
   rw [List.getElem?_set_ne (Ne.symm hi)];exact h
  exact h
 |vw b sz off n c ex=>
  simp only [AV.cz]
  split
  ·rename_i s' es' hb
   by_cases hi:i=b
   ·subst hi
    rw [hb] at h
    simp at h
    obtain ⟨rfl,rfl⟩:=h
    exact .inr (iT hb)
   rw [List.getElem?_set_ne (Ne.symm hi)];exact h
  exact h
 |_=>exact h
theorem Di {x z:AV} {y:D} (h:x.tD bx=some y):x.tD (z.cz bx)=some y:=by
 cases x with
 |ow b sz n=>
  simp only [AV.tD] at h ⊢
  split at h
  ·rename_i s es hb
   rcases ve (z:=z) (.inl hb) with g|g<;>simp [g,h]
  ·rename_i s es hb
   rcases ve (z:=z) (.inr hb) with g|g<;>simp [g,h]
  simp at h
 |fn f cs=>cases cs with
  |nil=>exact h
  |cons c cs=>exact h
 |_=>exact h
theorem ue {z:AV}:∀{xs:List AV} {ys:List D},iJ bx xs=some ys→iJ (z.cz bx) xs=some ys
 |[],ys,h=>h
 |x::xs,ys,h=>by
  simp only [iJ] at h ⊢
  split at h
  ·rename_i y ys' hy hys
   rw [Di hy,ue hys];exact h
  simp at h
theorem xe:∀(xs:List AV) (bx:List ax) (ys:List D) (vs:List Value),ct G β bx w X→iJ bx xs=some ys→aj β bx w (be β bx w X) xs vs→
 Ext β bx w β (dY bx xs) w∧ct G β (dY bx xs) w X∧aj β (dY bx xs) w (be β (dY bx xs) w X) (ys.map .d) vs
 |[],bx,ys,vs,cx,hd,h=>by simp [iJ] at hd;subst hd;exact ⟨Ext.refl _ _ _,cx,by simpa [dY] using h⟩
 |x::xs,bx,ys,vs,cx,hd,h=>by
  simp only [iJ] at hd
  split at hd
  ·rename_i y ys' hy hys
   simp at hd;subst hd
   simp only [aj] at h
   obtain ⟨u,us,rfl,g1,g2⟩:=h
   obtain ⟨e1,c1,r1⟩:=Av cx hy g1
   obtain ⟨e2,c2,r2⟩:=xe xs (x.cz bx) ys' us c1 (ue hys) (aj.mono (e1.dQ X) _ _ g2)
   refine ⟨e1.trans e2,c2,?_⟩
   simp only [dY,List.map_cons,aj,ah]
   exact ⟨u,us,rfl,aK.mono (e2.keeps X) _ _ r1,r2⟩
  simp at hd
theorem mF:∀(l m:List Value) (n:Nat) (vs:List Value),n+vs.length≤l.length→bc (l++m) n vs=bc l n vs++m
 |l,m,n,[],_=>by cases l<;>cases m<;>simp [bc]
 |[],m,n,v::vs,h=>by simp at h
 |c::cs,m,0,v::vs,h=>by
  simp only [List.length_cons] at h
  simp only [List.cons_append,bc]
  rw [mF cs m 0 vs (by omega)]
 |c::cs,m,n+1,v::vs,h=>by
  simp only [List.length_cons] at h
  simp only [List.cons_append,bc]
  rw [mF cs m n (v::vs) (by simp;omega)]
theorem mG:∀(l:List D) (n:Nat) (vs:List D),(bF l n vs).length=l.length
 |l,n,[]=>by cases l<;>simp [bF]
 |[],n,v::vs=>by simp [bF]
 |c::cs,0,v::vs=>by simp [bF,mG cs 0 vs]
 |c::cs,n+1,v::vs=>by simp [bF,mG cs n (v::vs)]
theorem qV:∀(l:List D) (n:Nat) (vs:List D),(bF l n vs).map AV.d=eD (l.map .d) n (vs.map .d)
 |l,n,[]=>by cases l<;>simp [bF,eD]
 |[],n,v::vs=>by simp [bF,eD]
 |c::cs,0,v::vs=>by simp [bF,eD,qV cs 0 vs]
 |c::cs,n+1,v::vs=>by simp [bF,eD];rw [qV cs n (v::vs)];simp
theorem vf:∀(l m:List D) (n:Nat) (vs:List D),bF (l++m) (l.length+n) vs=l++bF m n vs
 |[],m,n,vs=>by simp
 |c::cs,m,n,vs=>by
  cases vs with
  |nil=>cases m<;>simp [bF]
  |cons v vs=>
   rw [show (c::cs).length+n=(cs.length+n)+1 by simp;omega]
   simp only [List.cons_append,bF]
   rw [vf cs m n (v::vs)]
theorem nO:∀(l m:List D) (n:Nat) (vs:List D),n+vs.length≤l.length→bF (l++m) n vs=bF l n vs++m
 |l,m,n,[],_=>by cases l<;>cases m<;>simp [bF]
 |[],m,n,v::vs,h=>by simp at h
 |c::cs,m,0,v::vs,h=>by
  simp only [List.length_cons] at h
  simp only [List.cons_append,bF]
  rw [nO cs m 0 vs (by omega)]
 |c::cs,m,n+1,v::vs,h=>by
  simp only [List.length_cons] at h
  simp only [List.cons_append,bF]
  rw [nO cs m n (v::vs) (by simp;omega)]
theorem qW {sz:Nat}:∀(es:List (List D)) (i j:Nat) (ds:List D),(∀r∈es,r.length=sz)→i<es.length→j+ds.length≤(es.getD i []).length→
 (es.set i (bF (es.getD i []) j ds)).flatten=bF es.flatten (i*sz+j) ds
 |[],i,j,ds,_,h,_=>by simp at h
 |r::rs,0,j,ds,hl,_,hj=>by
  simp at hj
  simp only [List.set_cons_zero,List.flatten_cons,Nat.zero_mul,Nat.zero_add]
  rw [nO r _ j ds hj]
  simp
 |r::rs,i+1,j,ds,hl,hi,hj=>by
  have hr:r.length=sz:=hl r (by simp)
  simp at hi hj
  have:=qW rs i j ds (fun x hx=>hl x (by simp [hx])) hi (by simpa using hj)
  simp only [List.set_cons_succ,List.flatten_cons,List.getD_cons_succ]
  rw [this,show (i+1)*sz+j=r.length+(i*sz+j) by rw [hr,Nat.add_mul];omega,vf]
theorem PK {ok:Nat→Prop} {x:AV} {y:D} {u:Value} (h:x.tD []=some y) (hx:ah β bx w ok x u):aK w ok y u:=by
 cases x with
 |d x=>simp only [AV.tD,osI] at h;subst h;simpa [ah] using hx
 |cl es=>
  simp only [AV.tD,osI] at h;subst h
  simp only [ah] at hx
  obtain ⟨base,rfl,g⟩:=hx
  simp only [aK];exact ⟨base,_,rfl,Nat.le_refl _,g⟩
 |ow b sz n=>simp [AV.tD] at h
 |fn f cs=>
  cases cs with
  |nil=>
   simp only [AV.tD,osI] at h;subst h
   simp only [ah,aj] at hx
   obtain ⟨vs,rfl,rfl⟩:=hx
   simp [aK,Aq]
  |cons c cs=>simp [AV.tD] at h
 |_=>simp [AV.tD] at h
theorem sC {ok:Nat→Prop}:∀{xs:List AV} {ys:List D} {us:List Value},iJ [] xs=some ys→aj β bx w ok xs us→aj β bx w ok (ys.map .d) us
 |[],ys,us,h,hx=>by simp [iJ] at h;subst h;simpa using hx
 |x::xs,ys,us,h,hx=>by
  simp only [iJ] at h
  split at h
  ·rename_i y ys' h1 h2
   simp only [osI] at h;subst h
   simp only [aj] at hx
   obtain ⟨u,PI,rfl,g1,g2⟩:=hx
   simp only [List.map_cons,aj,ah]
   exact ⟨u,PI,rfl,PK h1 g1,sC h2 g2⟩
  simp at h
end
end Dem
end
