/- Parts of a proof, joined. -/
import Derived.Test.YtihohjnkkalgiaaGreatDoorM00
set_option linter.all false
set_option maxRecDepth 100000
set_option maxHeartbeats 4000000
section
open Go
namespace Dem
def kF (es:Array MapEntry) (clock:Nat):Prop:=es.all (·.born<clock)=true∧(es.toList.map (·.born)).Nodup
mutual
def aK (w:World) (ok:Nat→Prop):D→Value→Prop
 |.bool b,v=>v=.bool b
 |.int k n,v=>v=.int k n
 |.str s,v=>v=.string ⟨s.toArray⟩
 |.sl es,v=>∃base cap,v=.slice base es.length cap∧es.length≤cap∧
  (es=[]∨∃blk off sz,base=some ⟨blk,off,none⟩∧ok blk∧ax w ok blk sz es off)
 |.fn f,v=>v=.func (.func f) #[] #[]
 |.mp ag es,v=>∃blk ms clock,v=.map (some blk)∧ok blk∧w.heap[blk]?=some (.map ms clock)∧kF ms clock∧bp w ok ag es ms.toList
def bf (w:World) (ok:Nat→Prop) (blk:Nat):List D→Nat→Prop
 |[],_=>True
 |x::xs,off=>(∃u,w.cell? ⟨blk,off,none⟩=some u∧aK w ok x u)∧bf w ok blk xs (off+1)
def ax (w:World) (ok:Nat→Prop) (blk sz:Nat):List (List D)→Nat→Prop
 |[],_=>True
 |r::rs,off=>r.length=sz∧bf w ok blk r off∧ax w ok blk sz rs (off+sz)
def bp (w:World) (ok:Nat→Prop) (ag:Bool):List (List D)→List MapEntry→Prop
 |[],ms=>ms=[]
 |r::rs,ms=>∃m Fg,ms=m::Fg∧gB w ok ag r m∧bp w ok ag rs Fg
def gB (w:World) (ok:Nat→Prop) (ag:Bool):List D→MapEntry→Prop
 |[],_=>False
 |k::ds,m=>aK w ok k m.key∧∃cs,m.val=(bif ag then .agg ⟨cs⟩ else cs.headD undef)∧(ag=false→cs.length=1)∧cD w ok ds cs
def cD (w:World) (ok:Nat→Prop):List D→List Value→Prop
 |[],vs=>vs=[]
 |d::ds,vs=>∃v r,vs=v::r∧aK w ok d v∧cD w ok ds r
end
def iZ (w w':World) (ok ok':Nat→Prop):Prop:=∀blk,ok blk→ok' blk∧w'.heap[blk]?=w.heap[blk]?
theorem nk {w w':World} {blk:Nat} (h:w'.heap[blk]?=w.heap[blk]?) (off:Nat) (sp:Option Nat):w'.cell? ⟨blk,off,sp⟩=w.cell? ⟨blk,off,sp⟩:=by
 simp only [World.cell?,h]
theorem iZ.cell {w w':World} {ok ok':Nat→Prop} (h:iZ w w' ok ok') {blk:Nat} (hb:ok blk) (off:Nat):w'.cell? ⟨blk,off,none⟩=w.cell? ⟨blk,off,none⟩:=nk (h blk hb).2 off _
mutual
theorem aK.mono {w w':World} {ok ok':Nat→Prop} (h:iZ w w' ok ok'):∀(x:D) (v:Value),aK w ok x v→aK w' ok' x v
 |.bool b,v,hv=>by simpa [aK] using hv
 |.int k n,v,hv=>by simpa [aK] using hv
 |.str s,v,hv=>by simpa [aK] using hv
 |.sl es,v,hv=>by
  simp only [aK] at hv ⊢
  obtain ⟨base,cap,h1,h2,h3⟩:=hv
  refine ⟨base,cap,h1,h2,h3.imp id ?_⟩
  rintro ⟨blk,off,sz,e1,e2,e3⟩
  exact ⟨blk,off,sz,e1,(h blk e2).1,ax.mono h blk sz (h.cell e2) es off e3⟩
 |.fn f,v,hv=>by simpa [aK] using hv
 |.mp ag es,v,hv=>by
  simp only [aK] at hv ⊢
  obtain ⟨blk,ms,clock,h1,h2,h3,h4,h5⟩:=hv
  exact ⟨blk,ms,clock,h1,(h blk h2).1,by rw [(h blk h2).2];exact h3,h4,bp.mono h ag es _ h5⟩
theorem bf.mono {w w':World} {ok ok':Nat→Prop} (h:iZ w w' ok ok') (blk:Nat) (hb:∀off,w'.cell? ⟨blk,off,none⟩=w.cell? ⟨blk,off,none⟩):∀(xs:List D) (off:Nat),bf w ok blk xs off→bf w' ok' blk xs off
 |[],_,_=>by simp [bf]
 |x::xs,off,hv=>by
  simp only [bf] at hv ⊢
  obtain ⟨⟨u,h1,h2⟩,h3⟩:=hv
  exact ⟨⟨u,by rw [hb];exact h1,aK.mono h x u h2⟩,bf.mono h blk hb xs _ h3⟩
theorem ax.mono {w w':World} {ok ok':Nat→Prop} (h:iZ w w' ok ok') (blk sz:Nat) (hb:∀off,w'.cell? ⟨blk,off,none⟩=w.cell? ⟨blk,off,none⟩):∀(rs:List (List D)) (off:Nat),ax w ok blk sz rs off→ax w' ok' blk sz rs off
 |[],_,_=>by simp [ax]
 |r::rs,off,hv=>by
  simp only [ax] at hv ⊢
  exact ⟨hv.1,bf.mono h blk hb r _ hv.2.1,ax.mono h blk sz hb rs _ hv.2.2⟩
theorem bp.mono {w w':World} {ok ok':Nat→Prop} (h:iZ w w' ok ok') (ag:Bool):∀(rs:List (List D)) (ms:List MapEntry),bp w ok ag rs ms→bp w' ok' ag rs ms
 |[],_,hv=>by simpa [bp] using hv
 |r::rs,ms,hv=>by
  simp only [bp] at hv ⊢
  obtain ⟨m,Fg,h1,h2,h3⟩:=hv
  exact ⟨m,Fg,h1,gB.mono h ag r m h2,bp.mono h ag rs Fg h3⟩
theorem gB.mono {w w':World} {ok ok':Nat→Prop} (h:iZ w w' ok ok') (ag:Bool):∀(r:List D) (m:MapEntry),gB w ok ag r m→gB w' ok' ag r m
 |[],_,hv=>by simp [gB] at hv
 |k::ds,m,hv=>by
  simp only [gB] at hv ⊢
  obtain ⟨h1,cs,h2,h3,h4⟩:=hv
  exact ⟨aK.mono h k _ h1,cs,h2,h3,cD.mono h ds cs h4⟩
theorem cD.mono {w w':World} {ok ok':Nat→Prop} (h:iZ w w' ok ok'):∀(ds:List D) (vs:List Value),cD w ok ds vs→cD w' ok' ds vs
 |[],_,hv=>by simpa [cD] using hv
 |d::ds,vs,hv=>by
  simp only [cD] at hv ⊢
  obtain ⟨v,r,h1,h2,h3⟩:=hv
  exact ⟨v,r,h1,aK.mono h d v h2,cD.mono h ds r h3⟩
end
def bt (β:Nat→Nat) (bx:List az) (w:World) (X:Nat→Prop) (blk:Nat):Prop:=
 blk<w.heap.size∧¬X blk∧∀i b,bx[i]?=some b→b.live=true→β i≠blk
def zO (f:Nat):List Value→Value
 |.tuple fs::vs=>.func (.func f) fs ⟨vs⟩
 |vs=>.func (.func f) #[] ⟨vs⟩
theorem Fp (f:Nat) (vs:List Value):∃a b,zO f vs=.func (.func f) a b:=by unfold zO;split<;>exact ⟨_,_,rfl⟩
mutual
def aj (β:Nat→Nat) (bx:List az) (w:World) (ok:Nat→Prop):AV→Value→Prop
 |.any,_=>True
 |.d x,v=>aK w ok x v
 |.k c,v=>v=c.val
 |.agg cs,v=>∃vs,v=.agg ⟨vs⟩∧ak β bx w ok cs vs
 |.eE cs,v=>∃vs,v=.tuple ⟨vs⟩∧ak β bx w ok cs vs
 |.ptr b off,v=>v=.pointer (some ⟨β b,off,none⟩)∧cg bx b
 |.rp b sz i j,v=>v=.pointer (some ⟨β b,i*sz+j,none⟩)∧cg bx b
 |.ep ds,v=>∃blk off,v=.pointer (some ⟨blk,off,none⟩)∧ok blk∧bf w ok blk ds off
 |.ow b sz n,v=>cg bx b∧((n=0∧∃base,v=.slice base 0 0)∨
  (n≠0∧∃cap c e f,v=.slice (some ⟨β b,0,none⟩) n cap∧n≤cap∧w.heap[β b]?=some (.cells c e f)∧cap*sz≤c.size))
 |.cl es,v=>∃base,v=.slice base es.length es.length∧(es=[]∨∃blk off sz,base=some ⟨blk,off,none⟩∧ok blk∧ax w ok blk sz es off)
 |.fn f jQ,v=>∃vs,v=zO f vs∧ak β bx w ok jQ vs
 |.sI t x,v=>∃u,v=.iface t u∧aj β bx w ok x u
 |.cond p x,v=>(p=true→aj β bx w ok x v)∧(p=false→v=undef)
 |.vw b sz off n c ex,v=>cg bx b∧∃base cap cs e f,v=.slice base n cap∧n≤cap∧c≤cap∧(ex=true→cap=c)∧(cap=0∨base=some ⟨β b,off*sz,none⟩∧w.heap[β b]?=some (.cells cs e f)∧(off+cap)*sz≤cs.size)
 |.zG b,v=>v=.map (some (β b))∧cg bx b
def ak (β:Nat→Nat) (bx:List az) (w:World) (ok:Nat→Prop):List AV→List Value→Prop
 |[],vs=>vs=[]
 |x::xs,vs=>∃u us,vs=u::us∧aj β bx w ok x u∧ak β bx w ok xs us
end
def dj (β:Nat→Nat) (bx:List az) (w:World) (ok:Nat→Prop):az→Nat→Prop
 |.var cs,blk=>∃c e,w.heap[blk]?=some (.cells c e (0,0))∧ak β bx w ok cs c.toList
 |.row sz es,blk=>es=[]∨∃c e,w.heap[blk]?=some (.cells c e (0,0))∧ax w ok blk sz es 0
 |.nE sz es,blk=>es=[]∨(ok blk∧ax w ok blk sz es 0)
 |.it s pos,blk=>w.heap[blk]?=some (.stringIter ⟨s.toArray⟩ pos)
 |.mp ag es,blk=>∃ms clock,w.heap[blk]?=some (.map ms clock)∧kF ms clock∧bp w ok ag es ms.toList
 |.dead,_=>True
 |.bB,_=>True
structure cI (G:Nat→Option (List D)) (β:Nat→Nat) (bx:List az) (w:World) (X:Nat→Prop):Prop where
 xs:∀blk,X blk→blk<w.heap.size
 yU:∀g ds,G g=some ds→bt β bx w X g∧bf w (bt β bx w X) g ds 0
 inj:∀i j bi bj,bx[i]?=some bi→bx[j]?=some bj→bi.live=true→bj.live=true→β i=β j→i=j
 box:∀i b,bx[i]?=some b→dj β bx w (bt β bx w X) b (β i)
 apart:∀i b,bx[i]?=some b→b.live=true→¬X (β i)
structure Ext (β:Nat→Nat) (bx:List az) (w:World) (β':Nat→Nat) (aR:List az) (w':World):Prop where
 os:w'.os=w.os
 tape:w'.tape=w.tape
 output:w'.output=w.output
 size:w.heap.size≤w'.heap.size
 block:∀k,k<w.heap.size→(∀i b,bx[i]?=some b→b.live=true→β i≠k)→w'.heap[k]?=w.heap[k]?
 shape:∀(k:Nat) (c:Array Value) (e:TypeId) (f:Nat×Nat),w.heap[k]?=some (.cells c e f)→∃c',w'.heap[k]?=some (.cells c' e f)∧c'.size=c.size
 born:∀i,cg bx i→β' i=β i∧cg aR i
 live:∀i b,aR[i]?=some b→b.live=true→w.heap.size≤β' i∨∃j b',bx[j]?=some b'∧b'.live=true∧β j=β' i
theorem Ext.refl (β:Nat→Nat) (bx:List az) (w:World):Ext β bx w β bx w:=
 ⟨rfl,rfl,rfl,Nat.le_refl _,fun _ _ _=>rfl,fun _ c _ _ h=>⟨c,h,rfl⟩,fun _ h=>⟨rfl,h⟩,fun i b h1 h2=>.inr ⟨i,b,h1,h2,rfl⟩⟩
theorem rV {b:az} (h:b.live=true):b.born=true:=by cases b<;>simp_all [az.live,az.born]
theorem Ext.trans {β β' β'':Nat→Nat} {bx aR OV:List az} {w w' w'':World} (h:Ext β bx w β' aR w') (g:Ext β' aR w' β'' OV w''):Ext β bx w β'' OV w'':=by
 refine ⟨g.os.trans h.os,g.tape.trans h.tape,g.output.trans h.output,Nat.le_trans h.size g.size,?_,?_,?_,?_⟩
 ·intro k hk hl
  rw [g.block k (Nat.lt_of_lt_of_le hk h.size),h.block k hk hl]
  intro i b hb hlv he
  rcases h.live i b hb hlv with h1|⟨j,b',h1,h2,h3⟩
  ·omega
  exact hl j b' h1 h2 (h3.trans he)
 ·intro k c e f hk
  obtain ⟨c',h1,h2⟩:=h.shape k c e f hk
  obtain ⟨c'',h3,h4⟩:=g.shape k c' e f h1
  exact ⟨c'',h3,h4.trans h2⟩
 ·intro i hi
  obtain ⟨h1,h2⟩:=h.born i hi
  obtain ⟨h3,h4⟩:=g.born i h2
  exact ⟨h3.trans h1,h4⟩
 intro i b hb hlv
 rcases g.live i b hb hlv with h1|⟨j,b',h1,h2,h3⟩
 ·exact .inl (Nat.le_trans h.size h1)
 rcases h.live j b' h1 h2 with h4|⟨k,b'',h4,h5,h6⟩
 ·exact .inl (by omega)
 exact .inr ⟨k,b'',h4,h5,h6.trans h3⟩
theorem Ext.keeps {β β':Nat→Nat} {bx aR:List az} {w w':World} (h:Ext β bx w β' aR w') (X:Nat→Prop):
 iZ w w' (bt β bx w X) (bt β' aR w' X):=by
 rintro blk ⟨h1,h2,h3⟩
 refine ⟨⟨Nat.lt_of_lt_of_le h1 h.size,h2,?_⟩,h.block blk h1 h3⟩
 intro i b hb hlv he
 rcases h.live i b hb hlv with h4|⟨j,b',h4,h5,h6⟩
 ·omega
 exact h3 j b' h4 h5 (h6.trans he)
structure sQ (β:Nat→Nat) (bx:List az) (w:World) (ok:Nat→Prop) (β':Nat→Nat) (aR:List az) (w':World) (ok':Nat→Prop):Prop where
 keeps:iZ w w' ok ok'
 born:∀i,cg bx i→β' i=β i∧cg aR i
 shape:∀(k:Nat) (c:Array Value) (e:TypeId) (f:Nat×Nat),w.heap[k]?=some (.cells c e f)→∃c',w'.heap[k]?=some (.cells c' e f)∧c'.size=c.size
theorem Ext.eY {β β':Nat→Nat} {bx aR:List az} {w w':World} (h:Ext β bx w β' aR w') (X:Nat→Prop):
 sQ β bx w (bt β bx w X) β' aR w' (bt β' aR w' X):=⟨h.keeps X,h.born,h.shape⟩
mutual
theorem aj.mono {β β':Nat→Nat} {bx aR:List az} {w w':World} {ok ok':Nat→Prop} (h:sQ β bx w ok β' aR w' ok'):
 ∀(x:AV) (v:Value),aj β bx w ok x v→aj β' aR w' ok' x v
 |.any,_,_=>by simp [aj]
 |.d x,v,hv=>by simp only [aj] at hv ⊢;exact aK.mono h.keeps x v hv
 |.k c,v,hv=>by simpa [aj] using hv
 |.agg cs,v,hv=>by simp only [aj] at hv ⊢;obtain ⟨vs,e,g⟩:=hv;exact ⟨vs,e,ak.mono h cs vs g⟩
 |.eE cs,v,hv=>by simp only [aj] at hv ⊢;obtain ⟨vs,e,g⟩:=hv;exact ⟨vs,e,ak.mono h cs vs g⟩
 |.ptr b off,v,hv=>by simp only [aj] at hv ⊢;obtain ⟨e,g⟩:=hv;exact ⟨by rw [(h.born b g).1];exact e,(h.born b g).2⟩
 |.rp b sz i j,v,hv=>by simp only [aj] at hv ⊢;obtain ⟨e,g⟩:=hv;exact ⟨by rw [(h.born b g).1];exact e,(h.born b g).2⟩
 |.ep ds,v,hv=>by
  simp only [aj] at hv ⊢
  obtain ⟨blk,off,e,g1,g2⟩:=hv
  exact ⟨blk,off,e,(h.keeps blk g1).1,bf.mono h.keeps blk (h.keeps.cell g1) ds off g2⟩
 |.ow b sz n,v,hv=>by
  simp only [aj] at hv ⊢
  obtain ⟨g,hv⟩:=hv
  refine ⟨(h.born b g).2,hv.imp id ?_⟩
  rintro ⟨hn,cap,c,e,f,e1,e2,e3,e4⟩
  obtain ⟨c',e5,e6⟩:=h.shape _ _ _ _ e3
  rw [(h.born b g).1]
  exact ⟨hn,cap,c',e,f,e1,e2,e5,by rw [e6];exact e4⟩
 |.cl es,v,hv=>by
  simp only [aj] at hv ⊢
  obtain ⟨base,e,g⟩:=hv
  refine ⟨base,e,g.imp id ?_⟩
  rintro ⟨blk,off,sz,e1,e2,e3⟩
  exact ⟨blk,off,sz,e1,(h.keeps blk e2).1,ax.mono h.keeps blk sz (h.keeps.cell e2) es off e3⟩
 |.fn f jQ,v,hv=>by simp only [aj] at hv ⊢;obtain ⟨vs,e,g⟩:=hv;exact ⟨vs,e,ak.mono h jQ vs g⟩
 |.sI t x,v,hv=>by simp only [aj] at hv ⊢;obtain ⟨u,e,g⟩:=hv;exact ⟨u,e,aj.mono h x u g⟩
 |.cond p x,v,hv=>by simp only [aj] at hv ⊢;exact ⟨fun hp=>aj.mono h x v (hv.1 hp),hv.2⟩
 |.vw b sz off n c ex,v,hv=>by
  simp only [aj] at hv ⊢
  obtain ⟨g,base,cap,cs,e,f,e1,e2,e3,e4,e5⟩:=hv
  rcases e5 with e5|⟨e5,e6,e7⟩
  ·exact ⟨(h.born b g).2,base,cap,cs,e,f,e1,e2,e3,e4,.inl e5⟩
  obtain ⟨c',k5,k6⟩:=h.shape _ _ _ _ e6
  rw [(h.born b g).1]
  exact ⟨(h.born b g).2,base,cap,c',e,f,e1,e2,e3,e4,.inr ⟨e5,k5,by rw [k6];exact e7⟩⟩
 |.zG b,v,hv=>by simp only [aj] at hv ⊢;obtain ⟨e,g⟩:=hv;exact ⟨by rw [(h.born b g).1];exact e,(h.born b g).2⟩
theorem ak.mono {β β':Nat→Nat} {bx aR:List az} {w w':World} {ok ok':Nat→Prop} (h:sQ β bx w ok β' aR w' ok'):
 ∀(xs:List AV) (vs:List Value),ak β bx w ok xs vs→ak β' aR w' ok' xs vs
 |[],vs,hv=>by simpa [ak] using hv
 |x::xs,vs,hv=>by
  simp only [ak] at hv ⊢
  obtain ⟨u,us,e,g1,g2⟩:=hv
  exact ⟨u,us,e,aj.mono h x u g1,ak.mono h xs us g2⟩
end
theorem ak.length {β:Nat→Nat} {bx:List az} {w:World} {ok:Nat→Prop}:∀{xs:List AV} {vs:List Value},ak β bx w ok xs vs→vs.length=xs.length
 |[],vs,h=>by simp only [ak] at h;simp [h]
 |x::xs,vs,h=>by simp only [ak] at h;obtain ⟨u,us,rfl,_,g⟩:=h;simp [ak.length g]
theorem ak.get {β:Nat→Nat} {bx:List az} {w:World} {ok:Nat→Prop}:∀{xs:List AV} {vs:List Value} (i:Nat) (x:AV),ak β bx w ok xs vs→xs[i]?=some x→∃v,vs[i]?=some v∧aj β bx w ok x v
 |[],_,i,x,_,hx=>by simp at hx
 |y::ys,vs,i,x,h,hx=>by
  simp only [ak] at h
  obtain ⟨u,us,rfl,g1,g2⟩:=h
  cases i with
  |zero=>simp at hx;subst hx;exact ⟨u,by simp,g1⟩
  |succ i=>simp at hx;obtain ⟨v,h1,h2⟩:=ak.get i x g2 hx;exact ⟨v,by simpa using h1,h2⟩
theorem ak.drop {β:Nat→Nat} {bx:List az} {w:World} {ok:Nat→Prop}:∀(n:Nat) {xs:List AV} {vs:List Value},ak β bx w ok xs vs→ak β bx w ok (xs.drop n) (vs.drop n)
 |0,xs,vs,h=>by simpa using h
 |n+1,[],vs,h=>by simp only [ak] at h;subst h;simp [ak]
 |n+1,x::xs,vs,h=>by
  simp only [ak] at h
  obtain ⟨u,us,rfl,_,g2⟩:=h
  simpa using ak.drop n g2
theorem ak.take {β:Nat→Nat} {bx:List az} {w:World} {ok:Nat→Prop}:∀(n:Nat) {xs:List AV} {vs:List Value},ak β bx w ok xs vs→ak β bx w ok (xs.take n) (vs.take n)
 |0,xs,vs,h=>by simp [ak]
 |n+1,[],vs,h=>by simp only [ak] at h;subst h;simp [ak]
 |n+1,x::xs,vs,h=>by
  simp only [ak] at h
  obtain ⟨u,us,rfl,g1,g2⟩:=h
  simp only [List.take_succ_cons,ak]
  exact ⟨u,_,rfl,g1,ak.take n g2⟩
theorem ak.append {β:Nat→Nat} {bx:List az} {w:World} {ok:Nat→Prop}:∀{xs ys:List AV} {vs us:List Value},ak β bx w ok xs vs→ak β bx w ok ys us→ak β bx w ok (xs++ys) (vs++us)
 |[],ys,vs,us,h,g=>by simp only [ak] at h;subst h;simpa using g
 |x::xs,ys,vs,us,h,g=>by
  simp only [ak] at h
  obtain ⟨u,OW,rfl,g1,g2⟩:=h
  simp only [List.cons_append,ak]
  exact ⟨u,_,rfl,g1,ak.append g2 g⟩
def bq:List Value→Nat→List Value→List Value
 |cs,_,[]=>cs
 |[],_,_::_=>[]
 |_::cs,0,v::vs=>v::bq cs 0 vs
 |c::cs,n+1,v::vs=>c::bq cs n (v::vs)
theorem ak.eM {β:Nat→Nat} {bx:List az} {w:World} {ok:Nat→Prop}:∀{xs:List AV} {vs:List Value} (n:Nat) {ys:List AV} {us:List Value},ak β bx w ok xs vs→ak β bx w ok ys us→
 ak β bx w ok (Dem.eM xs n ys) (bq vs n us)
 |xs,vs,n,[],us,h,g=>by
  simp only [ak] at g;subst g
  cases xs<;>cases vs<;>simpa [Dem.eM,bq] using h
 |[],vs,n,y::ys,us,h,g=>by
  simp only [ak] at h g;obtain ⟨u,OW,rfl,_,_⟩:=g;subst h
  simp [Dem.eM,bq,ak]
 |x::xs,vs,0,y::ys,us,h,g=>by
  simp only [ak] at h g
  obtain ⟨u,OW,rfl,g1,g2⟩:=g
  obtain ⟨v,vs',rfl,h1,h2⟩:=h
  simp only [Dem.eM,bq,ak]
  exact ⟨u,_,rfl,g1,ak.eM 0 h2 g2⟩
 |x::xs,vs,n+1,y::ys,us,h,g=>by
  simp only [ak] at h
  obtain ⟨v,vs',rfl,h1,h2⟩:=h
  have g0:=g
  simp only [ak] at g
  obtain ⟨u,OW,rfl,g1,g2⟩:=g
  simp only [Dem.eM,bq,ak]
  exact ⟨v,_,rfl,h1,ak.eM n h2 g0⟩
theorem dj.mono {β β':Nat→Nat} {bx aR:List az} {w w':World} {ok ok':Nat→Prop} (h:sQ β bx w ok β' aR w' ok') {b:az} {blk:Nat}
 (hl:b.live=true→w'.heap[blk]?=w.heap[blk]?) (hb:dj β bx w ok b blk):dj β' aR w' ok' b blk:=by
 cases b with
 |var cs=>
  obtain ⟨c,e,h1,h2⟩:=hb
  exact ⟨c,e,by rw [hl rfl];exact h1,ak.mono h _ _ h2⟩
 |row sz es=>
  cases es with
  |nil=>exact .inl rfl
  |cons r rs=>
   rcases hb with hb|⟨c,e,h1,h2⟩
   ·exact .inl hb
   exact .inr ⟨c,e,by rw [hl rfl];exact h1,ax.mono h.keeps blk sz (fun off=>nk (hl rfl) off _) _ _ h2⟩
 |nE sz es=>
  rcases hb with hb|⟨h1,h2⟩
  ·exact .inl hb
  exact .inr ⟨(h.keeps blk h1).1,ax.mono h.keeps blk sz (h.keeps.cell h1) _ _ h2⟩
 |it s pos=>simp only [dj] at hb ⊢;rw [hl rfl];exact hb
 |mp ag es=>
  obtain ⟨ms,clock,h1,h2,h3⟩:=hb
  exact ⟨ms,clock,by rw [hl rfl];exact h1,h2,bp.mono h.keeps ag es _ h3⟩
 |dead=>trivial
 |bB=>trivial
theorem cI.step {G:Nat→Option (List D)} {β β':Nat→Nat} {bx aR:List az} {w w':World} {X:Nat→Prop} (cx:cI G β bx w X) (ex:Ext β bx w β' aR w')
 (ZQ:∀i b,aR[i]?=some b→(bx[i]?=some b∧(b.live=true→w'.heap[β i]?=w.heap[β i]?))∨dj β' aR w' (bt β' aR w' X) b (β' i))
 (hinj:∀i j bi bj,aR[i]?=some bi→aR[j]?=some bj→bi.live=true→bj.live=true→β' i=β' j→i=j):cI G β' aR w' X:=by
 refine ⟨fun blk hb=>Nat.lt_of_lt_of_le (cx.xs blk hb) ex.size,?_,hinj,?_,?_⟩
 ·intro g ds hg
  obtain ⟨h1,h2⟩:=cx.yU g ds hg
  exact ⟨(ex.keeps X g h1).1,bf.mono (ex.keeps X) g ((ex.keeps X).cell h1) _ _ h2⟩
 ·intro i b hb
  rcases ZQ i b hb with ⟨h1,h2⟩|h
  ·by_cases dF:b.born=true
   ·rw [(ex.born i ⟨b,h1,dF⟩).1]
    exact dj.mono (ex.eY X) h2 (cx.box i b h1)
   cases b<;>simp_all [az.born,dj]
  exact h
 intro i b hb hl hX
 rcases ex.live i b hb hl with h|⟨j,b',h1,h2,h3⟩
 ·have:=cx.xs _ hX;omega
 exact cx.apart j b' h1 h2 (h3▸hX)
structure DV (w w':World):Prop where
 heap:w'.heap=w.heap
 os:w'.os=w.os
 tape:w'.tape=w.tape
 output:w'.output=w.output
theorem je {β:Nat→Nat} {bx:List az} {w w':World} (h:DV w w'):Ext β bx w β bx w':=
 ⟨h.os,h.tape,h.output,by rw [h.heap];exact Nat.le_refl _,fun k _ _=>by rw [h.heap],fun k c e f hk=>⟨c,by rw [h.heap];exact hk,rfl⟩,fun i hi=>⟨rfl,hi⟩,fun i b h1 h2=>.inr ⟨i,b,h1,h2,rfl⟩⟩
theorem qt {G:Nat→Option (List D)} {β:Nat→Nat} {bx:List az} {w w':World} {X:Nat→Prop} (cx:cI G β bx w X) (h:DV w w'):cI G β bx w' X:=
 cx.step (je h) (fun i b hb=>.inl ⟨hb,fun _=>by rw [h.heap]⟩) cx.inj
theorem fy (w:World):DV w {w with drawn:=w.drawn+1}:=⟨rfl,rfl,rfl,rfl⟩
theorem jg (w:World) (o:Obj) (k:Nat) (h:k<w.heap.size):({w with heap:=w.heap.push o}:World).heap[k]?=w.heap[k]?:=by
 show (w.heap.push o)[k]?=_
 rw [Array.getElem?_push,if_neg (by omega)]
theorem jh (w:World) (o:Obj):({w with heap:=w.heap.push o}:World).heap[w.heap.size]?=some o:=by
 show (w.heap.push o)[w.heap.size]?=_
 simp
theorem eT {w:World} {k:Nat} {o:Obj} (h:w.heap[k]?=some o):k<w.heap.size:=by
 rcases Nat.lt_or_ge k w.heap.size with h'|h'
 ·exact h'
 simp [Array.getElem?_eq_none h'] at h
theorem uF {β:Nat→Nat} {bx:List az} {w:World} (o:Obj):Ext β bx w β bx {w with heap:=w.heap.push o}:=by
 refine ⟨rfl,rfl,rfl,by simp,fun k hk _=>jg w o k hk,fun k c e f hk=>⟨c,?_,rfl⟩,fun i hi=>⟨rfl,hi⟩,fun i b h1 h2=>.inr ⟨i,b,h1,h2,rfl⟩⟩
 rw [jg w o k (eT hk)];exact hk
theorem dj.eU {β:Nat→Nat} {bx:List az} {w:World} {ok:Nat→Prop} {b:az} {blk:Nat} (h:dj β bx w ok b blk) (hl:b.live=true):blk<w.heap.size:=by
 cases b with
 |var cs=>obtain ⟨c,e,h1,_⟩:=h;exact eT h1
 |row sz es=>
  cases es with
  |nil=>simp [az.live] at hl
  |cons r rs=>
   rcases h with h|⟨c,e,h1,_⟩;· simp at h
   exact eT h1
 |it s pos=>exact eT h
 |mp ag es=>obtain ⟨ms,clock,h1,_⟩:=h;exact eT h1
 |nE _ _=>simp [az.live] at hl
 |dead=>simp [az.live] at hl
 |bB=>simp [az.live] at hl
theorem Fq {G:Nat→Option (List D)} {β:Nat→Nat} {bx:List az} {w:World} {X:Nat→Prop} (cx:cI G β bx w X) (o:Obj):cI G β bx {w with heap:=w.heap.push o} X:=
 cx.step (uF o) (fun i b hb=>.inl ⟨hb,fun hl=>jg w o _ ((cx.box i b hb).eU hl)⟩) cx.inj
def kX (β:Nat→Nat) (i blk:Nat):Nat→Nat:=fun j=>if j=i then blk else β j
theorem bz (β:Nat→Nat) (i blk:Nat):kX β i blk i=blk:=by simp [kX]
theorem c8 (β:Nat→Nat) {i j:Nat} (blk:Nat) (h:j≠i):kX β i blk j=β j:=by simp [kX,h]
theorem eJ {bx:List az} {B:az} {i:Nat} {b:az} (h:bx[i]?=some b):(bx++[B])[i]?=some b:=by
 have:i<bx.length:=by
  rcases Nat.lt_or_ge i bx.length with h'|h';· exact h'
  simp [List.getElem?_eq_none h'] at h
 rw [List.getElem?_append_left this];exact h
theorem bD {bx:List az} {B:az} {i:Nat} {b:az} (h:(bx++[B])[i]?=some b):(bx[i]?=some b∧i<bx.length)∨(i=bx.length∧b=B):=by
 rcases Nat.lt_or_ge i bx.length with h'|h'
 ·rw [List.getElem?_append_left h'] at h;exact .inl ⟨h,h'⟩
 rw [List.getElem?_append_right h'] at h
 by_cases hi:i=bx.length
 ·subst hi;simp at h;exact .inr ⟨rfl,h.symm⟩
 simp [show i-bx.length≠0 by omega] at h
theorem fS {β:Nat→Nat} {bx:List az} {w:World} (o:Obj) (B:az):Ext β bx w (kX β bx.length w.heap.size) (bx++[B]) {w with heap:=w.heap.push o}:=by
 refine ⟨rfl,rfl,rfl,by simp,fun k hk _=>jg w o k hk,fun k c e f hk=>⟨c,?_,rfl⟩,?_,?_⟩
 ·rw [jg w o k (eT hk)];exact hk
 ·rintro i ⟨b,h1,h2⟩
  have:i<bx.length:=by
   rcases Nat.lt_or_ge i bx.length with h'|h';· exact h'
   simp [List.getElem?_eq_none h'] at h1
  exact ⟨c8 _ _ (by omega),b,eJ h1,h2⟩
 intro i b h1 h2
 rcases bD h1 with ⟨h3,h4⟩|⟨rfl,rfl⟩
 ·exact .inr ⟨i,b,h3,h2,(c8 _ _ (by omega)).symm⟩
 exact .inl (by rw [bz];exact Nat.le_refl _)
theorem kG {G:Nat→Option (List D)} {β:Nat→Nat} {bx:List az} {w:World} {X:Nat→Prop} (cx:cI G β bx w X) (o:Obj) (B:az)
 (hB:dj (kX β bx.length w.heap.size) (bx++[B]) {w with heap:=w.heap.push o} (bt (kX β bx.length w.heap.size) (bx++[B]) {w with heap:=w.heap.push o} X) B w.heap.size):
 cI G (kX β bx.length w.heap.size) (bx++[B]) {w with heap:=w.heap.push o} X:=by
 refine cx.step (fS o B) ?_ ?_
 ·intro i b hb
  rcases bD hb with ⟨h3,h4⟩|⟨rfl,rfl⟩
  ·exact .inl ⟨h3,fun hl=>jg w o _ ((cx.box i b h3).eU hl)⟩
  exact .inr (by rw [bz];exact hB)
 intro i j bi bj h1 h2 l1 l2 he
 rcases bD h1 with ⟨h3,h4⟩|⟨rfl,rfl⟩<;>rcases bD h2 with ⟨h5,h6⟩|⟨rfl,rfl⟩
 ·rw [c8 _ _ (by omega),c8 _ _ (by omega)] at he
  exact cx.inj i j bi bj h3 h5 l1 l2 he
 ·rw [c8 _ _ (by omega),bz] at he
  have:=(cx.box i bi h3).eU l1;omega
 ·rw [bz,c8 _ _ (by omega)] at he
  have:=(cx.box j bj h5).eU l2;omega
 rfl
end Dem
end
section
open Go
namespace Dem
structure kw (P:Program) (T:Nat→Option TI):Prop where
 ti:∀t ti,T t=some ti→qb P t=some ti
 fields:∀t ti fs,T t=some ti→ti.kd=.struct fs→∀f∈fs,∃tf,T f.2=some tf
 deep:8≤P.depth
theorem aJ {P:Program} {t:Nat} {ti:TI} (h:qb P t=some ti):
 ∃i d,P.info? t=some i∧P.underlying t=some d∧ti.size=i.size∧ti.bytes=i.bytes∧ti.kd=cW d∧ti.zero=(match i.zero with|some z=>Sg z|none=>.any):=by
 unfold qb at h
 split at h
 ·rename_i i d h1 h2
  simp at h;subst h
  exact ⟨i,d,h1,h2,rfl,rfl,rfl,rfl⟩
 simp at h
theorem MF {P:Program} {t:Nat} {ti:TI} (h:qb P t=some ti) {nm:String} {f:Nat} (hi:ti.inv=some (nm,f)):
 ∃i d,P.info? t=some i∧P.underlying t=some d∧(∀e,d≠.pointer e)∧∃m,i.methods.find? (fun m=>m.name==nm)=some m∧m.path.toList=[]∧m.func=some (f,false):=by
 unfold qb at h
 split at h
 ·rename_i i d h1 h2
  simp only [osI] at h;subst h
  simp only at hi
  cases hp:(cW d).plain with
  |false=>simp [hp] at hi
  |true=>
  simp only [hp,cond_true] at hi
  refine ⟨i,d,h1,h2,fun e he=>by subst he;simp [cW,Kd.plain] at hp,?_⟩
  unfold Uu at hi
  obtain ⟨Xt,hn,hi⟩:=List.exists_of_findSome?_eq_some hi
  split at hi
  ·rename_i a b path g hm
   cases he:path.toList.isEmpty with
   |false=>simp [he] at hi
   |true=>
   simp only [he,cond_true,osI,Prod.mk.injEq] at hi
   obtain ⟨rfl,rfl⟩:=hi
   exact ⟨_,by rw [←Array.find?_toList];exact hm,by simpa using he,rfl⟩
  cases hi
 simp at h
theorem Sl {P:Program} {t:Nat} {ti:TI} (h:qb P t=some ti) {d:TypeDesc} (hd:P.underlying t=some d):ti.eq=OL P t d:=by
 unfold qb at h
 split at h
 ·rename_i i d' h1 h2
  rw [hd] at h2
  simp at h;subst h
  simp only [osI] at h2;subst h2;rfl
 simp at h
section
variable {P:Program} {w:World} {t:Nat}
theorem aV {d:TypeDesc} (h:P.underlying t=some d):(underlying t).run P w=.ok d w:=by
 simp [underlying,program,Sem.run,h,Bind.bind,Sem.bind,Pure.pure]
theorem lQ {i:TypeInfo} (h:P.info? t=some i):(typeInfo t).run P w=.ok i w:=by
 simp [typeInfo,program,Sem.run,h,Bind.bind,Sem.bind,Pure.pure]
theorem bU {i:TypeInfo} (h:P.info? t=some i):(Go.sizeOf t).run P w=.ok i.size w:=by
 simp [Go.sizeOf,lQ h]
theorem gC {i:TypeInfo} {z:Value} (h:P.info? t=some i) (hz:i.zero=some z):(zeroValue t).run P w=.ok z w:=by
 simp [zeroValue,lQ h,hz]
theorem CF {d:TypeDesc} (h:P.underlying t=some d):(isAgg t).run P w=.ok (cW d).isAgg w:=by
 simp [isAgg,aV h]
 cases d<;>simp [cW,Kd.isAgg]
theorem run_load {a:Addr} {v:Value} (h:w.cell? a=some v):(load a).run P w=.ok v w:=by
 simp [load,Sem.run,h]
end
theorem fG (blk off n:Nat):(⟨blk,off,none⟩:Addr).add n=⟨blk,off+n,none⟩:=by
 unfold Addr.add;split
 ·simp_all
 rfl
theorem run_loadCellsFrom {P:Program} {w:World} {blk off:Nat}:∀(vs:List Value) (i:Nat) (acc:Array Value),(∀j v,vs[j]?=some v→w.cell? ⟨blk,off+i+j,none⟩=some v)→
 (loadCellsFrom ⟨blk,off,none⟩ i vs.length acc).run P w=.ok (acc++vs.toArray) w
 |[],i,acc,_=>by simp [loadCellsFrom]
 |v::vs,i,acc,h=>by
  have h0:=h 0 v rfl
  simp only [List.length_cons,loadCellsFrom,fG,Sem.run_bind]
  rw [run_load (v:=v) (by simpa using h0)]
  simp only [Result.andThen_ok]
  rw [run_loadCellsFrom vs (i+1) (acc.push v) (fun j u hj=>by have:=h (j+1) u (by simpa using hj);rwa [show off+i+(j+1)=off+(i+1)+j by omega] at this)]
  simp
theorem run_loadCells {P:Program} {w:World} {blk off:Nat} (vs:List Value) (h:∀j v,vs[j]?=some v→w.cell? ⟨blk,off+j,none⟩=some v):
 (loadCells ⟨blk,off,none⟩ vs.length).run P w=.ok vs.toArray w:=by
 have:=run_loadCellsFrom (P:=P) vs 0 #[] (w:=w) (blk:=blk) (off:=off) (by simpa using h)
 simpa [loadCells] using this
def dB (G:Nat→Option (List D)) (β:Nat→Nat) (bx:List az) (w:World) (X:Nat→Prop) (r:Result Next) (v:AV) (aR:List az):Prop:=
 ∃β' w',Ext β bx w β' aR w'∧cI G β' aR w' X∧
  ((∃u,r=.ok (.value u) w'∧aj β' aR w' (bt β' aR w' X) v u)∨(r=.ok .skip w'∧v=.any))
section
variable {P:Program} {T:Nat→Option TI} {G:Nat→Option (List D)} {β:Nat→Nat} {bx:List az} {w:World} {X:Nat→Prop}
theorem dB.pure {r:Result Next} {v:AV} {u:Value} (cx:cI G β bx w X) (hr:r=.ok (.value u) w) (h:aj β bx w (bt β bx w X) v u):dB G β bx w X r v bx:=
 ⟨β,w,Ext.refl _ _ _,cx,.inl ⟨u,hr,h⟩⟩
theorem rW {ok:Nat→Prop} {blk:Nat}:∀(ds:List D) (off:Nat),bf w ok blk ds off→∃vs,vs.length=ds.length∧(∀j v,vs[j]?=some v→w.cell? ⟨blk,off+j,none⟩=some v)∧
 ak β bx w ok (ds.map .d) vs
 |[],off,_=>⟨[],rfl,by simp,by simp [ak]⟩
 |x::xs,off,h=>by
  simp only [bf] at h
  obtain ⟨⟨u,h1,h2⟩,h3⟩:=h
  obtain ⟨vs,g1,g2,g3⟩:=rW xs (off+1) h3
  refine ⟨u::vs,by simp [g1],?_,?_⟩
  ·intro j v hj
   cases j with
   |zero=>simp at hj;subst hj;simpa using h1
   |succ j=>have:=g2 j v (by simpa using hj);rwa [show off+(j+1)=off+1+j by omega]
  simp only [List.map_cons,ak,aj];exact ⟨u,vs,rfl,h2,g3⟩
theorem bf.drop {ok:Nat→Prop} {blk:Nat}:∀(n:Nat) (ds:List D) (off:Nat),bf w ok blk ds off→bf w ok blk (ds.drop n) (off+n)
 |0,ds,off,h=>by simpa using h
 |n+1,[],off,h=>by simp [bf]
 |n+1,x::xs,off,h=>by
  simp only [bf] at h
  have:=bf.drop n xs (off+1) h.2
  simpa [show off+(n+1)=off+1+n by omega] using this
theorem bf.take {ok:Nat→Prop} {blk:Nat}:∀(n:Nat) (ds:List D) (off:Nat),bf w ok blk ds off→bf w ok blk (ds.take n) off
 |0,ds,off,h=>by simp [bf]
 |n+1,[],off,h=>by simp [bf]
 |n+1,x::xs,off,h=>by
  simp only [bf] at h
  simp only [List.take_succ_cons,bf]
  exact ⟨h.1,bf.take n xs _ h.2⟩
theorem ax.get {ok:Nat→Prop} {blk sz:Nat}:∀(i:Nat) (es:List (List D)) (off:Nat),ax w ok blk sz es off→i<es.length→(es.getD i []).length=sz∧bf w ok blk (es.getD i []) (off+i*sz)
 |_,[],_,_,hi=>by simp at hi
 |0,r::rs,off,h,_=>by simp only [ax] at h;simpa using ⟨h.1,h.2.1⟩
 |i+1,r::rs,off,h,hi=>by
  simp only [ax] at h
  have:=ax.get i rs (off+sz) h.2.2 (by simpa using hi)
  simpa [Nat.add_mul,show off+sz+i*sz=off+(i*sz+sz) by omega] using this
theorem tC {ti:TI} {t:Nat} (ht:qb P t=some ti) {cs:List AV} {v:AV} {vs:List Value} {blk off:Nat} {ok:Nat→Prop}
 (hs:cL ti.kd.isAgg ti.size cs=some v) (hr:ak β bx w ok cs vs) (hc:∀j v,vs[j]?=some v→w.cell? ⟨blk,off+j,none⟩=some v):
 ∃u,(loadVar t ⟨blk,off,none⟩).run P w=.ok u w∧aj β bx w ok v u:=by
 obtain ⟨i,d,h1,h2,h3,h4,h5,h6⟩:=aJ ht
 unfold cL at hs
 simp only [loadVar,Sem.run_bind,CF h2,Result.andThen_ok,h5] at hs ⊢
 cases hk:(cW d).isAgg with
 |true=>
  simp only [hk,cond_true] at hs
  cases hle:Nat.ble ti.size cs.length with
  |false=>simp [hle] at hs
  |true=>
   simp only [hle,cond_true,osI] at hs
   subst hs
   have hlen:=ak.length hr
   have hle':ti.size≤cs.length:=Nat.le_of_ble_eq_true hle
   have:=run_loadCells (P:=P) (w:=w) (blk:=blk) (off:=off) (vs.take ti.size) (fun j v hj=>by
    rw [List.getElem?_take] at hj
    split at hj
    ·exact hc j v hj
    simp at hj)
   rw [List.length_take,Nat.min_eq_left (by omega)] at this
   simp only [if_true,Sem.run_bind,bU h1,Result.andThen_ok,←h3,this]
   exact ⟨_,rfl,by simp only [aj];exact ⟨_,rfl,ak.take _ hr⟩⟩
 |false=>
  simp only [hk,cond_false] at hs
  cases cs with
  |nil=>simp at hs
  |cons c cs=>
   simp at hs;subst hs
   simp only [ak] at hr
   obtain ⟨u,us,rfl,g1,_⟩:=hr
   have:=hc 0 u rfl
   simp only [Bool.false_eq_true,if_false]
   exact ⟨u,run_load (by simpa using this),g1⟩
theorem zP (hT:kw P T) (cx:cI G β bx w X) {t:Nat} {ti:TI} (ht:T t=some ti) {a:AV} {u:Value} (ha:aj β bx w (bt β bx w X) a u)
 {c:Prop} {v:AV} {b:Option (List az)} (hr:pU ti a bx=some ⟨c,v,b⟩) (hc:c):
 b=none∧∃x,(Instr.loadAt t u).run P w=.ok x w∧aj β bx w (bt β bx w X) v x:=by
 have ht':=hT.ti t ti ht
 unfold pU at hr
 split at hr
 ·rename_i b' off
  simp only [aj] at ha
  obtain ⟨rfl,hb⟩:=ha
  split at hr
  ·rename_i cs rX
   split at hr
   ·rename_i v' hs
    simp only [R.pure,osI,R.mk.injEq] at hr
    obtain ⟨_,rfl,rfl⟩:=hr
    obtain ⟨ca,e,h1,h2⟩:=cx.box _ _ rX
    have h3:=ak.drop off h2
    obtain ⟨x,g1,g2⟩:=tC (P:=P) (w:=w) (blk:=β b') (off:=off) ht' hs h3 (fun j v hj=>by
     rw [List.getElem?_drop] at hj
     simp only [World.cell?,h1]
     simpa using hj)
    exact ⟨rfl,x,by simpa [Instr.loadAt,Instr.sureAddr] using g1,g2⟩
   simp at hr
  simp at hr
 ·rename_i ds
  simp only [aj] at ha
  obtain ⟨blk,off,rfl,hb,hrow⟩:=ha
  split at hr
  ·rename_i v' hs
   simp only [R.pure,osI,R.mk.injEq] at hr
   obtain ⟨_,rfl,rfl⟩:=hr
   obtain ⟨vs,g1,g2,g3⟩:=rW (β:=β) (bx:=bx) ds off hrow
   obtain ⟨x,k1,k2⟩:=tC (P:=P) (w:=w) (blk:=blk) (off:=off) ht' hs g3 g2
   exact ⟨rfl,x,by simpa [Instr.loadAt,Instr.sureAddr] using k1,k2⟩
  simp at hr
 ·rename_i b' sz i j
  simp only [aj] at ha
  obtain ⟨rfl,hb⟩:=ha
  have main:∀(s:Nat) (es:List (List D)),i<es.length→s=sz→ax w (bt β bx w X) (β b') s es 0→∀v',cL ti.kd.isAgg ti.size (List.map AV.d ((es.getD i []).drop j))=some v'→
   ∃x,(Instr.loadAt t (.pointer (some ⟨β b',i*sz+j,none⟩))).run P w=.ok x w∧aj β bx w (bt β bx w X) v' x:=by
   intro s es hi hs hrows v' hsp
   obtain ⟨_,hrow⟩:=ax.get i es 0 hrows hi
   have hrow:=bf.drop j _ _ hrow
   obtain ⟨vs,g1,g2,g3⟩:=rW (β:=β) (bx:=bx) _ _ hrow
   subst hs
   obtain ⟨x,k1,k2⟩:=tC (P:=P) (w:=w) (blk:=β b') (off:=0+i*s+j) ht' hsp g3 g2
   exact ⟨x,by simpa [Instr.loadAt,Instr.sureAddr] using k1,k2⟩
  split at hr
  ·rename_i s es rX
   split at hr
   ·rename_i v' hsp
    simp only [osI,R.mk.injEq] at hr
    obtain ⟨rfl,rfl,rfl⟩:=hr
    rcases cx.box _ _ rX with h|⟨ca,e,h1,h2⟩
    ·subst h;simp at hc
    exact ⟨rfl,main s es hc.2 hc.1 h2 _ hsp⟩
   simp at hr
  ·rename_i s es rX
   split at hr
   ·rename_i v' hsp
    simp only [osI,R.mk.injEq] at hr
    obtain ⟨rfl,rfl,rfl⟩:=hr
    rcases cx.box _ _ rX with h|⟨h1,h2⟩
    ·subst h;simp at hc
    exact ⟨rfl,main s es hc.2 hc.1 h2 _ hsp⟩
   simp at hr
  simp at hr
 simp at hr
def IZ:Value→Prop
 |.agg _=>False
 |.tuple _=>False
 |_=>True
theorem aK.sc {ok:Nat→Prop} {x:D} {v:Value} (h:aK w ok x v):IZ v:=by
 cases x<;>simp only [aK] at h
 ·subst h;trivial
 ·subst h;trivial
 ·subst h;trivial
 ·obtain ⟨_,_,rfl,_⟩:=h;trivial
 ·subst h;trivial
 obtain ⟨_,_,_,rfl,_⟩:=h;trivial
theorem aj.sc {ok:Nat→Prop} {x:AV} {v:Value} (hx:x.sc=true) (h:aj β bx w ok x v):IZ v:=by
 cases x<;>simp only [AV.sc,Bool.false_eq_true] at hx<;>simp only [aj] at h
 ·exact aK.sc h
 ·rename_i c;subst h;cases c<;>trivial
 ·obtain ⟨rfl,_⟩:=h;trivial
 ·obtain ⟨rfl,_⟩:=h;trivial
 ·obtain ⟨_,_,rfl,_⟩:=h;trivial
 ·obtain ⟨_,h|h⟩:=h
  ·obtain ⟨_,_,rfl⟩:=h;trivial
  obtain ⟨_,_,_,_,_,rfl,_⟩:=h;trivial
 ·obtain ⟨_,rfl,_⟩:=h;trivial
 ·obtain ⟨vs,rfl,_⟩:=h;obtain ⟨a,b,e⟩:=Fp _ vs;rw [e];trivial
 ·obtain ⟨_,rfl,_⟩:=h;trivial
 obtain ⟨rfl,_⟩:=h;trivial
theorem ak.sc {ok:Nat→Prop}:∀{xs:List AV} {vs:List Value},uz xs=true→ak β bx w ok xs vs→∀v∈vs,IZ v
 |[],vs,_,h=>by simp only [ak] at h;subst h;simp
 |x::xs,vs,hx,h=>by
  simp only [ak] at h
  obtain ⟨u,us,rfl,g1,g2⟩:=h
  cases hs:x.sc with
  |false=>simp [uz,hs] at hx
  |true=>
   simp only [uz,hs,cond_true] at hx
   intro v hv
   rcases List.mem_cons.1 hv with rfl|hv
   ·exact aj.sc hs g1
   exact ak.sc hx g2 v hv
theorem nI {ok:Nat→Prop} {x:AV} {v:Value} {cs:List AV} (hx:x.cells?=some cs) (h:aj β bx w ok x v):
 ∃vs,v.cells=⟨vs⟩∧ak β bx w ok cs vs∧(∀u∈vs,IZ u):=by
 have one:∀(y:AV) (u:Value),y.sc=true→aj β bx w ok y u→∃vs,u.cells=⟨vs⟩∧ak β bx w ok [y] vs∧(∀u∈vs,IZ u):=by
  intro y u hy hu
  have:=aj.sc hy hu
  refine ⟨[u],?_,by simp only [ak];exact ⟨u,[],rfl,hu,rfl⟩,by simpa using this⟩
  cases u<;>simp_all [Value.cells,IZ]
 cases x with
 |any=>simp [AV.cells?] at hx
 |vw _ _ _ _ _ _=>simp [AV.cells?] at hx
 |eE _=>simp [AV.cells?] at hx
 |cond _ _=>simp [AV.cells?] at hx
 |agg as=>
  simp only [AV.cells?] at hx
  cases ha:uz as with
  |false=>simp [ha] at hx
  |true=>
   simp only [ha,cond_true,osI] at hx
   subst hx
   simp only [aj] at h
   obtain ⟨vs,rfl,g⟩:=h
   exact ⟨vs,rfl,g,ak.sc ha g⟩
 |d x=>simp only [AV.cells?,osI] at hx;subst hx;exact one _ _ rfl h
 |k x=>simp only [AV.cells?,osI] at hx;subst hx;exact one _ _ rfl h
 |ptr _ _=>simp only [AV.cells?,osI] at hx;subst hx;exact one _ _ rfl h
 |rp _ _ _ _=>simp only [AV.cells?,osI] at hx;subst hx;exact one _ _ rfl h
 |ep _=>simp only [AV.cells?,osI] at hx;subst hx;exact one _ _ rfl h
 |ow _ _ _=>simp only [AV.cells?,osI] at hx;subst hx;exact one _ _ rfl h
 |cl _=>simp only [AV.cells?,osI] at hx;subst hx;exact one _ _ rfl h
 |fn _ _=>simp only [AV.cells?,osI] at hx;subst hx;exact one _ _ rfl h
 |sI _ _=>simp only [AV.cells?,osI] at hx;subst hx;exact one _ _ rfl h
 |zG _=>simp only [AV.cells?,osI] at hx;subst hx;exact one _ _ rfl h
def eB (w:World) (blk:Nat) (o:Obj):World:={w with heap:=w.heap.setIfInBounds blk o}
theorem zQ (w:World) (blk:Nat) (o:Obj) (k:Nat):(eB w blk o).heap[k]?=if k=blk then (w.heap[k]?).map (fun _=>o) else w.heap[k]?:=by
 show (w.heap.setIfInBounds blk o)[k]?=_
 rw [Array.getElem?_setIfInBounds]
 by_cases h:blk=k
 ·subst h
  by_cases hk:blk<w.heap.size
  ·simp [hk]
  simp [hk]
 simp [h,Ne.symm h]
theorem dW {w:World} {blk:Nat} {o o':Obj} (h:w.heap[blk]?=some o'):(eB w blk o).heap[blk]?=some o:=by rw [zQ];simp [h]
theorem iJ {w:World} {blk k:Nat} {o:Obj} (h:k≠blk):(eB w blk o).heap[k]?=w.heap[k]?:=by rw [zQ];simp [h]
theorem DW (w:World) (blk:Nat) (o o':Obj):eB (eB w blk o) blk o'=eB w blk o':=by
 unfold eB
 simp
theorem Fs {w:World} {blk off:Nat} {c:Array Value} {e:TypeId} {f:Nat×Nat} (h:w.heap[blk]?=some (.cells c e f)) (v:Value):
 w.setCell ⟨blk,off,none⟩ v=eB w blk (.cells (c.setIfInBounds off v) e f):=by
 unfold World.setCell eB
 congr 1
 apply Array.ext_getElem?
 intro i
 rw [Array.getElem?_modify,Array.getElem?_setIfInBounds]
 by_cases hi:blk=i
 ·subst hi
  have hlt:=eT h
  have h':w.heap[blk]=.cells c e f:=by simpa [hlt] using h
  simp [hlt,h']
 simp [hi]
theorem oF:∀(l:List Value) (n:Nat) (v:Value) (vs:List Value),bq l n (v::vs)=bq (l.set n v) (n+1) vs
 |[],n,v,vs=>by cases vs<;>simp [bq]
 |c::cs,0,v,vs=>by
  simp only [bq,List.set_cons_zero]
  cases vs with
  |nil=>cases cs<;>simp [bq]
  |cons u us=>simp [bq]
 |c::cs,n+1,v,vs=>by
  simp only [bq,List.set_cons_succ]
  rw [oF cs n v vs]
  cases vs with
  |nil=>simp [bq]
  |cons u us=>simp [bq]
theorem I0 {w:World} {blk off:Nat} {c:Array Value} {e:TypeId} (h:w.heap[blk]?=some (.cells c e (0,0))) (ho:off<c.size) {v:Value} (hv:IZ v):
 (store ⟨blk,off,none⟩ v).run P w=.ok () (eB w blk (.cells (c.setIfInBounds off v) e (0,0))):=by
 have h1:w.cell? ⟨blk,off,none⟩=some c[off]:=by simp [World.cell?,h,ho]
 have h2:w.frozen? ⟨blk,off,none⟩=false:=by simp [World.frozen?,h]
 rw [←Fs h]
 cases v<;>simp [IZ] at hv<;>simp [store,Sem.run,h1,h2]
theorem jk {blk off:Nat} {e:TypeId}:∀(vs:List Value) (i:Nat) (w:World) (c:Array Value),w.heap[blk]?=some (.cells c e (0,0))→(∀v∈vs,IZ v)→off+i+vs.length≤c.size→
 (storeCells ⟨blk,off,none⟩ vs i).run P w=.ok () (eB w blk (.cells ⟨bq c.toList (off+i) vs⟩ e (0,0)))
 |[],i,w,c,h,_,_=>by
  have:eB w blk (.cells c e (0,0))=w:=by
   have:w.heap.setIfInBounds blk (.cells c e (0,0))=w.heap:=by
    apply Array.ext_getElem?
    intro k
    rw [Array.getElem?_setIfInBounds]
    split
    ·rename_i hk;subst hk;split<;>simp_all
    rfl
   simp [eB,this]
  cases hc:c.toList with
  |nil=>
   simp [storeCells,bq];have vW:c=#[]:=by simpa using hc
   subst vW;exact this.symm
  |cons x xs=>simp [storeCells,bq];rw [←hc];exact this.symm
 |v::vs,i,w,c,h,hs,hl=>by
  simp only [List.length_cons] at hl
  simp only [storeCells,Sem.run_bind,fG]
  rw [I0 h (by omega) (hs v (by simp))]
  simp only [Result.andThen_ok]
  rw [jk vs (i+1) _ (c.setIfInBounds (off+i) v) (dW h) (fun u hu=>hs u (by simp [hu])) (by simp;omega),DW,oF]
  congr 4
  simp [show off+(i+1)=off+i+1 by omega]
theorem uG {t:Nat} {ti:TI} (ht:qb P t=some ti) {blk off:Nat} {w:World} {c:Array Value} {e:TypeId} (h:w.heap[blk]?=some (.cells c e (0,0))) {v:Value} {vs:List Value} (hv:v.cells=⟨vs⟩)
 (hs:∀u∈vs,IZ u) (hn:vs.length=ti.size) (hl:off+vs.length≤c.size):
 (storeVar t ⟨blk,off,none⟩ v).run P w=.ok () (eB w blk (.cells ⟨bq c.toList off vs⟩ e (0,0))):=by
 obtain ⟨i,d,h1,h2,h3,h4,h5,h6⟩:=aJ ht
 have:=jk (P:=P) (off:=off) vs 0 w c h hs (by simpa using hl)
 simp only [Nat.add_zero] at this
 simp [storeVar,hv,bU h1,hn,h3,this]
theorem dm:∀(l:List Value) (n:Nat) (vs:List Value),(bq l n vs).length=l.length
 |l,n,[]=>by cases l<;>simp [bq]
 |[],n,v::vs=>by simp [bq]
 |c::cs,0,v::vs=>by simp [bq,dm cs 0 vs]
 |c::cs,n+1,v::vs=>by simp [bq,dm cs n (v::vs)]
end
end Dem
end
section
open Go
namespace Dem
section
variable {P:Program} {T:Nat→Option TI} {G:Nat→Option (List D)} {β:Nat→Nat} {bx:List az} {w:World} {X:Nat→Prop}
theorem aL {b i:Nat} {B B':az} (h:(bx.set b B')[i]?=some B):(i=b∧B=B'∧b<bx.length)∨(i≠b∧bx[i]?=some B):=by
 rw [List.getElem?_set] at h
 split at h
 ·rename_i xJ;subst xJ
  split at h
  ·simp at h;exact .inl ⟨rfl,h.symm,by assumption⟩
  simp at h
 rename_i xJ;exact .inr ⟨fun e=>xJ e.symm,h⟩
theorem jv {i:Nat} {B:az} (h:bx[i]?=some B):i<bx.length:=by
 rcases Nat.lt_or_ge i bx.length with h'|h'
 ·exact h'
 simp [List.getElem?_eq_none h'] at h
theorem jw {b:Nat} {B B':az} (h:bx[b]?=some B):(bx.set b B')[b]?=some B':=by
 have:=jv h
 simp [this]
theorem iC {b i:Nat} {B':az} (hB:B'.born=true) (h:cg bx i):cg (bx.set b B') i:=by
 obtain ⟨B,h1,h2⟩:=h
 by_cases hi:i=b
 ·subst hi;exact ⟨B',jw h1,hB⟩
 exact ⟨B,by rw [List.getElem?_set_ne (Ne.symm hi)];exact h1,h2⟩
theorem lR {b:Nat} {B B':az} (hb:bx[b]?=some B) (hl:B.live=true) {c c':Array Value} {e:TypeId} (hh:w.heap[β b]?=some (.cells c e (0,0))) (hc:c'.size=c.size) (Sm:B'.born=true):
 Ext β bx w β (bx.set b B') (eB w (β b) (.cells c' e (0,0))):=by
 refine ⟨rfl,rfl,rfl,by simp [eB],?_,?_,fun i hi=>⟨rfl,iC Sm hi⟩,?_⟩
 ·intro k hk hl'
  exact iJ (fun e=>hl' b B hb hl e.symm)
 ·intro k c1 e1 f1 hk
  by_cases h:k=β b
  ·subst h
   rw [hh] at hk
   simp only [osI,Obj.cells.injEq] at hk
   obtain ⟨rfl,rfl,rfl⟩:=hk
   exact ⟨c',dW hh,hc⟩
  exact ⟨c1,by rw [iJ h];exact hk,rfl⟩
 intro i b' h1 h2
 rcases aL h1 with ⟨rfl,_,_⟩|⟨_,h3⟩
 ·exact .inr ⟨i,B,hb,hl,rfl⟩
 exact .inr ⟨i,b',h3,h2,rfl⟩
theorem tD (cx:cI G β bx w X) {b:Nat} {B B':az} (hb:bx[b]?=some B) (hl:B.live=true) {c c':Array Value} {e:TypeId} (hh:w.heap[β b]?=some (.cells c e (0,0))) (hc:c'.size=c.size) (Sm:B'.born=true)
 (hok:dj β (bx.set b B') (eB w (β b) (.cells c' e (0,0))) (bt β (bx.set b B') (eB w (β b) (.cells c' e (0,0))) X) B' (β b)):
 cI G β (bx.set b B') (eB w (β b) (.cells c' e (0,0))) X:=by
 refine cx.step (lR hb hl hh hc Sm) ?_ ?_
 ·intro i b' h1
  rcases aL h1 with ⟨rfl,rfl,_⟩|⟨h2,h3⟩
  ·exact .inr hok
  refine .inl ⟨h3,fun hl'=>iJ (fun e=>h2 (cx.inj i b b' B h3 hb hl' hl e))⟩
 intro i j bi bj h1 h2 l1 l2 he
 rcases aL h1 with ⟨rfl,rfl,_⟩|⟨h3,h4⟩<;>rcases aL h2 with ⟨rfl,rfl,_⟩|⟨h5,h6⟩
 ·rfl
 ·exact cx.inj _ j B bj hb h6 hl l2 he
 ·exact cx.inj i _ bi B h4 hb l1 hl he
 exact cx.inj i j bi bj h4 h6 l1 l2 he
theorem iD {b:Nat} {B B':az} (_hb:bx[b]?=some B) (Sm:B'.live=false) (dF:B'.born=true):Ext β bx w β (bx.set b B') w:=by
 refine ⟨rfl,rfl,rfl,Nat.le_refl _,fun _ _ _=>rfl,fun k c e f h=>⟨c,h,rfl⟩,fun i hi=>⟨rfl,iC dF hi⟩,?_⟩
 intro i b' h1 h2
 rcases aL h1 with ⟨rfl,rfl,_⟩|⟨_,h3⟩
 ·rw [Sm] at h2;simp at h2
 exact .inr ⟨i,b',h3,h2,rfl⟩
theorem jY (cx:cI G β bx w X) {b:Nat} {B B':az} (hb:bx[b]?=some B) (Sm:B'.live=false) (dF:B'.born=true)
 (hok:dj β (bx.set b B') w (bt β (bx.set b B') w X) B' (β b)):cI G β (bx.set b B') w X:=by
 refine cx.step (iD hb Sm dF) ?_ ?_
 ·intro i b' h1
  rcases aL h1 with ⟨rfl,rfl,_⟩|⟨h2,h3⟩
  ·exact .inr hok
  exact .inl ⟨h3,fun _=>rfl⟩
 intro i j bi bj h1 h2 l1 l2 he
 rcases aL h1 with ⟨rfl,rfl,_⟩|⟨h3,h4⟩
 ·rw [Sm] at l1;simp at l1
 rcases aL h2 with ⟨rfl,rfl,_⟩|⟨h5,h6⟩
 ·rw [Sm] at l2;simp at l2
 exact cx.inj i j bi bj h4 h6 l1 l2 he
theorem Lo (cx:cI G β bx w X) {b:Nat} {sz:Nat} {es:List (List D)} (hb:bx[b]?=some (.row sz es)):
 Ext β bx w β (bx.set b (.nE sz es)) w∧cI G β (bx.set b (.nE sz es)) w X∧(es=[]∨bt β (bx.set b (.nE sz es)) w X (β b)∧ax w (bt β (bx.set b (.nE sz es)) w X) (β b) sz es 0):=by
 have ex:Ext β bx w β (bx.set b (.nE sz es)) w:=iD hb rfl rfl
 have key:es=[]∨bt β (bx.set b (.nE sz es)) w X (β b)∧ax w (bt β (bx.set b (.nE sz es)) w X) (β b) sz es 0:=by
  rcases cx.box b _ hb with h|⟨c,e,h1,h2⟩
  ·exact .inl h
  cases es with
  |nil=>exact .inl rfl
  |cons r rs=>
   refine .inr ⟨⟨eT h1,cx.apart b _ hb rfl,?_⟩,ax.mono (ex.keeps X) _ _ (fun _=>rfl) _ _ h2⟩
   intro i b' h3 h4 he
   rcases aL h3 with ⟨rfl,rfl,_⟩|⟨h5,h6⟩
   ·simp [az.live] at h4
   exact h5 (cx.inj i b b' _ h6 hb h4 rfl he)
 exact ⟨ex,jY cx hb rfl rfl key,key⟩
theorem ax.lens {ok:Nat→Prop} {blk sz:Nat}:∀(es:List (List D)) (off:Nat),ax w ok blk sz es off→∀r∈es,r.length=sz
 |[],_,_=>by simp
 |r::rs,off,h=>by
  simp only [ax] at h
  intro x hx
  rcases List.mem_cons.1 hx with rfl|hx
  ·exact h.1
  exact ax.lens rs _ h.2.2 x hx
theorem jZ {ok:Nat→Prop} {blk sz:Nat}:∀(es:List (List D)) (off:Nat),ax w ok blk sz es off→∃vs,vs.length=es.length*sz∧(∀j v,vs[j]?=some v→w.cell? ⟨blk,off+j,none⟩=some v)∧
 ak β bx w ok (es.flatten.map .d) vs
 |[],off,_=>⟨[],by simp,by simp,by simp [ak]⟩
 |r::rs,off,h=>by
  simp only [ax] at h
  obtain ⟨h1,h2,h3⟩:=h
  obtain ⟨vs,g1,g2,g3⟩:=rW (β:=β) (bx:=bx) r off h2
  obtain ⟨us,k1,k2,k3⟩:=jZ rs (off+sz) h3
  refine ⟨vs++us,by simp [g1,k1,h1,Nat.add_mul];omega,?_,by simpa using ak.append g3 k3⟩
  intro j v hj
  rcases Nat.lt_or_ge j vs.length with hlt|hge
  ·rw [List.getElem?_append_left hlt] at hj;exact g2 j v hj
  rw [List.getElem?_append_right hge] at hj
  have:=k2 _ v hj
  rwa [show off+sz+(j-vs.length)=off+j by omega] at this
theorem DX {ok:Nat→Prop} {blk:Nat}:∀(ds:List D) (off:Nat) (vs:List Value),(∀j v,vs[j]?=some v→w.cell? ⟨blk,off+j,none⟩=some v)→ak β bx w ok (ds.map .d) vs→bf w ok blk ds off
 |[],_,_,_,_=>by simp [bf]
 |x::xs,off,vs,hc,h=>by
  simp only [List.map_cons,ak,aj] at h
  obtain ⟨u,us,rfl,g1,g2⟩:=h
  simp only [bf]
  refine ⟨⟨u,by simpa using hc 0 u rfl,g1⟩,DX xs (off+1) us (fun j v hj=>?_) g2⟩
  have:=hc (j+1) v (by simpa using hj)
  rwa [show off+(j+1)=off+1+j by omega] at this
theorem mR {ok:Nat→Prop} {blk sz:Nat}:∀(es:List (List D)) (off:Nat) (vs:List Value),(∀r∈es,r.length=sz)→(∀j v,vs[j]?=some v→w.cell? ⟨blk,off+j,none⟩=some v)→
 ak β bx w ok (es.flatten.map .d) vs→ax w ok blk sz es off
 |[],_,_,_,_,_=>by simp [ax]
 |r::rs,off,vs,hl,hc,h=>by
  simp only [List.flatten_cons,List.map_append] at h
  have h1:=ak.take r.length h
  have h2:=ak.drop r.length h
  rw [List.take_left' (by simp)] at h1
  rw [List.drop_left' (by simp)] at h2
  have hr:r.length=sz:=hl r (by simp)
  simp only [ax]
  refine ⟨hr,DX r off _ (fun j v hj=>?_) h1,mR rs (off+sz) _ (fun x hx=>hl x (by simp [hx])) (fun j v hj=>?_) h2⟩
  ·rw [List.getElem?_take] at hj
   split at hj
   ·exact hc j v hj
   simp at hj
  rw [List.getElem?_drop] at hj
  have:=hc _ v hj
  rwa [show off+(r.length+j)=off+sz+j by omega] at this
theorem zR {ok:Nat→Prop} {x:AV} {es:List (List D)} {u:Value} (hx:∀b sz n,x≠.ow b sz n) (IN:x.uA=false) (hr:x.rows bx=some es) (h:aj β bx w ok x u):
 ∃base cap,u=.slice base es.length cap∧es.length≤cap∧(es=[]∨∃blk off sz,base=some ⟨blk,off,none⟩∧ok blk∧ax w ok blk sz es off):=by
 cases x with
 |d y=>
  cases y with
  |sl es'=>simp only [AV.rows,osI] at hr;subst hr;simpa [aj,aK] using h
  |_=>simp [AV.rows] at hr
 |cl es'=>
  simp only [AV.rows,osI] at hr;subst hr
  simp only [aj] at h
  obtain ⟨base,rfl,g⟩:=h
  exact ⟨base,_,rfl,Nat.le_refl _,g⟩
 |ow b sz n=>exact absurd rfl (hx b sz n)
 |vw b sz off n c ex=>simp [AV.uA] at IN
 |_=>simp [AV.rows] at hr
theorem ax.OX {ok:Nat→Prop} {blk sz:Nat}:∀(n:Nat) (es:List (List D)) (off:Nat),ax w ok blk sz es off→ax w ok blk sz (es.drop n) (off+n*sz)
 |0,es,off,h=>by simpa using h
 |n+1,[],off,h=>by simp [ax]
 |n+1,r::rs,off,h=>by
  simp only [ax] at h
  have:=ax.OX n rs (off+sz) h.2.2
  simpa [Nat.add_mul,show off+sz+n*sz=off+(n*sz+sz) by omega] using this
theorem ax.Fu {ok:Nat→Prop} {blk sz:Nat}:∀(n:Nat) (es:List (List D)) (off:Nat),ax w ok blk sz es off→ax w ok blk sz (es.take n) off
 |0,es,off,h=>by simp [ax]
 |n+1,[],off,h=>by simp [ax]
 |n+1,r::rs,off,h=>by
  simp only [ax] at h
  simp only [List.take_succ_cons,ax]
  exact ⟨h.1,h.2.1,ax.Fu n rs _ h.2.2⟩
theorem CG {s sz n m:Nat} {α:Type} {x y:α} (h:(bif Nat.beq s sz&&Nat.ble n m then some x else none)=some y):s=sz∧n≤m∧x=y:=by
 cases h1:Nat.beq s sz<;>cases h2:Nat.ble n m<;>simp [h1,h2] at h
 exact ⟨Nat.eq_of_beq_eq_true h1,Nat.le_of_ble_eq_true h2,h⟩
theorem oG {b sz off n c:Nat} {ex:Bool} {Lp:List (List D)} {I1:Nat→Prop} {u:Value} {ok:Nat→Prop} (hn:off+n≤Lp.length) (hrows:Lp=[]∨ax w I1 (β b) sz Lp 0) (h:aj β bx w ok (.vw b sz off n c ex) u):
 ∃base cap,u=.slice base ((Lp.drop off).take n).length cap∧((Lp.drop off).take n).length≤cap∧((Lp.drop off).take n=[]∨base=some ⟨β b,off*sz,none⟩∧ax w I1 (β b) sz ((Lp.drop off).take n) (off*sz)):=by
 simp only [aj] at h
 obtain ⟨_,base,cap,cs,e,f,rfl,h1,h2,h3,h4⟩:=h
 have hlen:((Lp.drop off).take n).length=n:=by simp;omega
 refine ⟨base,cap,by rw [hlen],by rw [hlen];exact h1,?_⟩
 by_cases hn0:n=0
 ·subst hn0;exact .inl (by simp)
 right
 rcases h4 with h4|⟨h4,_⟩
 ·omega
 refine ⟨h4,?_⟩
 rcases hrows with rfl|hrows
 ·simp at hn;omega
 have:=ax.Fu n _ _ (ax.OX off _ _ hrows)
 simpa using this
theorem MG {s sz n m:Nat} {α:Type} {x y:α} (h:(bif Nat.beq s sz&&Nat.beq n m then some x else none)=some y):s=sz∧n=m∧x=y:=by
 cases h1:Nat.beq s sz<;>cases h2:Nat.beq n m<;>simp [h1,h2] at h
 exact ⟨Nat.eq_of_beq_eq_true h1,Nat.eq_of_beq_eq_true h2,h⟩
theorem uH (cx:cI G β bx w X) {b sz n:Nat} {es:List (List D)} {u:Value} (hr:(AV.ow b sz n).rows bx=some es) (h:aj β bx w (bt β bx w X) (.ow b sz n) u):
 n=es.length∧(∃base cap,u=.slice base es.length cap∧es.length≤cap∧(es=[]∧cap=0∨es≠[]∧base=some ⟨β b,0,none⟩∧ax w (bt β bx w X) (β b) sz es 0∧
  ∃c e f,w.heap[β b]?=some (.cells c e f)∧cap*sz≤c.size)):=by
 have main:∀es',n=es'.length→(es'=[]∨ax w (bt β bx w X) (β b) sz es' 0)→∃base cap,u=.slice base es'.length cap∧es'.length≤cap∧(es'=[]∧cap=0∨es'≠[]∧base=some ⟨β b,0,none⟩∧ax w (bt β bx w X) (β b) sz es' 0∧
  ∃c e f,w.heap[β b]?=some (.cells c e f)∧cap*sz≤c.size):=by
  intro es' hn hrows
  simp only [aj] at h
  obtain ⟨_,⟨h0,base,rfl⟩|⟨h0,cap,c,e,f,rfl,h1,h2,h3⟩⟩:=h
  ·have:es'=[]:=by simpa using (hn.symm.trans h0)
   subst this
   exact ⟨base,0,by simp,by simp,.inl ⟨rfl,rfl⟩⟩
  rcases hrows with rfl|hrows
  ·exact absurd (by simpa using hn) h0
  exact ⟨_,cap,by rw [hn],by omega,.inr ⟨by rintro rfl;exact h0 (by simpa using hn),rfl,hrows,c,e,f,h2,h3⟩⟩
 simp only [AV.rows] at hr
 split at hr
 ·rename_i s es' hb
  obtain ⟨rfl,rfl,rfl⟩:=MG hr
  exact ⟨rfl,main _ rfl ((cx.box b _ hb).imp id fun ⟨_,_,_,g⟩=>g)⟩
 ·rename_i s es' hb
  obtain ⟨rfl,rfl,rfl⟩:=MG hr
  exact ⟨rfl,main _ rfl ((cx.box b _ hb).imp id fun ⟨_,g⟩=>g)⟩
 simp at hr
theorem Ve {b sz n:Nat} {y:D} (h:(AV.ow b sz n).sJ bx=some y):∃es,y=.sl es∧(AV.ow b sz n).rows bx=some es:=by
 simp only [AV.sJ] at h
 simp only [AV.rows]
 split at h
 ·rename_i s es hb
  obtain ⟨rfl,rfl,rfl⟩:=MG h
  exact ⟨es,rfl,by simp [hb]⟩
 ·rename_i s es hb
  obtain ⟨rfl,rfl,rfl⟩:=MG h
  exact ⟨es,rfl,by simp [hb]⟩
 simp at h
theorem j7 (cx:cI G β bx w X) {x:AV} {es:List (List D)} {u:Value} (hr:x.rows bx=some es) (h:aj β bx w (bt β bx w X) x u):
 Ext β bx w β (x.cG bx) w∧cI G β (x.cG bx) w X∧
 ∃base cap,u=.slice base es.length cap∧es.length≤cap∧(es=[]∨∃blk off sz,base=some ⟨blk,off,none⟩∧bt β (x.cG bx) w X blk∧ax w (bt β (x.cG bx) w X) blk sz es off):=by
 by_cases hx:∃b sz n,x=.ow b sz n
 ·obtain ⟨b,sz,n,rfl⟩:=hx
  obtain ⟨hn,base,cap,rfl,h1,h2⟩:=uH cx hr h
  simp only [AV.rows] at hr
  split at hr
  ·rename_i s es' hb
   obtain ⟨rfl,_,rfl⟩:=MG hr
   obtain ⟨g1,g2,g3⟩:=Lo cx hb
   have qu:(AV.ow b s n).cG bx=bx.set b (.nE s es'):=by simp [AV.cG,hb]
   rw [qu]
   refine ⟨g1,g2,base,cap,rfl,h1,?_⟩
   rcases h2 with ⟨rfl,_⟩|⟨hne,rfl,_⟩
   ·exact .inl rfl
   rcases g3 with rfl|⟨g3,g4⟩
   ·exact .inl rfl
   exact .inr ⟨β b,0,s,rfl,g3,g4⟩
  ·rename_i s es' hb
   obtain ⟨rfl,_,rfl⟩:=MG hr
   have qu:(AV.ow b s n).cG bx=bx:=by simp [AV.cG,hb]
   rw [qu]
   refine ⟨Ext.refl _ _ _,cx,base,cap,rfl,h1,?_⟩
   rcases h2 with ⟨rfl,_⟩|⟨hne,rfl,g,_⟩
   ·exact .inl rfl
   rcases cx.box b _ hb with rfl|⟨g3,g4⟩
   ·exact .inl rfl
   exact .inr ⟨β b,0,s,rfl,g3,g4⟩
  simp at hr
 have hx':∀b sz n,x≠.ow b sz n:=fun b sz n e=>hx ⟨b,sz,n,e⟩
 cases hv:x.uA with
 |true=>
  cases x with
  |vw b sz off n c ex=>
   simp only [AV.rows] at hr
   split at hr
   ·rename_i s es' hb
    obtain ⟨rfl,hle,rfl⟩:=CG hr
    obtain ⟨g1,g2,g3⟩:=Lo cx hb
    have qu:(AV.vw b s off n c ex).cG bx=bx.set b (.nE s es'):=by simp [AV.cG,hb]
    rw [qu]
    refine ⟨g1,g2,?_⟩
    obtain ⟨base,cap,rfl,k1,k2⟩:=oG (I1:=bt β (bx.set b (.nE s es')) w X) hle (g3.imp id fun g=>g.2) h
    refine ⟨base,cap,rfl,k1,?_⟩
    rcases g3 with rfl|⟨g3,_⟩
    ·left;simp
    rcases k2 with k2|⟨rfl,k3⟩
    ·exact .inl k2
    exact .inr ⟨β b,off*s,s,rfl,g3,k3⟩
   ·rename_i s es' hb
    obtain ⟨rfl,hle,rfl⟩:=CG hr
    have qu:(AV.vw b s off n c ex).cG bx=bx:=by simp [AV.cG,hb]
    rw [qu]
    refine ⟨Ext.refl _ _ _,cx,?_⟩
    have g3:=cx.box b _ hb
    obtain ⟨base,cap,rfl,k1,k2⟩:=oG (I1:=bt β bx w X) hle (g3.imp id fun g=>g.2) h
    refine ⟨base,cap,rfl,k1,?_⟩
    rcases g3 with rfl|⟨g3,_⟩
    ·left;simp
    rcases k2 with k2|⟨rfl,k3⟩
    ·exact .inl k2
    exact .inr ⟨β b,off*s,s,rfl,g3,k3⟩
   simp at hr
  |_=>simp [AV.uA] at hv
 |false=>
 have qu:x.cG bx=bx:=by cases x<;>simp_all [AV.cG,AV.uA]
 rw [qu]
 exact ⟨Ext.refl _ _ _,cx,zR hx' hv hr h⟩
theorem zS (cx:cI G β bx w X) {x:AV} {y:D} {u:Value} (hd:x.sJ bx=some y) (h:aj β bx w (bt β bx w X) x u):
 Ext β bx w β (x.cG bx) w∧cI G β (x.cG bx) w X∧aK w (bt β (x.cG bx) w X) y u:=by
 cases x with
 |d x=>simp only [AV.sJ,osI] at hd;subst hd;exact ⟨Ext.refl _ _ _,cx,h⟩
 |cl es=>
  simp only [AV.sJ,osI] at hd;subst hd
  obtain ⟨g1,g2,g3⟩:=j7 cx (x:=.cl es) (es:=es) rfl h
  exact ⟨g1,g2,by simpa [aK] using g3⟩
 |ow b sz n=>
  obtain ⟨es,rfl,hr⟩:=Ve hd
  obtain ⟨g1,g2,g3⟩:=j7 cx hr h
  exact ⟨g1,g2,by simpa [aK] using g3⟩
 |fn f cs=>
  cases cs with
  |nil=>
   simp only [AV.sJ,osI] at hd;subst hd
   simp only [aj,ak] at h
   obtain ⟨vs,rfl,rfl⟩:=h
   exact ⟨Ext.refl _ _ _,cx,by simp [zO,aK]⟩
  |cons c cs=>simp [AV.sJ] at hd
 |_=>simp [AV.sJ] at hd
theorem uI {z:AV} {i s:Nat} {es:List (List D)} (h:bx[i]?=some (.row s es)∨bx[i]?=some (.nE s es)):(z.cG bx)[i]?=some (.row s es)∨(z.cG bx)[i]?=some (.nE s es):=by
 cases z with
 |ow b sz n=>
  simp only [AV.cG]
  split
  ·rename_i s' es' hb
   by_cases hi:i=b
   ·subst hi
    rw [hb] at h
    simp at h
    obtain ⟨rfl,rfl⟩:=h
    exact .inr (jw hb)
   rw [List.getElem?_set_ne (Ne.symm hi)];exact h
  exact h
 |vw b sz off n c ex=>
  simp only [AV.cG]
  split
  ·rename_i s' es' hb
   by_cases hi:i=b
   ·subst hi
    rw [hb] at h
    simp at h
    obtain ⟨rfl,rfl⟩:=h
    exact .inr (jw hb)
   rw [List.getElem?_set_ne (Ne.symm hi)];exact h
  exact h
 |_=>exact h
theorem CH {x z:AV} {y:D} (h:x.sJ bx=some y):x.sJ (z.cG bx)=some y:=by
 cases x with
 |ow b sz n=>
  simp only [AV.sJ] at h ⊢
  split at h
  ·rename_i s es hb
   rcases uI (z:=z) (.inl hb) with g|g<;>simp [g,h]
  ·rename_i s es hb
   rcases uI (z:=z) (.inr hb) with g|g<;>simp [g,h]
  simp at h
 |fn f cs=>cases cs with
  |nil=>exact h
  |cons c cs=>exact h
 |_=>exact h
theorem tE {z:AV}:∀{xs:List AV} {ys:List D},iS bx xs=some ys→iS (z.cG bx) xs=some ys
 |[],ys,h=>h
 |x::xs,ys,h=>by
  simp only [iS] at h ⊢
  split at h
  ·rename_i y ys' hy hys
   rw [CH hy,tE hys];exact h
  simp at h
theorem v7:∀(xs:List AV) (bx:List az) (ys:List D) (vs:List Value),cI G β bx w X→iS bx xs=some ys→ak β bx w (bt β bx w X) xs vs→
 Ext β bx w β (eF bx xs) w∧cI G β (eF bx xs) w X∧ak β (eF bx xs) w (bt β (eF bx xs) w X) (ys.map .d) vs
 |[],bx,ys,vs,cx,hd,h=>by simp [iS] at hd;subst hd;exact ⟨Ext.refl _ _ _,cx,by simpa [eF] using h⟩
 |x::xs,bx,ys,vs,cx,hd,h=>by
  simp only [iS] at hd
  split at hd
  ·rename_i y ys' hy hys
   simp at hd;subst hd
   simp only [ak] at h
   obtain ⟨u,us,rfl,g1,g2⟩:=h
   obtain ⟨e1,c1,r1⟩:=zS cx hy g1
   obtain ⟨e2,c2,r2⟩:=v7 xs (x.cG bx) ys' us c1 (tE hys) (ak.mono (e1.eY X) _ _ g2)
   refine ⟨e1.trans e2,c2,?_⟩
   simp only [eF,List.map_cons,ak,aj]
   exact ⟨u,us,rfl,aK.mono (e2.keeps X) _ _ r1,r2⟩
  simp at hd
theorem lS:∀(l m:List Value) (n:Nat) (vs:List Value),n+vs.length≤l.length→bq (l++m) n vs=bq l n vs++m
 |l,m,n,[],_=>by cases l<;>cases m<;>simp [bq]
 |[],m,n,v::vs,h=>by simp at h
 |c::cs,m,0,v::vs,h=>by
  simp only [List.length_cons] at h
  simp only [List.cons_append,bq]
  rw [lS cs m 0 vs (by omega)]
 |c::cs,m,n+1,v::vs,h=>by
  simp only [List.length_cons] at h
  simp only [List.cons_append,bq]
  rw [lS cs m n (v::vs) (by simp;omega)]
theorem lT:∀(l:List D) (n:Nat) (vs:List D),(bw l n vs).length=l.length
 |l,n,[]=>by cases l<;>simp [bw]
 |[],n,v::vs=>by simp [bw]
 |c::cs,0,v::vs=>by simp [bw,lT cs 0 vs]
 |c::cs,n+1,v::vs=>by simp [bw,lT cs n (v::vs)]
theorem qw:∀(l:List D) (n:Nat) (vs:List D),(bw l n vs).map AV.d=eM (l.map .d) n (vs.map .d)
 |l,n,[]=>by cases l<;>simp [bw,eM]
 |[],n,v::vs=>by simp [bw,eM]
 |c::cs,0,v::vs=>by simp [bw,eM,qw cs 0 vs]
 |c::cs,n+1,v::vs=>by simp [bw,eM];rw [qw cs n (v::vs)];simp
theorem uJ:∀(l m:List D) (n:Nat) (vs:List D),bw (l++m) (l.length+n) vs=l++bw m n vs
 |[],m,n,vs=>by simp
 |c::cs,m,n,vs=>by
  cases vs with
  |nil=>cases m<;>simp [bw]
  |cons v vs=>
   rw [show (c::cs).length+n=(cs.length+n)+1 by simp;omega]
   simp only [List.cons_append,bw]
   rw [uJ cs m n (v::vs)]
theorem nt:∀(l m:List D) (n:Nat) (vs:List D),n+vs.length≤l.length→bw (l++m) n vs=bw l n vs++m
 |l,m,n,[],_=>by cases l<;>cases m<;>simp [bw]
 |[],m,n,v::vs,h=>by simp at h
 |c::cs,m,0,v::vs,h=>by
  simp only [List.length_cons] at h
  simp only [List.cons_append,bw]
  rw [nt cs m 0 vs (by omega)]
 |c::cs,m,n+1,v::vs,h=>by
  simp only [List.length_cons] at h
  simp only [List.cons_append,bw]
  rw [nt cs m n (v::vs) (by simp;omega)]
theorem qx {sz:Nat}:∀(es:List (List D)) (i j:Nat) (ds:List D),(∀r∈es,r.length=sz)→i<es.length→j+ds.length≤(es.getD i []).length→
 (es.set i (bw (es.getD i []) j ds)).flatten=bw es.flatten (i*sz+j) ds
 |[],i,j,ds,_,h,_=>by simp at h
 |r::rs,0,j,ds,hl,_,hj=>by
  simp at hj
  simp only [List.set_cons_zero,List.flatten_cons,Nat.zero_mul,Nat.zero_add]
  rw [nt r _ j ds hj]
  simp
 |r::rs,i+1,j,ds,hl,hi,hj=>by
  have hr:r.length=sz:=hl r (by simp)
  simp at hi hj
  have:=qx rs i j ds (fun x hx=>hl x (by simp [hx])) hi (by simpa using hj)
  simp only [List.set_cons_succ,List.flatten_cons,List.getD_cons_succ]
  rw [this,show (i+1)*sz+j=r.length+(i*sz+j) by rw [hr,Nat.add_mul];omega,uJ]
theorem OY {ok:Nat→Prop} {x:AV} {y:D} {u:Value} (h:x.sJ []=some y) (hx:aj β bx w ok x u):aK w ok y u:=by
 cases x with
 |d x=>simp only [AV.sJ,osI] at h;subst h;simpa [aj] using hx
 |cl es=>
  simp only [AV.sJ,osI] at h;subst h
  simp only [aj] at hx
  obtain ⟨base,rfl,g⟩:=hx
  simp only [aK];exact ⟨base,_,rfl,Nat.le_refl _,g⟩
 |ow b sz n=>simp [AV.sJ] at h
 |fn f cs=>
  cases cs with
  |nil=>
   simp only [AV.sJ,osI] at h;subst h
   simp only [aj,ak] at hx
   obtain ⟨vs,rfl,rfl⟩:=hx
   simp [aK,zO]
  |cons c cs=>simp [AV.sJ] at h
 |_=>simp [AV.sJ] at h
theorem rY {ok:Nat→Prop}:∀{xs:List AV} {ys:List D} {us:List Value},iS [] xs=some ys→ak β bx w ok xs us→ak β bx w ok (ys.map .d) us
 |[],ys,us,h,hx=>by simp [iS] at h;subst h;simpa using hx
 |x::xs,ys,us,h,hx=>by
  simp only [iS] at h
  split at h
  ·rename_i y ys' h1 h2
   simp only [osI] at h;subst h
   simp only [ak] at hx
   obtain ⟨u,OW,rfl,g1,g2⟩:=hx
   simp only [List.map_cons,ak,aj]
   exact ⟨u,OW,rfl,OY h1 g1,rY h2 g2⟩
  simp at h
end
end Dem
end
