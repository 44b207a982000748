/- Parts of a proof, joined. -/
import Derived.Test.YtihohjnkkalgiaaGreatDoorU01
import Derived.WalkSpells
import Derived.Lib.LazyBuf
import Derived.Deep.LoopGhost
import Derived.Defers
import Derived.ChangeSame
import Derived.ChangeArms
import Derived.OpenShut
import Derived.WideShapes
import Derived.Deep.Slices
import Derived.Orders
set_option linter.all false
set_option maxRecDepth 100000
set_option maxHeartbeats 4000000
section
open Go
namespace Dem
section
variable {P:Program} {T:Nat→Option TI} {G:Nat→Option (List D)} {β:Nat→Nat} {bx:List aA} {w:World} {X:Nat→Prop}
def mr (β:Nat→Nat) (bx:List aA) (w:World) (ok:Nat→Prop):iB→Ending→Prop
 |.ret v,.returned u=>aj β bx w ok v u
 |.MK v,.panicked ch=>∃u,ch=[{v:=u,recovered:=false}]∧aj β bx w ok v u
 |_,_=>False
def jC (P:Program) (f:Nat) (vs:Array Value) (w:World) (R:Ending→World→Prop):Prop:=
 ((callFunc f vs).run P w=.ok (.enter f vs) w∧Calls P f vs w R)∨∃v w',(callFunc f vs).run P w=.ok (.value v) w'∧R (.returned v) w'
theorem jC.mono {f:Nat} {vs:Array Value} {R R':Ending→World→Prop} (h:jC P f vs w R) (hr:∀e w',R e w'→R' e w'):jC P f vs w R':=by
 rcases h with ⟨h1,h2⟩|⟨v,w',h1,h2⟩
 ·exact .inl ⟨h1,Calls.mono h2 hr⟩
 exact .inr ⟨v,w',h1,hr _ _ h2⟩
def bt (P:Program) (G:Nat→Option (List D)) (f:Nat) (args:List AV) (bx:List aA) (res:iB) (aL:List aA):Prop:=
 ∀(β:Nat→Nat) (w:World) (vs:List Value) (X:Nat→Prop),cF G β bx w X→ak β bx w (bf β bx w X) args vs→
  jC P f ⟨vs⟩ w fun e w'=>∃β',Ext β bx w β' aL w'∧cF G β' aL w' X∧mr β' aL w' (bf β' aL w' X) res e
mutual
theorem qB {β β':Nat→Nat} {bx aL:List aA} {w:World} {ok ok':Nat→Prop} (h:∀blk,ok blk→ok' blk):∀(x:AV) (v:Value),x.shut=true→aj β bx w ok x v→aj β' aL w ok' x v
 |.any,_,_,_=>by simp [aj]
 |.d x,v,_,hv=>by simp only [aj] at hv ⊢;exact aJ.mono (fun blk hb=>⟨h blk hb,rfl⟩) _ _ hv
 |.k c,v,_,hv=>by simpa [aj] using hv
 |.agg cs,v,hs,hv=>by
  simp only [aj] at hv ⊢;obtain ⟨vs,h1,h2⟩:=hv
  exact ⟨vs,h1,lW h cs vs (by simpa [AV.shut] using hs) h2⟩
 |.ek cs,v,hs,hv=>by
  simp only [aj] at hv ⊢;obtain ⟨vs,h1,h2⟩:=hv
  exact ⟨vs,h1,lW h cs vs (by simpa [AV.shut] using hs) h2⟩
 |.ptr _ _,_,hs,_=>by simp [AV.shut] at hs
 |.rp _ _ _ _,_,hs,_=>by simp [AV.shut] at hs
 |.ow _ _ _,_,hs,_=>by simp [AV.shut] at hs
 |.vw _ _ _ _ _ _,_,hs,_=>by simp [AV.shut] at hs
 |.ep ds,v,_,hv=>by
  simp only [aj] at hv ⊢;obtain ⟨blk,off,h1,h2,h3⟩:=hv
  exact ⟨blk,off,h1,h blk h2,aX.mono (fun blk hb=>⟨h blk hb,rfl⟩) blk (fun _=>rfl) _ _ h3⟩
 |.cl es,v,_,hv=>by
  simp only [aj] at hv ⊢;obtain ⟨base,h1,h2⟩:=hv
  refine ⟨base,h1,h2.imp id ?_⟩
  rintro ⟨blk,off,sz,e1,e2,e3⟩
  exact ⟨blk,off,sz,e1,h blk e2,ay.mono (fun blk hb=>⟨h blk hb,rfl⟩) blk sz (fun _=>rfl) _ _ e3⟩
 |.fn f cs,v,hs,hv=>by
  simp only [aj] at hv ⊢;obtain ⟨vs,h1,h2⟩:=hv
  exact ⟨vs,h1,lW h cs vs (by simpa [AV.shut] using hs) h2⟩
 |.sS t x,v,hs,hv=>by
  simp only [aj] at hv ⊢;obtain ⟨u,h1,h2⟩:=hv
  exact ⟨u,h1,qB h x u (by simpa [AV.shut] using hs) h2⟩
 |.cond p x,v,hs,hv=>by
  simp only [aj] at hv ⊢
  exact ⟨fun hp=>qB h x v (by simpa [AV.shut] using hs) (hv.1 hp),hv.2⟩
theorem lW {β β':Nat→Nat} {bx aL:List aA} {w:World} {ok ok':Nat→Prop} (h:∀blk,ok blk→ok' blk):∀(xs:List AV) (vs:List Value),AV.shut.lu xs=true→ak β bx w ok xs vs→ak β' aL w ok' xs vs
 |[],vs,_,hv=>by simpa [ak] using hv
 |x::xs,vs,hs,hv=>by
  simp only [ak] at hv ⊢
  obtain ⟨u,us,h1,h2,h3⟩:=hv
  simp only [AV.shut.lu,Bool.and_eq_true] at hs
  exact ⟨u,us,h1,qB h x u hs.1 h2,lW h xs us hs.2 h3⟩
end
theorem sC {β β':Nat→Nat} {bx aL:List aA} {w w':World} {ok ok':Nat→Prop}:∀(xs:List AV) (vs:List Value),AV.flat.z7 xs=true→ak β bx w ok xs vs→ak β' aL w' ok' xs vs
 |[],vs,_,hv=>by simpa [ak] using hv
 |x::xs,vs,hs,hv=>by
  simp only [ak] at hv ⊢
  obtain ⟨u,us,h1,h2,h3⟩:=hv
  cases x with
  |d y=>cases y<;>simp [AV.flat.z7] at hs<;>exact ⟨u,us,h1,by simpa [aj,aJ] using h2,sC xs us hs h3⟩
  |k c=>simp [AV.flat.z7] at hs;exact ⟨u,us,h1,by simpa [aj] using h2,sC xs us hs h3⟩
  |_=>simp [AV.flat.z7] at hs
theorem oO {β β':Nat→Nat} {bx aL:List aA} {w w':World} {ok ok':Nat→Prop}:∀(xs:List AV) (vs:List Value),AV.flat.qo xs=true→ak β bx w ok xs vs→ak β' aL w' ok' xs vs
 |[],vs,_,hv=>by simpa [ak] using hv
 |x::xs,vs,hs,hv=>by
  simp only [ak] at hv ⊢
  obtain ⟨u,us,h1,h2,h3⟩:=hv
  cases x with
  |d y=>cases y<;>simp [AV.flat.qo] at hs<;>exact ⟨u,us,h1,by simpa [aj,aJ] using h2,oO xs us hs h3⟩
  |k c=>simp [AV.flat.qo] at hs;exact ⟨u,us,h1,by simpa [aj] using h2,oO xs us hs h3⟩
  |agg cs=>
   simp [AV.flat.qo] at hs
   simp only [aj] at h2
   obtain ⟨v2,e1,e2⟩:=h2
   exact ⟨u,us,h1,by simp only [aj];exact ⟨v2,e1,sC cs v2 hs.1 e2⟩,oO xs us hs.2 h3⟩
  |_=>simp [AV.flat.qo] at hs
theorem Gd {β β':Nat→Nat} {bx aL:List aA} {w w':World} {ok ok':Nat→Prop} (x:AV) (v:Value) (hf:x.flat=true) (hv:aj β bx w ok x v):aj β' aL w' ok' x v:=by
 cases x with
 |d y=>cases y<;>simp [AV.flat] at hf<;>simpa [aj,aJ] using hv
 |k c=>simpa [aj] using hv
 |agg cs=>simp only [aj] at hv ⊢;obtain ⟨vs,h1,h2⟩:=hv;exact ⟨vs,h1,sC cs vs (by simpa [AV.flat] using hf) h2⟩
 |ek cs=>simp only [aj] at hv ⊢;obtain ⟨vs,h1,h2⟩:=hv;exact ⟨vs,h1,oO cs vs (by simpa [AV.flat] using hf) h2⟩
 |_=>simp [AV.flat] at hf
theorem MV {w w':World} {ok ok':Nat→Prop}:∀(x:D) (v:Value),x.flat=true→aJ w ok x v→aJ w' ok' x v:=by
 intro x v hf hv
 cases x<;>simp [D.flat] at hf<;>simpa [aJ] using hv
theorem yg {w:World} {ok ok':Nat→Prop} {blk:Nat}:∀(xs:List D) (off:Nat),(∀x∈xs,x.flat=true)→aX w ok blk xs off→aX w ok' blk xs off
 |[],_,_,_=>by simp [aX]
 |x::xs,off,hf,hv=>by
  simp only [aX] at hv ⊢
  obtain ⟨⟨u,h1,h2⟩,h3⟩:=hv
  exact ⟨⟨u,h1,MV x u (hf x (by simp)) h2⟩,yg xs _ (fun y hy=>hf y (by simp [hy])) h3⟩
theorem oP {w:World} {ok ok':Nat→Prop} {blk sz:Nat}:∀(rs:List (List D)) (off:Nat),(∀r∈rs,∀x∈r,x.flat=true)→ay w ok blk sz rs off→ay w ok' blk sz rs off
 |[],_,_,_=>by simp [ay]
 |r::rs,off,hf,hv=>by
  simp only [ay] at hv ⊢
  exact ⟨hv.1,yg r off (hf r (by simp)) hv.2.1,oP rs _ (fun s hs=>hf s (by simp [hs])) hv.2.2⟩
theorem u7 (cx:cF G β bx w X) {x y:AV} {u:Value} (hd:fz bx x=some y) (h:aj β bx w (bf β bx w X) x u):
 Ext β bx w β (x.cq bx) w∧cF G β (x.cq bx) w X∧aj β (x.cq bx) w (bf β (x.cq bx) w X) y u:=by
 cases x with
 |cl es=>
  simp only [fz,osI] at hd;subst hd
  obtain ⟨g1,g2,g3⟩:=Ag (y:=.sl es) cx rfl h
  exact ⟨g1,g2,by simpa [aj] using g3⟩
 |ow b sz n=>
  simp only [fz,Option.map_eq_some_iff] at hd
  obtain ⟨z,h1,rfl⟩:=hd
  obtain ⟨g1,g2,g3⟩:=Ag cx h1 h
  exact ⟨g1,g2,by simpa [aj] using g3⟩
 |vw b sz off n c ex=>
  simp only [fz,Option.map_eq_some_iff] at hd
  obtain ⟨es,h1,rfl⟩:=hd
  obtain ⟨g1,g2,g3⟩:=kf cx h1 h
  exact ⟨g1,g2,by simpa [aj,aJ] using g3⟩
 |_=>simp only [fz,osI] at hd;subst hd;exact ⟨Ext.refl _ _ _,cx,h⟩
theorem Ge {x y z:AV} (h:fz bx x=some y):fz (z.cq bx) x=some y:=by
 cases x with
 |ow b sz n=>
  simp only [fz,Option.map_eq_some_iff] at h ⊢
  obtain ⟨q,h1,h2⟩:=h
  exact ⟨q,C1 h1,h2⟩
 |vw b sz off n c ex=>
  simp only [fz,Option.map_eq_some_iff] at h ⊢
  obtain ⟨q,h1,h2⟩:=h
  refine ⟨q,?_,h2⟩
  simp only [AV.rows] at h1 ⊢
  split at h1
  ·rename_i s es hb
   rcases uQ (z:=z) (.inl hb) with g|g<;>simp [g,h1]
  ·rename_i s es hb
   rcases uQ (z:=z) (.inr hb) with g|g<;>simp [g,h1]
  simp at h1
 |_=>exact h
theorem wR {z:AV}:∀{xs ys:List AV},IY bx xs=some ys→IY (z.cq bx) xs=some ys
 |[],ys,h=>h
 |x::xs,ys,h=>by
  simp only [IY] at h ⊢
  split at h
  ·rename_i y ys' hy hys
   rw [Ge hy,wR hys];exact h
  simp at h
theorem Jh {x y z:AV} (h:qn bx x=some y):qn (z.cq bx) x=some y:=by
 cases x with
 |agg cs=>
  simp only [qn,Option.map_eq_some_iff] at h ⊢
  obtain ⟨q,h1,h2⟩:=h
  exact ⟨q,wR h1,h2⟩
 |_=>simp only [qn] at h ⊢;exact Ge h
theorem tW {z:AV}:∀{xs ys:List AV},eS bx xs=some ys→eS (z.cq bx) xs=some ys
 |[],ys,h=>h
 |x::xs,ys,h=>by
  simp only [eS] at h ⊢
  split at h
  ·rename_i y ys' hy hys
   rw [Jh hy,tW hys];exact h
  simp at h
theorem yh {xs ys:List AV}:∀(zs:List AV) (bx:List aA),eS bx xs=some ys→eS (eD bx zs) xs=some ys
 |[],_,h=>h
 |_::zs,_,h=>yh zs _ (tW h)
theorem Gf {xs ys:List AV} {z:AV} (h:eS bx xs=some ys):eS (l5 bx z) xs=some ys:=by
 cases z with
 |agg cs=>exact yh cs bx h
 |_=>simp only [l5];exact tW h
theorem Gg:∀(xs:List AV) (bx:List aA) (ys:List AV) (vs:List Value),cF G β bx w X→IY bx xs=some ys→ak β bx w (bf β bx w X) xs vs→
 Ext β bx w β (eD bx xs) w∧cF G β (eD bx xs) w X∧ak β (eD bx xs) w (bf β (eD bx xs) w X) ys vs
 |[],bx,ys,vs,cx,hd,h=>by simp [IY] at hd;subst hd;exact ⟨Ext.refl _ _ _,cx,by simpa [eD] using h⟩
 |x::xs,bx,ys,vs,cx,hd,h=>by
  simp only [IY] at hd
  split at hd
  ·rename_i y ys' hy hys
   simp at hd;subst hd
   simp only [ak] at h
   obtain ⟨u,us,rfl,g1,g2⟩:=h
   obtain ⟨e1,c1,r1⟩:=u7 cx hy g1
   obtain ⟨e2,c2,r2⟩:=Gg xs (x.cq bx) ys' us c1 (wR hys) (ak.mono (e1.eT X) _ _ g2)
   refine ⟨e1.trans e2,c2,?_⟩
   simp only [eD,ak]
   exact ⟨u,us,rfl,aj.mono (e2.eT X) _ _ r1,r2⟩
  simp at hd
theorem C5 (cx:cF G β bx w X) {x y:AV} {u:Value} (hd:qn bx x=some y) (h:aj β bx w (bf β bx w X) x u):
 Ext β bx w β (l5 bx x) w∧cF G β (l5 bx x) w X∧aj β (l5 bx x) w (bf β (l5 bx x) w X) y u:=by
 cases x with
 |agg cs=>
  simp only [qn,Option.map_eq_some_iff] at hd
  obtain ⟨ys,h1,rfl⟩:=hd
  simp only [aj] at h
  obtain ⟨vs,rfl,hvs⟩:=h
  obtain ⟨g1,g2,g3⟩:=Gg cs bx ys vs cx h1 hvs
  exact ⟨g1,g2,by simp only [aj];exact ⟨vs,rfl,g3⟩⟩
 |_=>simp only [qn] at hd;simp only [l5];exact u7 cx hd h
theorem lX:∀(xs:List AV) (bx:List aA) (ys:List AV) (vs:List Value),cF G β bx w X→eS bx xs=some ys→ak β bx w (bf β bx w X) xs vs→
 Ext β bx w β (fy bx xs) w∧cF G β (fy bx xs) w X∧ak β (fy bx xs) w (bf β (fy bx xs) w X) ys vs
 |[],bx,ys,vs,cx,hd,h=>by simp [eS] at hd;subst hd;exact ⟨Ext.refl _ _ _,cx,by simpa [fy] using h⟩
 |x::xs,bx,ys,vs,cx,hd,h=>by
  simp only [eS] at hd
  split at hd
  ·rename_i y ys' hy hys
   simp at hd;subst hd
   simp only [ak] at h
   obtain ⟨u,us,rfl,g1,g2⟩:=h
   obtain ⟨e1,c1,r1⟩:=C5 cx hy g1
   obtain ⟨e2,c2,r2⟩:=lX xs (l5 bx x) ys' us c1 (Gf hys) (ak.mono (e1.eT X) _ _ g2)
   refine ⟨e1.trans e2,c2,?_⟩
   simp only [fy,ak]
   exact ⟨u,us,rfl,aj.mono (e2.eT X) _ _ r1,r2⟩
  simp at hd
theorem LI {x y:AV} (h:fz [] x=some y) (bx:List aA):x.cq bx=bx:=by
 cases x with
 |ow b sz n=>simp [fz,AV.rY] at h
 |vw b sz off n c ex=>simp [fz,AV.rows] at h
 |_=>rfl
theorem Gh:∀{xs ys:List AV} (bx:List aA),IY [] xs=some ys→eD bx xs=bx
 |[],_,_,_=>rfl
 |x::xs,ys,bx,h=>by
  simp only [IY] at h
  split at h
  ·rename_i y ys' hy hys
   simp only [eD,LI hy bx];exact Gh bx hys
  simp at h
theorem kg:∀{xs ys:List AV} (bx:List aA),eS [] xs=some ys→fy bx xs=bx
 |[],_,_,_=>rfl
 |x::xs,ys,bx,h=>by
  simp only [eS] at h
  split at h
  ·rename_i y ys' hy hys
   have:l5 bx x=bx:=by
    cases x with
    |agg cs=>
     simp only [qn,Option.map_eq_some_iff] at hy
     obtain ⟨q,h1,_⟩:=hy
     exact Gh bx h1
    |_=>simp only [qn] at hy;simp only [l5];exact LI hy bx
   simp only [fy,this];exact kg bx hys
  simp at h
def qD (β:Nat→Nat) (bx:List aA) (X:Nat→Prop) (blk:Nat):Prop:=X blk∨∃i b,bx[i]?=some b∧b.live=true∧β i=blk
theorem Gi (cx:cF G β bx w X):cF G β [] w (qD β bx X):=by
 refine ⟨?_,?_,by simp,by simp,by simp⟩
 ·rintro blk (h|⟨i,b,h1,h2,rfl⟩)
  ·exact cx.xs blk h
  exact dm.eX (cx.box i b h1) h2
 intro g ds hg
 obtain ⟨h1,h2⟩:=cx.zo g ds hg
 have key:∀blk,bf β bx w X blk→bf β [] w (qD β bx X) blk:=by
  rintro blk ⟨k1,k2,k3⟩
  refine ⟨k1,?_,by simp⟩
  rintro (h|⟨i,b,e1,e2,e3⟩)
  ·exact k2 h
  exact k3 i b e1 e2 e3
 exact ⟨key g h1,aX.mono (fun blk hb=>⟨key blk hb,rfl⟩) g (fun _=>rfl) _ _ h2⟩
theorem Gj (blk:Nat) (h:bf β bx w X blk):bf β [] w (qD β bx X) blk:=by
 obtain ⟨k1,k2,k3⟩:=h
 refine ⟨k1,?_,by simp⟩
 rintro (h|⟨i,b,e1,e2,e3⟩)
 ·exact k2 h
 exact k3 i b e1 e2 e3
theorem u9 {β':Nat→Nat} {aL:List aA} {w':World} (ex:Ext β [] w β' aL w'):Ext β bx w β bx w':=
 ⟨ex.os,ex.tape,ex.output,ex.size,fun k hk _=>ex.block k hk (by simp),ex.shape,fun i hi=>⟨rfl,hi⟩,fun i b h1 h2=>.inr ⟨i,b,h1,h2,rfl⟩⟩
theorem Px {β':Nat→Nat} {aL:List aA} {w':World} (cx:cF G β bx w X) (ex:Ext β [] w β' aL w'):cF G β bx w' X:=
 cx.step (u9 ex) (fun i b h=>.inl ⟨h,fun hl=>ex.block _ (dm.eX (cx.box i b h) hl) (by simp)⟩) cx.inj
theorem S1 {β':Nat→Nat} {w':World} {sz n:Nat} {es:List (List D)} {qp:List aA} {u:Value} (cx:cF G β bx w X) (ex:Ext β [] w β' [.row sz es] w') (mS:cF G β' [.row sz es] w' (qD β qp X))
 (hv:(∀r∈es,∀x∈r,x.flat=true)∨qp=bx) (hr:aj β' [.row sz es] w' (bf β' [.row sz es] w' (qD β qp X)) (.ow 0 sz n) u):
 Ext β bx w (lz β bx.length (β' 0)) (bx++[.row sz es]) w'∧cF G (lz β bx.length (β' 0)) (bx++[.row sz es]) w' X∧
  aj (lz β bx.length (β' 0)) (bx++[.row sz es]) w' (bf (lz β bx.length (β' 0)) (bx++[.row sz es]) w' X) (.ow bx.length sz n) u:=by
 have e0:=u9 (bx:=bx) ex
 have hnew:aA.live (.row sz es)=true→w.heap.size≤β' 0:=by
  intro hl
  rcases ex.live 0 (.row sz es) rfl hl with h|⟨j,b',h1,_⟩
  ·exact h
  simp at h1
 have hold:∀i b,bx[i]?=some b→lz β bx.length (β' 0) i=β i:=by
  intro i b h
  exact c6 _ _ (by have:=jz h;omega)
 have e1:Ext β bx w (lz β bx.length (β' 0)) (bx++[.row sz es]) w':=by
  refine ⟨e0.os,e0.tape,e0.output,e0.size,e0.block,e0.shape,?_,?_⟩
  ·rintro i ⟨b,h1,h2⟩
   exact ⟨hold i b h1,b,eM h1,h2⟩
  intro i b h hl
  rcases bw h with ⟨h1,_⟩|⟨rfl,rfl⟩
  ·exact .inr ⟨i,b,h1,hl,(hold i b h1).symm⟩
  exact .inl (by rw [bp];exact hnew hl)
 have hlt:∀i b,bx[i]?=some b→b.live=true→β i<w.heap.size:=fun i b h hl=>dm.eX (cx.box i b h) hl
 have hok:qp=bx→∀blk,bf β' [.row sz es] w' (qD β qp X) blk→bf (lz β bx.length (β' 0)) (bx++[.row sz es]) w' X blk:=by
  rintro rfl blk ⟨k1,k2,k3⟩
  refine ⟨k1,fun hX=>k2 (.inl hX),?_⟩
  intro i b h hl
  rcases bw h with ⟨h1,_⟩|⟨rfl,rfl⟩
  ·rw [hold i b h1];exact fun he=>k2 (.inr ⟨i,b,h1,hl,he⟩)
  rw [bp];exact k3 0 _ rfl hl
 refine ⟨e1,cx.step e1 ?_ ?_,?_⟩
 ·intro i b h
  rcases bw h with ⟨h1,_⟩|⟨rfl,rfl⟩
  ·exact .inl ⟨h1,fun hl=>ex.block _ (hlt i b h1 hl) (by simp)⟩
  refine .inr ?_
  have:=mS.box 0 _ rfl
  rw [bp]
  simp only [dm] at this ⊢
  refine this.imp id ?_
  rintro ⟨c,e,h1,h2⟩
  refine ⟨c,e,h1,?_⟩
  rcases hv with hfl|hb
  ·exact oP _ _ hfl h2
  exact ay.mono (fun blk hb'=>⟨hok hb blk hb',rfl⟩) _ _ (fun _=>rfl) _ _ h2
 ·intro i j bi bj hi hj mT oQ he
  rcases bw hi with ⟨h1,_⟩|⟨rfl,rfl⟩<;>rcases bw hj with ⟨h2,_⟩|⟨rfl,rfl⟩
  ·rw [hold i bi h1,hold j bj h2] at he
   exact cx.inj i j bi bj h1 h2 mT oQ he
  ·rw [hold i bi h1,bp] at he
   have:=hlt i bi h1 mT;have:=hnew oQ;omega
  ·rw [hold j bj h2,bp] at he
   have:=hlt j bj h2 oQ;have:=hnew mT;omega
  rfl
 simp only [aj] at hr ⊢
 obtain ⟨_,h2⟩:=hr
 refine ⟨⟨_,by simp;rfl,rfl⟩,?_⟩
 rw [bp];exact h2
theorem Ji {f:Nat} {args:List AV} {vs:List Value} {K:AV→List aA→Prop} (cx:cF G β bx w X) (hx:ak β bx w (bf β bx w X) args vs)
 (h:FO (bt P G) f args bx K):
 jC P f ⟨vs⟩ w fun e w'=>∃β' aL v u,e=.returned u∧Ext β bx w β' aL w'∧cF G β' aL w' X∧aj β' aL w' (bf β' aL w' X) v u∧K v aL:=by
 obtain ⟨_,hz,hs,h⟩:=h
 obtain ⟨e1,c1,r1⟩:=lX args bx _ vs cx hz hx
 have cn:=Gi c1
 have hn:ak β [] w (bf β [] w (qD β (fy bx args) X)) _ vs:=lW (fun blk hb=>Gj blk hb) _ _ hs r1
 rcases h with ⟨v,hf,hv,hK⟩|⟨sz,n,es,hf,hv,hK⟩
 ·refine jC.mono (hf β w vs _ cn hn) ?_
  rintro e w' ⟨β',ex,mS,hr⟩
  cases e with
  |returned u=>
   refine ⟨β,bx,v,u,rfl,u9 ex,Px cx ex,?_,hK⟩
   rcases hv with hfl|⟨Py,hsh⟩
   ·exact Gd v u hfl hr
   rw [kg bx Py] at hr
   refine qB ?_ v u hsh hr
   rintro blk ⟨k1,k2,_⟩
   exact ⟨k1,fun hX=>k2 (.inl hX),fun i b hb hl he=>k2 (.inr ⟨i,b,hb,hl,he⟩)⟩
  |_=>exact hr.elim
 refine jC.mono (hf β w vs _ cn hn) ?_
 rintro e w' ⟨β',ex,mS,hr⟩
 cases e with
 |returned u=>
  simp only [mr] at hr
  obtain ⟨x1,x2,x3⟩:=S1 cx ex mS (by
   rcases hv with hfl|Py
   ·exact .inl hfl
   refine .inr ?_
   rw [kg bx Py]) hr
  exact ⟨_,_,_,u,rfl,x1,x2,x3,hK⟩
 |_=>exact hr.elim
end
end Dem
end
section
open Go
namespace Dem
section
variable {P:Program} {G:Nat→Option (List D)} {β β':Nat→Nat} {bx aL:List aA} {w w':World} {X:Nat→Prop}
theorem mu {i:Nat} (h:O6 bx i=true):bT bx i:=by
 unfold O6 at h
 split at h
 ·rename_i b hb;exact ⟨b,hb,h⟩
 cases h
mutual
theorem C6 {ok ok':Nat→Prop} {jS:List aA} {dt:Bool} (h:∀b,bT jS b→β' b=β b∧bT aL b) (hd:dt=true→∀d v,aJ w ok d v→aJ w' ok' d v):∀(x:AV) (v:Value),x.loose dt=true→x.bL jS=true→aj β bx w ok x v→aj β' aL w' ok' x v
 |.any,_,_,_,_=>by simp [aj]
 |.d y,v,hs,_,hv=>by
  simp only [aj] at hv ⊢
  cases hdt:dt with
  |true=>exact hd hdt y v hv
  |false=>subst hdt;cases y<;>simp [AV.loose] at hs<;>simpa [aJ] using hv
 |.k c,v,_,_,hv=>by simpa [aj] using hv
 |.agg cs,v,hs,hn,hv=>by
  simp only [aj] at hv ⊢;obtain ⟨vs,h1,h2⟩:=hv
  exact ⟨vs,h1,mw h hd cs vs (by simpa [AV.loose] using hs) (by simpa [AV.bL] using hn) h2⟩
 |.ek cs,v,hs,_,hv=>by simp [AV.loose] at hs
 |.ptr b off,v,_,hn,hv=>by
  have g:=mu (by simpa [AV.bL] using hn)
  simp only [aj] at hv ⊢;obtain ⟨e,_⟩:=hv;exact ⟨by rw [(h b g).1];exact e,(h b g).2⟩
 |.rp b sz i j,v,_,hn,hv=>by
  have g:=mu (by simpa [AV.bL] using hn)
  simp only [aj] at hv ⊢;obtain ⟨e,_⟩:=hv;exact ⟨by rw [(h b g).1];exact e,(h b g).2⟩
 |.ow _ _ _,_,hs,_,_=>by simp [AV.loose] at hs
 |.zX _,_,hs,_,_=>by simp [AV.loose] at hs
 |.vw _ _ _ _ _ _,_,hs,_,_=>by simp [AV.loose] at hs
 |.ep _,_,hs,_,_=>by simp [AV.loose] at hs
 |.cl _,_,hs,_,_=>by simp [AV.loose] at hs
 |.fn f cs,v,hs,hn,hv=>by
  simp only [aj] at hv ⊢;obtain ⟨vs,h1,h2⟩:=hv
  exact ⟨vs,h1,mw h hd cs vs (by simpa [AV.loose] using hs) (by simpa [AV.bL] using hn) h2⟩
 |.sS t x,v,hs,hn,hv=>by
  simp only [aj] at hv ⊢;obtain ⟨u,h1,h2⟩:=hv
  exact ⟨u,h1,C6 h hd x u (by simpa [AV.loose] using hs) (by simpa [AV.bL] using hn) h2⟩
 |.cond _ _,_,hs,_,_=>by simp [AV.loose] at hs
theorem mw {ok ok':Nat→Prop} {jS:List aA} {dt:Bool} (h:∀b,bT jS b→β' b=β b∧bT aL b) (hd:dt=true→∀d v,aJ w ok d v→aJ w' ok' d v):∀(xs:List AV) (vs:List Value),AV.ny dt xs=true→AV.bL.cW jS xs=true→ak β bx w ok xs vs→ak β' aL w' ok' xs vs
 |[],vs,_,_,hv=>by simpa [ak] using hv
 |x::xs,vs,hs,hn,hv=>by
  simp only [ak] at hv ⊢
  obtain ⟨u,us,h1,h2,h3⟩:=hv
  simp only [AV.ny] at hs
  simp only [AV.bL.cW,Bool.and_eq_true] at hn
  cases hx:x.loose dt with
  |false=>simp [hx] at hs
  |true=>
   simp only [hx,cond_true] at hs
   exact ⟨u,us,h1,C6 h hd x u hx hn.1 h2,mw h hd xs us hs hn.2 h3⟩
end
mutual
theorem wS {ok ok':Nat→Prop} {jS:List aA} (h:∀blk,ok blk→ok' blk):∀(x:AV) (v:Value),x.bL jS=true→aj β bx w ok x v→aj β jS w ok' x v
 |.any,_,_,_=>by simp [aj]
 |.d x,v,_,hv=>by simp only [aj] at hv ⊢;exact aJ.mono (fun blk hb=>⟨h blk hb,rfl⟩) _ _ hv
 |.k c,v,_,hv=>by simpa [aj] using hv
 |.agg cs,v,hs,hv=>by
  simp only [aj] at hv ⊢;obtain ⟨vs,h1,h2⟩:=hv
  exact ⟨vs,h1,mz h cs vs (by simpa [AV.bL] using hs) h2⟩
 |.ek cs,v,hs,hv=>by
  simp only [aj] at hv ⊢;obtain ⟨vs,h1,h2⟩:=hv
  exact ⟨vs,h1,mz h cs vs (by simpa [AV.bL] using hs) h2⟩
 |.ptr b off,v,hs,hv=>by
  have g:=mu (by simpa [AV.bL] using hs)
  simp only [aj] at hv ⊢;exact ⟨hv.1,g⟩
 |.rp b sz i j,v,hs,hv=>by
  have g:=mu (by simpa [AV.bL] using hs)
  simp only [aj] at hv ⊢;exact ⟨hv.1,g⟩
 |.zX b,v,hs,hv=>by
  have g:=mu (by simpa [AV.bL] using hs)
  simp only [aj] at hv ⊢;exact ⟨hv.1,g⟩
 |.ow b sz m,v,hs,hv=>by
  have g:=mu (by simpa [AV.bL] using hs)
  simp only [aj] at hv ⊢;exact ⟨g,hv.2⟩
 |.vw b sz off m c ex,v,hs,hv=>by
  have g:=mu (by simpa [AV.bL] using hs)
  simp only [aj] at hv ⊢;exact ⟨g,hv.2⟩
 |.ep ds,v,_,hv=>by
  simp only [aj] at hv ⊢;obtain ⟨blk,off,h1,h2,h3⟩:=hv
  exact ⟨blk,off,h1,h blk h2,aX.mono (fun blk hb=>⟨h blk hb,rfl⟩) blk (fun _=>rfl) _ _ h3⟩
 |.cl es,v,_,hv=>by
  simp only [aj] at hv ⊢;obtain ⟨base,h1,h2⟩:=hv
  refine ⟨base,h1,h2.imp id ?_⟩
  rintro ⟨blk,off,sz,e1,e2,e3⟩
  exact ⟨blk,off,sz,e1,h blk e2,ay.mono (fun blk hb=>⟨h blk hb,rfl⟩) blk sz (fun _=>rfl) _ _ e3⟩
 |.fn f cs,v,hs,hv=>by
  simp only [aj] at hv ⊢;obtain ⟨vs,h1,h2⟩:=hv
  exact ⟨vs,h1,mz h cs vs (by simpa [AV.bL] using hs) h2⟩
 |.sS t x,v,hs,hv=>by
  simp only [aj] at hv ⊢;obtain ⟨u,h1,h2⟩:=hv
  exact ⟨u,h1,wS h x u (by simpa [AV.bL] using hs) h2⟩
 |.cond p x,v,hs,hv=>by
  simp only [aj] at hv ⊢
  exact ⟨fun hp=>wS h x v (by simpa [AV.bL] using hs) (hv.1 hp),hv.2⟩
theorem mz {ok ok':Nat→Prop} {jS:List aA} (h:∀blk,ok blk→ok' blk):∀(xs:List AV) (vs:List Value),AV.bL.cW jS xs=true→ak β bx w ok xs vs→ak β jS w ok' xs vs
 |[],vs,_,hv=>by simpa [ak] using hv
 |x::xs,vs,hs,hv=>by
  simp only [ak] at hv ⊢
  obtain ⟨u,us,h1,h2,h3⟩:=hv
  simp only [AV.bL.cW,Bool.and_eq_true] at hs
  exact ⟨u,us,h1,wS h x u hs.1 h2,mz h xs us hs.2 h3⟩
end
theorem mA {dt:Bool} {jS:List aA}:∀{bs:List aA} {i:Nat} {b:aA},dS dt jS bs=true→bs[i]?=some b→(∃cs,b=.var cs∧AV.ny dt cs=true∧AV.bL.cW jS cs=true)∨b=.dead∨b=.bq
 |[],i,b,_,hi=>by simp at hi
 |b0::bs,i,b,h,hi=>by
  have hr:dS dt jS bs=true∧((∃cs,b0=.var cs∧AV.ny dt cs=true∧AV.bL.cW jS cs=true)∨b0=.dead∨b0=.bq):=by
   cases b0 with
   |var cs=>
    simp only [dS] at h
    cases hc:(AV.ny dt cs&&AV.bL.cW jS cs) with
    |false=>simp [hc] at h
    |true=>simp only [hc,cond_true] at h;simp at hc;exact ⟨h,.inl ⟨cs,rfl,hc.1,hc.2⟩⟩
   |dead=>exact ⟨h,.inr (.inl rfl)⟩
   |bq=>exact ⟨h,.inr (.inr rfl)⟩
   |_=>simp [dS] at h
  cases i with
  |zero=>simp only [List.getElem?_cons_zero,osI] at hi;subst hi;exact hr.2
  |succ i=>simp only [List.getElem?_cons_succ] at hi;exact mA hr.1 hi
theorem At {x:AV} {i:Nat} {b:aA} (h:(x.cq bx)[i]?=some b):bx[i]?=some b∨∃s es,bx[i]?=some (.row s es)∧b=.kP s es:=by
 have go:∀k:Nat,(match bx[k]? with|some (.row s es)=>bx.set k (.kP s es)|_=>bx)[i]?=some b→bx[i]?=some b∨∃s es,bx[i]?=some (.row s es)∧b=.kP s es:=by
  intro k h
  split at h
  ·rename_i s es hk
   rcases aK h with ⟨rfl,rfl,_⟩|⟨_,h2⟩
   ·exact .inr ⟨s,es,hk,rfl⟩
   exact .inl h2
  exact .inl h
 cases x with
 |ow k _ _=>exact go k h
 |vw k _ _ _ _ _=>exact go k h
 |_=>exact .inl h
theorem C7:∀{xs:List AV} {bx:List aA} {i:Nat} {b:aA},(eD bx xs)[i]?=some b→bx[i]?=some b∨∃s es,bx[i]?=some (.row s es)∧b=.kP s es
 |[],_,_,_,h=>.inl h
 |x::xs,bx,i,b,h=>by
  rcases C7 (xs:=xs) (bx:=x.cq bx) h with h1|⟨s,es,h1,rfl⟩
  ·exact At h1
  rcases At h1 with h2|⟨_,_,_,h3⟩
  ·exact .inr ⟨s,es,h2,rfl⟩
  cases h3
theorem tX:∀{xs:List AV} {bx:List aA} {i:Nat} {b:aA},(fy bx xs)[i]?=some b→bx[i]?=some b∨∃s es,bx[i]?=some (.row s es)∧b=.kP s es
 |[],_,_,_,h=>.inl h
 |x::xs,bx,i,b,h=>by
  have one:∀{b:aA},(l5 bx x)[i]?=some b→bx[i]?=some b∨∃s es,bx[i]?=some (.row s es)∧b=.kP s es:=by
   intro b h
   cases x with
   |agg cs=>exact C7 h
   |_=>simp only [l5] at h;exact At h
  rcases tX (xs:=xs) (bx:=l5 bx x) h with h1|⟨s,es,h1,rfl⟩
  ·exact one h1
  rcases one h1 with h2|⟨_,_,_,h3⟩
  ·exact .inr ⟨s,es,h2,rfl⟩
  cases h3
theorem yj {f:Nat} {args:List AV} {vs:List Value} {v:AV} (cx:cF G β bx w X) (hx:ak β bx w (bf β bx w X) args vs) (h:mZ (bt P G) f args bx v):
 jC P f ⟨vs⟩ w fun e w'=>∃u,e=.returned u∧Ext β bx w β bx w'∧cF G β bx w' X∧aj β bx w' (bf β bx w' X) v u:=by
 obtain ⟨nT,jS,hz,hnm,⟨dt,hl,hdt⟩,hin,hf,hv⟩:=h
 obtain ⟨e1,cxS,hargs⟩:=lX args bx nT vs cx hz hx
 have cz:∀(i:Nat) (b:aA),jS[i]?=some b→b.live=true→bx[i]?=some b:=by
  intro i b hi hb
  obtain ⟨b',h1,h2,h3⟩:=hin i b hi (sx hb)
  rw [h3 hb] at h1;exact h1
 have dH:∀i,bT jS i→bT bx i:=by
  rintro i ⟨b,h1,h2⟩
  obtain ⟨b',h3,h4,_⟩:=hin i b h1 h2
  exact ⟨b',h3,h4⟩
 have XF:∀(i:Nat) (b:aA),(fy bx args)[i]?=some b→b.live=true→bx[i]?=some b:=by
  intro i b hi hb
  rcases tX hi with h1|⟨s,es,_,rfl⟩
  ·exact h1
  simp [aA.live] at hb
 have Vb:∀(i:Nat) (b:aA),jS[i]?=some b→b.live=true→∃cs,b=.var cs∧AV.ny dt cs=true∧AV.bL.cW jS cs=true:=by
  intro i b hi hb
  rcases mA hl hi with h1|rfl|rfl
  ·exact h1
  ·simp [aA.live] at hb
  simp [aA.live] at hb
 let XV:Nat→Prop:=fun blk=>X blk∨∃(i:Nat) (b:aA),(fy bx args)[i]?=some b∧b.live=true∧(∀b',jS[i]?=some b'→b'.live=false)∧β i=blk
 have hok:∀blk,bf β (fy bx args) w X blk→bf β jS w XV blk:=by
  rintro blk ⟨k1,k2,k3⟩
  refine ⟨k1,?_,?_⟩
  ·rintro (hX|⟨i,b,h1,h2,_,h3⟩)
   ·exact k2 hX
   exact k3 i b h1 h2 h3
  intro i b hi hb he
  obtain ⟨cs,rfl,_⟩:=Vb i b hi hb
  have sA:=cz i _ hi hb
  obtain ⟨_,b',hb',_⟩:=e1.born i ⟨_,sA,rfl⟩
  rcases tX hb' with h4|⟨s,es,h4,_⟩
  ·rw [sA] at h4;cases h4
   exact k3 i _ hb' rfl he
  rw [sA] at h4;cases h4
 have vb:∀{β1:Nat→Nat} {w':World},eS [] args=some nT→Ext β jS w β1 jS w'→∀blk,bf β1 jS w' XV blk→bf β bx w' X blk:=by
  rintro β1 w' Py Ao blk ⟨k1,k2,k3⟩
  refine ⟨k1,fun hX=>k2 (.inl hX),?_⟩
  intro i b hi hb he
  by_cases hk:∃b',jS[i]?=some b'∧b'.live=true
  ·obtain ⟨b',h1,h2⟩:=hk
   refine k3 i b' h1 h2 ?_
   rw [(Ao.born i ⟨b',h1,sx h2⟩).1];exact he
  refine k2 (.inr ⟨i,b,by rw [kg bx Py];exact hi,hb,?_,he⟩)
  intro b' hb'
  cases hq:b'.live with
  |false=>rfl
  |true=>exact absurd ⟨b',hb',hq⟩ hk
 have cxV:cF G β jS w XV:=by
  refine ⟨?_,?_,?_,?_,?_⟩
  ·rintro blk (hX|⟨i,b,h1,h2,_,rfl⟩)
   ·exact cx.xs blk hX
   exact dm.eX (cx.box i b (XF i b h1 h2)) h2
  ·intro g ds hg
   obtain ⟨k1,k2⟩:=cxS.zo g ds hg
   exact ⟨hok g k1,aX.mono (fun blk hb=>⟨hok blk hb,rfl⟩) g (fun _=>rfl) _ _ k2⟩
  ·intro i j bi bj hi hj li lj
   exact cx.inj i j bi bj (cz i bi hi li) (cz j bj hj lj) li lj
  ·intro i b hi
   rcases mA hl hi with ⟨cs,rfl,hcs,eE⟩|rfl|rfl
   ·have hb:=cx.box i _ (cz i _ hi rfl)
    simp only [dm] at hb ⊢
    obtain ⟨c,e,g1,g2⟩:=hb
    exact ⟨c,e,g1,mw (jS:=jS) (fun b hb=>⟨rfl,hb⟩) (fun hd d v hv=>aJ.mono (fun blk hb=>⟨hok blk (by rw [kg bx (hdt hd)];exact hb),rfl⟩) d v hv) cs _ hcs eE g2⟩
   ·trivial
   trivial
  intro i b hi hb
  rintro (hX|⟨j,b2,h1,h2,h3,h4⟩)
  ·exact cx.apart i b (cz i b hi hb) hb hX
  have:j=i:=cx.inj j i b2 b (XF j b2 h1 h2) (cz i b hi hb) h2 hb h4
  subst this
  rw [h3 b hi] at hb;cases hb
 have VS:ak β jS w (bf β jS w XV) nT vs:=mz hok _ _ hnm hargs
 refine jC.mono (hf β w vs XV cxV VS) ?_
 rintro e w' ⟨β1,Ao,SU,hres⟩
 have ex:Ext β bx w β bx w':=⟨Ao.os,Ao.tape,Ao.output,Ao.size,fun k hk hn=>Ao.block k hk (fun i b hi hb=>hn i b (cz i b hi hb) hb),Ao.shape,fun i hi=>⟨rfl,hi⟩,fun i b h1 h2=>.inr ⟨i,b,h1,h2,rfl⟩⟩
 cases e with
 |returned u=>
  refine ⟨u,rfl,ex,cx.step ex ?_ cx.inj,?_⟩
  ·intro i b hi
   by_cases hk:∃b',jS[i]?=some b'∧b'.live=true
   ·obtain ⟨b',h1,h2⟩:=hk
    have h3:=cz i b' h1 h2
    rw [hi] at h3;cases h3
    obtain ⟨cs,rfl,hcs,eE⟩:=Vb i b h1 h2
    refine .inr ?_
    have hb:=SU.box i _ h1
    simp only [dm] at hb ⊢
    obtain ⟨c,e,g1,g2⟩:=hb
    have x7:bT jS i:=⟨_,h1,rfl⟩
    rw [(Ao.born i x7).1] at g1
    exact ⟨c,e,g1,mw (jS:=jS) (fun b hb=>⟨((Ao.born b hb).1).symm,dH b hb⟩) (fun hd d v hv=>aJ.mono (fun blk hb=>⟨vb (hdt hd) Ao blk hb,rfl⟩) d v hv) cs _ hcs eE g2⟩
   refine .inl ⟨hi,fun hlv=>Ao.block _ (dm.eX (cx.box i b hi) hlv) ?_⟩
   intro j b2 hj uI he
   have:=cx.inj j i b2 b (cz j b2 hj uI) hi uI hlv he
   subst this
   exact hk ⟨b2,hj,uI⟩
  rcases hv with hfl|⟨Py,hsh⟩
  ·exact Gd v u hfl hres
  refine qB ?_ v u hsh hres
  rintro blk ⟨k1,k2,k3⟩
  refine ⟨k1,fun hX=>k2 (.inl hX),?_⟩
  intro i b hi hb he
  by_cases hk:∃b',jS[i]?=some b'∧b'.live=true
  ·obtain ⟨b',h1,h2⟩:=hk
   refine k3 i b' h1 h2 ?_
   rw [(Ao.born i ⟨b',h1,sx h2⟩).1];exact he
  refine k2 (.inr ⟨i,b,by rw [kg bx Py];exact hi,hb,?_,he⟩)
  intro b' hb'
  cases hq:b'.live with
  |false=>rfl
  |true=>exact absurd ⟨b',hb',hq⟩ hk
 |panicked ch=>exact hres.elim
 |outgrown=>exact hres.elim
theorem lG {f:Nat} {args:List AV} {vs:List Value} {v:AV} {K:AV→List aA→Prop} (cx:cF G β bx w X) (hx:ak β bx w (bf β bx w X) args vs) (h:mZ (bt P G) f args bx v) (hK:K v bx):
 jC P f ⟨vs⟩ w fun e w'=>∃β' aL v u,e=.returned u∧Ext β bx w β' aL w'∧cF G β' aL w' X∧aj β' aL w' (bf β' aL w' X) v u∧K v aL:=
 jC.mono (yj cx hx h) fun _ _ ⟨u,h1,h2,h3,h4⟩=>⟨β,bx,v,u,h1,h2,h3,h4,hK⟩
end
end Dem
end
section
open Go
namespace Dem
section
variable {P:Program} {T:Nat→Option TI} {G:Nat→Option (List D)} {β:Nat→Nat} {bx:List aA} {w:World} {X:Nat→Prop}
theorem Pz {a b:D} (h:nM a b=true):a=b:=by
 cases a<;>cases b<;>simp [nM] at h
 ·rw [h.1,h.2]
 rw [h]
theorem Gk {d:TypeDesc} {a b:D} {u v:Value} {ok:Nat→Prop} (ha:nL (cP d) a=true) (hb:nL (cP d) b=true) (hu:aJ w ok a u) (hv:aJ w ok b v):Instr.sameNow d u v=some (nM a b):=by
 cases d<;>cases a<;>simp [cP,nL] at ha<;>cases b<;>simp [cP,nL] at hb<;>simp only [aJ] at hu hv<;>subst hu hv
 ·subst ha hb;simp only [Instr.sameNow,nM,if_true,beq_self_eq_true,Bool.true_and];congr 1
 rename_i a b
 have:(⟨a.toArray⟩:ByteArray)=⟨b.toArray⟩↔a=b:=by
  constructor
  ·intro h;simpa using h
  rintro rfl;rfl
 by_cases h:a=b
 ·subst h;simp only [Instr.sameNow,nM];congr 1;show (a.toArray==a.toArray)=decide True;simp
 have h2:¬((⟨a.toArray⟩:ByteArray)=⟨b.toArray⟩):=fun e=>h (this.1 e)
 simp only [Instr.sameNow,nM];congr 1;show (a.toArray==b.toArray)=decide (a=b);rw [show decide (a=b)=false by simp [h]];exact beq_eq_false_iff_ne.2 (fun e=>h (by simpa using e))
theorem MW {kd:Kd} {a:D} {u v:Value} {ok:Nat→Prop} (ha:nL kd a=true) (hu:aJ w ok a u) (hv:aJ w ok a v):u=v:=by
 cases a<;>cases kd<;>simp [nL] at ha<;>simp only [aJ] at hu hv<;>rw [hu,hv]
theorem qE {d:TypeDesc} {ag:Bool} {n:Nat} {k:D} {kv:Value} {ok:Nat→Prop} (hk:nL (cP d) k=true) (hkv:aJ w ok k kv):
 ∀(es:List (List D)) (ms:List MapEntry) (i:Nat),aZ w ok ag es ms→(∀r∈es,rowIs (cP d) n r)→
  (qt es k=none∧Instr.findNow d kv ms i=some none∧∀v,sU es k v=es++[k::v])∨
  (∃(j:Nat) (m:MapEntry) (ds:List D),Instr.findNow d kv ms i=some (some (i+j,m.val))∧ms[j]?=some m∧qt es k=some ds∧ds.length=n∧m.key=kv∧gM w ok ag (k::ds) m∧∀v,sU es k v=es.set j (k::v))
 |[],ms,i,h,_=>by
  simp only [aZ] at h;subst h
  exact .inl ⟨rfl,rfl,fun _=>rfl⟩
 |r::rs,ms,i,h,hr=>by
  simp only [aZ] at h
  obtain ⟨m,FI,rfl,h1,h2⟩:=h
  obtain ⟨x,ds,rfl,hx,hl⟩:=hr r (by simp)
  have LG:=h1
  simp only [gM] at h1
  obtain ⟨g1,g2⟩:=h1
  have hs:=Gk hk hx hkv g1
  simp only [qt,sU,Instr.findNow,hs]
  cases he:nM k x with
  |true=>
   obtain rfl:=Pz he
   refine .inr ⟨0,m,ds,by simp,by simp,by simp,hl,MW hk g1 hkv,LG,fun v=>by simp⟩
  |false=>
   simp only [cond_false]
   rcases qE hk hkv rs FI (i+1) h2 (fun r hr'=>hr r (by simp [hr'])) with ⟨k1,k2,k3⟩|⟨j,m',ds',k1,k2,k3,k4,k5,k6,k7⟩
   ·exact .inl ⟨k1,k2,fun v=>by rw [k3];rfl⟩
   refine .inr ⟨j+1,m',ds',?_,by simpa using k2,k3,k4,k5,k6,fun v=>by rw [k7];rfl⟩
   rw [k1,show i+1+j=i+(j+1) by omega]
theorem run_checkKey {e:Bool} {t:Nat} {d:TypeDesc} {k:D} {kv:Value} {ok:Nat→Prop} (ht:P.underlying t=some d) (hk:nL (cP d) k=true) (hkv:aJ w ok k kv):(Instr.checkKey e 10000 t kv).run P w=.ok () w:=by
 show (Instr.checkKey e (9999+1) t kv).run P w=.ok () w
 unfold Instr.checkKey
 cases d<;>cases k<;>simp [cP,nL] at hk<;>simp only [aJ] at hkv<;>subst hkv<;>simp [aQ ht]
theorem run_findKey {t:Nat} {d:TypeDesc} {kv:Value} {ms:List MapEntry} {r:Option (Nat×Value)} (ht:P.underlying t=some d) (h:Instr.findNow d kv ms 0=some r):(Instr.findKey t kv ms).run P w=.ok r w:=by
 unfold Instr.findKey
 simp [aQ ht,h]
theorem aZ.append {ag:Bool} {ok:Nat→Prop}:∀{es:List (List D)} {ms:List MapEntry} {fs:List (List D)} {ns:List MapEntry},aZ w ok ag es ms→aZ w ok ag fs ns→aZ w ok ag (es++fs) (ms++ns)
 |[],ms,fs,ns,h,g=>by simp only [aZ] at h;subst h;exact g
 |r::rs,ms,fs,ns,h,g=>by
  simp only [aZ] at h
  obtain ⟨m,FI,rfl,h1,h2⟩:=h
  simp only [List.cons_append,aZ]
  exact ⟨m,_,rfl,h1,h2.append g⟩
theorem aZ.set {ag:Bool} {ok:Nat→Prop} {r:List D} {m:MapEntry} (hm:gM w ok ag r m):∀{es:List (List D)} {ms:List MapEntry} (j:Nat),aZ w ok ag es ms→aZ w ok ag (es.set j r) (ms.set j m)
 |[],ms,j,h=>by simp only [aZ] at h;subst h;simp [aZ]
 |x::xs,ms,0,h=>by
  simp only [aZ] at h
  obtain ⟨m',FI,rfl,h1,h2⟩:=h
  simp only [List.set_cons_zero,aZ]
  exact ⟨m,FI,rfl,hm,h2⟩
 |x::xs,ms,j+1,h=>by
  simp only [aZ] at h
  obtain ⟨m',FI,rfl,h1,h2⟩:=h
  simp only [List.set_cons_succ,aZ]
  exact ⟨m',_,rfl,h1,aZ.set hm j h2⟩
theorem cC.Ya {ok:Nat→Prop}:∀{ds:List D} {vs:List Value},cC w ok ds vs→ak β bx w ok (ds.map .d) vs
 |[],vs,h=>by simp only [cC] at h;subst h;simp [ak]
 |d::ds,vs,h=>by
  simp only [cC] at h
  obtain ⟨v,r,rfl,h1,h2⟩:=h
  simp only [List.map_cons,ak]
  exact ⟨v,r,rfl,by simpa [aj] using h1,h2.Ya⟩
theorem cC.length {ok:Nat→Prop}:∀{ds:List D} {vs:List Value},cC w ok ds vs→vs.length=ds.length
 |[],vs,h=>by simp only [cC] at h;subst h;rfl
 |d::ds,vs,h=>by
  simp only [cC] at h
  obtain ⟨v,r,rfl,_,h2⟩:=h
  simp [cC.length h2]
theorem gM.val {ag:Bool} {ok:Nat→Prop} {k:D} {ds:List D} {m:MapEntry} (h:gM w ok ag (k::ds) m) {n:Nat} (hn:ds.length=n) {v:AV} (hv:cH ag n (ds.map .d)=some v):aj β bx w ok v m.val:=by
 simp only [gM] at h
 obtain ⟨_,cs,h2,h3,h4⟩:=h
 have hl:=h4.length
 have ha:=h4.Ya (β:=β) (bx:=bx)
 cases ag with
 |true=>
  simp only [cH,cond_true] at hv
  rw [cond_true] at h2
  have hle:Nat.ble n (ds.map AV.d).length=true:=by simp [hn]
  simp only [hle,cond_true,osI] at hv
  subst hv
  rw [h2];simp only [aj]
  refine ⟨cs,rfl,?_⟩
  rw [List.take_of_length_le (by simp [hn])];exact ha
 |false=>
  simp only [cH,cond_false] at hv
  rw [cond_false] at h2
  have h1:=h3 rfl
  obtain ⟨c,rfl⟩:∃c,cs=[c]:=by
   match cs,h1 with
   |[c],_=>exact ⟨c,rfl⟩
  cases ds with
  |nil=>simp at hl
  |cons d ds=>
   simp at hv;subst hv
   rw [h2]
   simp only [List.map_cons,ak] at ha
   obtain ⟨u,us,e,g,_⟩:=ha
   simp at e;obtain ⟨rfl,rfl⟩:=e
   simpa [aj] using g
theorem zH {r c:Nat} {es:Array MapEntry} (h:w.heap[r]?=some (.map es c)):(getObj r).run P w=.ok (.map es c) w:=by simp [getObj,Sem.run,h]
theorem run_setObj_map {r c:Nat} {es:Array MapEntry} (o:Obj) (h:w.heap[r]?=some (.map es c)):(setObj r o).run P w=.ok () {w with heap:=w.heap.setIfInBounds r o}:=by simp [setObj,Sem.run,h]
theorem C8 (hT:kH P T) (cx:cF G β bx w X) {ty:Nat} {m:AV} {u:Value} {tk te:TI} {ag:Bool} {es:List (List D)} (h:Aa T ty m bx=some (tk,te,ag,es)) (hu:aj β bx w (bf β bx w X) m u):
 ∃(kt et:Nat) (dk:TypeDesc),P.underlying ty=some (.map kt et)∧P.underlying kt=some dk∧tk.kd=cP dk∧qc P et=some te∧
  ((u=.map none∧es=[])∨∃r ms clock,u=.map (some r)∧w.heap[r]?=some (.map ms clock)∧kR ms clock∧aZ w (bf β bx w X) ag es ms.toList):=by
 unfold Aa at h
 split at h
 ·rename_i ti ht
  obtain ⟨i,d,h1,h2,h3,h4,h5,h6⟩:=aI (hT.ti _ _ ht)
  split at h
  ·rename_i k e hk
   rw [h5] at hk
   cases d<;>simp [cP] at hk
   obtain ⟨wF,hk2⟩:=hk
   rw [wF,hk2] at h2
   have fin:∀{LJ VT:TI} {Sv:Bool} {es':List (List D)},T k=some LJ→T e=some VT→(LJ,VT,Sv,es')=(tk,te,ag,es)→
    ((u=.map none∧es=[])∨∃r ms clock,u=.map (some r)∧w.heap[r]?=some (.map ms clock)∧kR ms clock∧aZ w (bf β bx w X) ag es ms.toList)→∃(kt et:Nat) (dk:TypeDesc),P.underlying ty=some (.map kt et)∧P.underlying kt=some dk∧tk.kd=cP dk∧qc P et=some te∧
    ((u=.map none∧es=[])∨∃r ms clock,u=.map (some r)∧w.heap[r]?=some (.map ms clock)∧kR ms clock∧aZ w (bf β bx w X) ag es ms.toList):=by
    intro LJ VT Sv es' a1 a2 a3 a4
    simp only [Prod.mk.injEq] at a3
    obtain ⟨rfl,rfl,rfl,rfl⟩:=a3
    obtain ⟨_,dk,_,b2,_,_,b5,_⟩:=aI (hT.ti _ _ a1)
    exact ⟨k,e,dk,h2,b2,b5,hT.ti _ _ a2,a4⟩
   split at h
   ·rename_i LJ VT Sv es' a1 a2
    simp only [osI] at h
    refine fin a1 a2 h ?_
    simp only [Prod.mk.injEq] at h
    obtain ⟨rfl,rfl,rfl,rfl⟩:=h
    simp only [aj,aJ] at hu
    obtain ⟨r,ms,clock,g1,_,g2,g3,g4⟩:=hu
    exact .inr ⟨r,ms,clock,g1,g2,g3,g4⟩
   ·rename_i LJ VT a1 a2
    simp only [osI] at h
    refine fin a1 a2 h ?_
    simp only [Prod.mk.injEq] at h
    obtain ⟨rfl,rfl,rfl,rfl⟩:=h
    simp only [aj,KC.val] at hu
    exact .inl ⟨hu,rfl⟩
   ·rename_i LJ VT b a1 a2
    split at h
    ·rename_i Sv es' hb
     simp only [osI] at h
     refine fin a1 a2 h ?_
     simp only [Prod.mk.injEq] at h
     obtain ⟨rfl,rfl,rfl,rfl⟩:=h
     simp only [aj] at hu
     obtain ⟨ms,clock,g2,g3,g4⟩:=cx.box b _ hb
     exact .inr ⟨β b,ms,clock,hu.1,g2,g3,g4⟩
    cases h
   cases h
  cases h
 cases h
theorem Jj (hT:kH P T) (cx:cF G β bx w X) {ty:Nat} {m:AV} {u kv:Value} {k:D} {tk te:TI} {ag Cq:Bool} {es:List (List D)} (h:Aa T ty m bx=some (tk,te,ag,es)) (hu:aj β bx w (bf β bx w X) m u)
 (hkv:aJ w (bf β bx w X) k kv) (hf:wI tk te ag es k) {K:AV→Prop} (hK:oG te Cq K (qt es k)):
 ∃v x,(Instr.lookup ty u kv Cq).run P w=.ok x w∧aj β bx w (bf β bx w X) v x∧K v:=by
 obtain ⟨kt,et,dk,u1,u2,u3,u4,hu⟩:=C8 hT cx h hu
 obtain ⟨f1,f2,f3⟩:=hf
 rw [u3] at f2 f3
 have none_:∀ms:Array MapEntry,(∃e:Bool,Instr.findNow dk kv ms.toList 0=some none)→qt es k=none→(u=.map none∧ms=#[]∨∃r clock,u=.map (some r)∧w.heap[r]?=some (.map ms clock))→
  ∃v x,(Instr.lookup ty u kv Cq).run P w=.ok x w∧aj β bx w (bf β bx w X) v x∧K v:=by
  rintro ms ⟨_,hfn⟩ hg hms
  rw [hg] at hK
  simp only [oG] at hK
  split at hK
  ·rename_i z hz
   obtain ⟨zv,z1,z2⟩:=F8 (β:=β) (bx:=bx) (w:=w) (ok:=bf β bx w X) u4 hz
   refine ⟨_,bif Cq then .tuple #[zv,.bool false] else zv,?_,?_,hK⟩
   ·rcases hms with ⟨rfl,rfl⟩|⟨r,clock,rfl,hh⟩
    ·unfold Instr.lookup
     cases Cq<;>simp [aQ u1,run_checkKey u2 f2 hkv,run_findKey (w:=w) u2 hfn,z1]
    unfold Instr.lookup
    cases Cq<;>simp [aQ u1,zH hh,run_checkKey u2 f2 hkv,run_findKey (w:=w) u2 hfn,z1]
   cases Cq with
   |true=>simp only [cond_true,aj,ak,aJ];exact ⟨_,rfl,_,_,rfl,z2,_,_,rfl,rfl,rfl⟩
   |false=>exact z2
  exact hK.elim
 rcases hu with ⟨rfl,rfl⟩|⟨r,ms,clock,rfl,hh,hst,PA⟩
 ·exact none_ #[] ⟨true,rfl⟩ rfl (.inl ⟨rfl,rfl⟩)
 rcases qE f2 hkv es ms.toList 0 PA f3 with ⟨k1,k2,_⟩|⟨j,e,ds,k1,k2,k3,k4,k5,k6,_⟩
 ·exact none_ ms ⟨true,k2⟩ k1 (.inr ⟨r,clock,rfl,hh⟩)
 rw [k3] at hK
 simp only [oG] at hK
 split at hK
 ·rename_i v hv
  have hvv:=k6.val (β:=β) (bx:=bx) k4 (by rw [←f1] at hv;exact hv)
  refine ⟨_,bif Cq then .tuple #[e.val,.bool true] else e.val,?_,?_,hK⟩
  ·unfold Instr.lookup
   cases Cq<;>simp [aQ u1,zH hh,run_checkKey u2 f2 hkv,run_findKey (w:=w) u2 k1]
  cases Cq with
  |true=>simp only [cond_true,aj,ak,aJ];exact ⟨_,rfl,_,_,rfl,hvv,_,_,rfl,rfl,rfl⟩
  |false=>exact hvv
 exact hK.elim
theorem Au {b:Nat} {B B':aA} {o o':Obj} (hb:bx[b]?=some B) (hl:B.live=true) (hl':B'.live=true) (hh:w.heap[β b]?=some o) (ho:∀c e f,o≠.cells c e f):
 Ext β bx w β (bx.set b B') {w with heap:=w.heap.setIfInBounds (β b) o'}:=by
 refine ⟨rfl,rfl,rfl,by simp,?_,?_,fun i hi=>⟨rfl,iJ (sx hl') hi⟩,?_⟩
 ·intro k hk hlk
  have hne:β b≠k:=hlk b _ hb hl
  simp [Array.getElem?_setIfInBounds_ne hne]
 ·intro k c e f hk
  have hne:β b≠k:=by rintro rfl;rw [hh] at hk;cases hk;exact ho c e f rfl
  exact ⟨c,by simp [Array.getElem?_setIfInBounds_ne hne,hk],rfl⟩
 intro i Bi hi mT
 rcases aK hi with ⟨rfl,_,_⟩|⟨_,h⟩
 ·exact .inr ⟨i,_,hb,hl,rfl⟩
 exact .inr ⟨i,Bi,h,mT,rfl⟩
theorem Jk (cx:cF G β bx w X) {b:Nat} {B B':aA} {o o':Obj} (hb:bx[b]?=some B) (hl:B.live=true) (hl':B'.live=true) (hh:w.heap[β b]?=some o) (ho:∀c e f,o≠.cells c e f)
 (hB:dm β (bx.set b B') {w with heap:=w.heap.setIfInBounds (β b) o'} (bf β (bx.set b B') {w with heap:=w.heap.setIfInBounds (β b) o'} X) B' (β b)):
 cF G β (bx.set b B') {w with heap:=w.heap.setIfInBounds (β b) o'} X:=by
 refine cx.step (Au hb hl hl' hh ho) ?_ ?_
 ·intro i Bi hi
  rcases aK hi with ⟨rfl,rfl,_⟩|⟨hne,h⟩
  ·exact .inr hB
  refine .inl ⟨h,fun mT=>?_⟩
  have Pq:β b≠β i:=fun he=>hne (cx.inj b i _ Bi hb h hl mT he).symm
  simp [Array.getElem?_setIfInBounds_ne Pq]
 intro i j bi bj hi hj mT oQ he
 rcases aK hi with ⟨rfl,rfl,_⟩|⟨h1,h2⟩<;>rcases aK hj with ⟨rfl,rfl,_⟩|⟨h3,h4⟩
 ·rfl
 ·exact cx.inj _ _ _ _ hb h4 hl oQ he
 ·exact cx.inj _ _ _ _ h2 hb mT hl he
 exact cx.inj _ _ _ _ h2 h4 mT oQ he
theorem S2 {ok:Nat→Prop} {x:AV} {y:D} {u:Value} (hn:cE [x]=true) (h:x.rY bx=some y) (hx:aj β bx w ok x u):aJ w ok y u:=by
 cases x with
 |d x=>simp only [AV.rY,osI] at h;subst h;simpa [aj] using hx
 |cl es=>
  simp only [AV.rY,osI] at h;subst h
  simp only [aj] at hx
  obtain ⟨base,rfl,g⟩:=hx
  simp only [aJ];exact ⟨base,_,rfl,Nat.le_refl _,g⟩
 |ow b sz n=>simp [cE] at hn
 |fn f cs=>
  cases cs with
  |nil=>
   simp only [AV.rY,osI] at h;subst h
   simp only [aj,ak] at hx
   obtain ⟨vs,rfl,rfl⟩:=hx
   simp [aJ,Ac]
  |cons c cs=>simp [AV.rY] at h
 |_=>simp [AV.rY] at h
theorem Et {x:AV} {xs:List AV} (h:cE (x::xs)=true):cE [x]=true∧cE xs=true:=by
 cases x<;>simp_all [cE]
theorem Av {ok:Nat→Prop}:∀{xs:List AV} {ys:List D} {us:List Value},cE xs=true→iU bx xs=some ys→ak β bx w ok xs us→cC w ok ys us
 |[],ys,us,_,h,hx=>by simp [iU] at h;subst h;simp only [ak] at hx;subst hx;simp [cC]
 |x::xs,ys,us,hn,h,hx=>by
  simp only [iU] at h
  split at h
  ·rename_i y ys' h1 h2
   simp only [osI] at h;subst h
   simp only [ak] at hx
   obtain ⟨u,Pd,rfl,g1,g2⟩:=hx
   obtain ⟨n1,n2⟩:=Et hn
   simp only [cC]
   exact ⟨u,Pd,rfl,S2 n1 h1 g1,Av n2 h2 g2⟩
  simp at h
theorem Eu {kd:Kd} {k:D} {kv:Value} {ok:Nat→Prop} (hk:nL kd k=true) (h:aJ w ok k kv):Instr.sameBits 10000 kv kv=true:=by
 cases k<;>cases kd<;>simp [nL] at hk<;>simp only [aJ] at h<;>subst h
 ·simp [Instr.sameBits]
 rename_i s
 show (s.toArray==s.toArray)=true
 simp
theorem tY {ms:Array MapEntry} {j:Nat} {m:MapEntry} (h:ms.toList[j]?=some m) (f:MapEntry→MapEntry):(ms.modify j f).toList=ms.toList.set j (f m):=by
 rw [Array.toList_modify]
 obtain ⟨hj,rfl⟩:=List.getElem?_eq_some_iff.1 h
 apply List.ext_getElem?
 intro i
 rw [List.getElem?_modify,List.getElem?_set]
 by_cases hi:j=i
 ·subst hi
  have hj2:j<ms.size:=by simpa using hj
  simp [hj2]
 simp [hi]
theorem PB {ok:Nat→Prop} {x:AV} {xv:Value} {vs:List AV} {ds:List D} {k:D} {e:MapEntry} {ag:Bool} (hc:x.cells?=some vs) (hx:aj β bx w ok x xv) (hn:cE vs=true) (hd:iU bx vs=some ds) (ha:x.isAgg=ag)
 (hk:aJ w ok k e.key) (he:e.val=xv):gM w ok ag (k::ds) e:=by
 simp only [gM]
 refine ⟨hk,?_⟩
 rw [he]
 cases x with
 |agg cs=>
  simp only [AV.cells?] at hc
  cases hs:uJ cs with
  |false=>simp [hs] at hc
  |true=>
   simp only [hs,cond_true,osI] at hc
   subst hc
   simp only [AV.isAgg] at ha;subst ha
   simp only [aj] at hx
   obtain ⟨us,rfl,g⟩:=hx
   exact ⟨us,rfl,fun h=>(by cases h),Av hn hd g⟩
 |any=>simp [AV.cells?] at hc
 |vw _ _ _ _ _ _=>simp [AV.cells?] at hc
 |ek _=>simp [AV.cells?] at hc
 |cond _ _=>simp [AV.cells?] at hc
 |_=>
  simp only [AV.cells?,osI] at hc
  subst hc
  simp only [AV.isAgg] at ha;subst ha
  exact ⟨[xv],rfl,fun _=>rfl,Av hn hd (by simp only [ak];exact ⟨xv,[],rfl,hx,rfl⟩)⟩
theorem Gl (hT:kH P T) (cx:cF G β bx w X) {ty b:Nat} {m x:AV} {u kv xv:Value} {k:D} {tk te:TI} {ag:Bool} {es:List (List D)} {vs:List AV} {ds:List D} (h:Eh T ty m bx=some (b,tk,te,ag,es)) (hu:aj β bx w (bf β bx w X) m u)
 (hkv:aJ w (bf β bx w X) k kv) (FJ:aj β bx w (bf β bx w X) x xv) (hc:x.cells?=some vs) (hn:cE vs=true) (hd:iU bx vs=some ds) (hf:wI tk te ag es k) (ha:x.isAgg=ag):
 ∃w',(Instr.mapUpdate ty u kv xv).run P w=.ok () w'∧Ext β bx w β (bx.set b (.mp ag (sU es k ds))) w'∧cF G β (bx.set b (.mp ag (sU es k ds))) w' X:=by
 unfold Eh at h
 split at h
 case h_2=>cases h
 rename_i b' LJ VT Sv es' hm
 simp only [osI,Prod.mk.injEq] at h
 obtain ⟨rfl,rfl,rfl,rfl,rfl⟩:=h
 obtain ⟨kt,et,dk,u1,u2,u3,u4,_⟩:=C8 hT cx hm hu
 obtain ⟨f1,f2,f3⟩:=hf
 rw [u3] at f2 f3
 have hb:bx[b']?=some (.mp Sv es'):=by
  unfold Aa at hm
  split at hm
  ·split at hm
   ·split at hm
    ·rename_i _ _ h0;cases h0
    ·rename_i _ _ h0;cases h0
    ·rename_i _ _ h0
     cases h0
     split at hm
     ·rename_i hb
      simp only [osI,Prod.mk.injEq] at hm
      obtain ⟨_,_,rfl,rfl⟩:=hm
      exact hb
     cases hm
    cases hm
   cases hm
  cases hm
 simp only [aj] at hu
 obtain ⟨rfl,_⟩:=hu
 obtain ⟨ms,clock,hh,⟨VU,st2⟩,PA⟩:=cx.box b' _ hb
 have main:∀(FI:Array MapEntry) (clock':Nat),kR FI clock'→aZ w (bf β bx w X) Sv (sU es' k ds) FI.toList→
  (Instr.mapUpdate ty (.map (some (β b'))) kv xv).run P w=.ok () {w with heap:=w.heap.setIfInBounds (β b') (.map FI clock')}→
  ∃w',(Instr.mapUpdate ty (.map (some (β b'))) kv xv).run P w=.ok () w'∧Ext β bx w β (bx.set b' (.mp Sv (sU es' k ds))) w'∧cF G β (bx.set b' (.mp Sv (sU es' k ds))) w' X:=by
  intro FI clock' g1 g2 g3
  have ex:Ext β bx w β (bx.set b' (.mp Sv (sU es' k ds))) {w with heap:=w.heap.setIfInBounds (β b') (.map FI clock')}:=Au hb rfl rfl hh (fun c e f=>by simp)
  refine ⟨_,g3,ex,Jk cx hb rfl rfl hh (fun c e f=>by simp) ?_⟩
  exact ⟨FI,clock',by simp [eW hh],g1,aZ.mono (ex.keeps X) _ _ _ g2⟩
 rcases qE f2 hkv es' ms.toList 0 PA f3 with ⟨k1,k2,k3⟩|⟨j,e,ds',k1,k2,k3,k4,k5,k6,k7⟩
 ·refine main (ms.push {key:=kv,val:=xv,born:=clock}) (clock+1) ⟨?_,?_⟩ ?_ ?_
  ·rw [Array.all_push]
   simp only [Bool.and_eq_true,decide_eq_true_eq]
   refine ⟨?_,by omega⟩
   rw [Array.all_eq_true] at VU ⊢
   intro i hi
   have:=VU i hi
   simp only [decide_eq_true_eq] at this ⊢
   omega
  ·rw [Array.toList_push,List.map_append,List.nodup_append]
   refine ⟨st2,by simp,?_⟩
   intro a Vc c Cr
   simp at Cr
   obtain ⟨m',hm',rfl⟩:=List.mem_map.1 Vc
   have:m'.born<clock:=by
    rw [Array.all_eq_true_iff_forall_mem] at VU
    simpa using VU m' (by simpa using hm')
   omega
  ·rw [k3,Array.toList_push]
   refine PA.append ?_
   simp only [aZ]
   exact ⟨_,[],rfl,PB hc FJ hn hd ha hkv rfl,rfl⟩
  unfold Instr.mapUpdate
  simp [aQ u1,zH hh,run_checkKey u2 f2 hkv,run_findKey (w:=w) u2 k2,run_setObj_map _ hh]
 have aaK:=Eu f2 hkv
 refine main (ms.modify j fun e=>{e with key:=kv,val:=xv}) clock ⟨?_,?_⟩ ?_ ?_
 ·rw [Array.all_eq_true_iff_forall_mem] at VU ⊢
  intro y hy
  have Yb:y∈(ms.modify j fun e=>{e with key:=kv,val:=xv}).toList:=Array.mem_def.1 hy
  rw [tY k2] at Yb
  rcases List.mem_or_eq_of_mem_set Yb with h1|h1
  ·exact VU y (by simpa using h1)
  subst h1
  exact VU e (by simpa using List.mem_of_getElem? k2)
 ·rw [tY k2,List.map_set]
  have:(ms.toList.map (·.born)).set j ({e with key:=kv,val:=xv}:MapEntry).born=ms.toList.map (·.born):=by
   apply List.ext_getElem?
   intro i
   rw [List.getElem?_set]
   by_cases hi:j=i
   ·subst hi
    have:=(List.getElem?_eq_some_iff.1 k2).1
    simp [k2] at this ⊢
    simp [this]
   simp [hi]
  rw [this];exact st2
 ·rw [k7,tY k2]
  exact aZ.set (PB hc FJ hn hd ha hkv rfl) j PA
 unfold Instr.mapUpdate
 simp only [Nat.zero_add] at k1
 have k2':ms[j]?=some e:=by simpa using k2
 simp [aQ u1,zH hh,run_checkKey u2 f2 hkv,run_findKey (w:=w) u2 k1,run_setObj_map _ hh,Instr.keyThatStays,k2',k5,aaK]
end
end Dem
end
section
open Go
namespace Dem
section
variable {P:Program} {T:Nat→Option TI} {G:Nat→Option (List D)} {β:Nat→Nat} {bx:List aA} {w:World} {X:Nat→Prop}
theorem Jl (cx:cF G β bx w X) {e size cap:Nat} {rows:List (List D)} {vs zs:List Value} (hl:∀r∈rows,r.length=size) (hv:ak β bx w (bf β bx w X) (rows.flatten.map .d) vs)
 (hlen:rows.length≤cap):
 let w':World:={w with drawn:=w.drawn+1,heap:=w.heap.push (.cells ⟨vs++zs⟩ e)}
 Ext β bx w β bx w'∧cF G β bx w' X∧aj β bx w' (bf β bx w' X) (.d (.sl rows)) (.slice (some ⟨w.heap.size,0,none⟩) rows.length cap):=by
 intro w'
 have SU:=qw cx (fB w)
 have Ao:Ext β bx w β bx {w with drawn:=w.drawn+1}:=jh (fB w)
 have X5:Ext β bx {w with drawn:=w.drawn+1} β bx w':=uN (w:={w with drawn:=w.drawn+1}) (.cells ⟨vs++zs⟩ e)
 have hnew:w'.heap[w.heap.size]?=some (.cells ⟨vs++zs⟩ e):=jv {w with drawn:=w.drawn+1} _
 refine ⟨Ao.trans X5,FT (w:={w with drawn:=w.drawn+1}) SU _,?_⟩
 simp only [aj,aJ]
 refine ⟨_,_,rfl,hlen,.inr ⟨w.heap.size,0,size,rfl,⟨eW hnew,fun hX=>?_,fun i b hb hlv=>?_⟩,?_⟩⟩
 ·exact Nat.lt_irrefl _ (cx.xs _ hX)
 ·have:=(cx.box i b hb).eX hlv;omega
 refine m0 (β:=β) (bx:=bx) rows 0 vs hl ?_ (ak.mono ((Ao.trans X5).eT X) _ _ hv)
 intro k u hk
 have hk':k<vs.length:=by
  rcases Nat.lt_or_ge k vs.length with h|h
  ·exact h
  simp [List.getElem?_eq_none h] at hk
 show World.cell? w' ⟨w.heap.size,0+k,none⟩=some u
 simp only [World.cell?,hnew]
 simp [List.getElem?_append_left hk',hk]
theorem C9 (hT:kH P T) (cx:cF G β bx w X) {ev:Operand→AV} {ρ:Operand→Value} {o:Oper} (hρ:∀x∈o.op.operands.toList,aj β bx w (bf β bx w X) (ev x) (ρ x))
 {c:Prop} {es:List (List D)} (hr:Ct T ev o.op=some (c,es)) (hc:c):dB G β bx w X ((execOp ρ o).run P w) (.d (.sl es)) bx:=by
 obtain ⟨dst,op,type,pos,after,guard⟩:=o
 simp only at hρ hr
 unfold Ct at hr
 split at hr
 case h_2=>cases hr
 rename_i b args ats
 split at hr
 case h_2=>cases hr
 rename_i x y t u ha VR
 cases ht:T t with
 |none=>simp [ht] at hr
 |some ti=>
 cases hu:T u with
 |none=>simp [ht,hu] at hr
 |some tu=>
 simp only [ht,hu] at hr
 obtain ⟨i,d,h1,h2,h3,h4,h5,h6⟩:=aI (hT.ti _ _ ht)
 obtain ⟨ui,ud,u1,u2,u3,u4,u5,u6⟩:=aI (hT.ti _ _ hu)
 cases hk:ti.kd with
 |slice e=>
  cases hku:tu.kd with
  |slice e2=>
   rw [hk] at hr h5
   rw [hku] at hr u5
   have Em:∀k,ud≠.int k:=by rintro k rfl;cases u5
   cases d<;>simp [cP] at h5
   subst h5
   cases hte:T e with
   |none=>simp [hte] at hr
   |some te=>
   obtain ⟨ei,ed,g1,g2,g3,g4,g5,g6⟩:=aI (hT.ti _ _ hte)
   simp only [hte] at hr
   cases hz:eP te with
   |false=>simp [hz] at hr
   |true=>
   obtain ⟨z,hz1,Sr,Z5,Z6⟩:=mq hz
   obtain ⟨zv,zc,k1,k2,k3,_⟩:=uU (β:=β) (bx:=bx) (w:=w) (ok:=bf β bx w X) (hT.ti _ _ hte) hz1
   have hzl:zc.length=ei.size:=by rw [ak.length k3,Sr,g3]
   have zG:ei.zero=some zv:=by
    cases hq:ei.zero with
    |none=>rw [g6,hq] at hz1;simp [AV.cells?] at hz1
    |some q=>have:=gP (P:=P) (w:=w) g1 hq;rw [k1] at this;simp at this;rw [this]
   simp only [hz,cond_true] at hr
   split at hr
   case h_2=>cases hr
   rename_i es x0 xr hx hy
   simp only [osI,Prod.mk.injEq] at hr
   obtain ⟨rfl,rfl⟩:=hr
   obtain ⟨Cr,Cs⟩:=hc
   have mx:x∈args.toList:=by rw [ha];simp
   have my:y∈args.toList:=by rw [ha];simp
   have hs:=hρ x (by simp [Op.operands,Call.operands];exact by simpa using mx)
   have hxx:=hρ y (by simp [Op.operands,Call.operands];exact by simpa using my)
   rw [hx] at hs
   rw [hy] at hxx
   obtain ⟨ws,f1,f2⟩:=lF (P:=P) (xs:=x0::xr) cx hxx (by simp [kQ,AV.rows]) (fun r hr=>Cs r (List.mem_append.2 (.inr hr)))
   rw [g3] at f1
   simp only [aj] at hs
   obtain ⟨base,hsx,hbase⟩:=hs
   have fin:∀(os:List Value),gz P w ei.size es.length (.slice base es.length es.length) os→ak β bx w (bf β bx w X) (es.flatten.map .d) os→dB G β bx w X ((execOp ρ ⟨dst,.call {callee:=.builtin .append,args:=args,argTypes:=ats},type,pos,after,guard⟩).run P w) (.d (.sl (es++x0::xr))) bx:=by
    intro os o1 o2
    obtain ⟨cap,rest,q1,q2,zs,q3,q4⟩:=jB h2 u2 Em g1 zG k2 hzl f1 o1 (by simp) (by omega) (by rw [←g4];exact Cr) type
    obtain ⟨r1,r2,r3⟩:=Jl (e:=e) (size:=te.size) (cap:=cap) (rows:=es++(x0::xr)) (zs:=zs) (vs:=os++ws) cx Cs (ak.flatten_append o2 f2) (by rw [List.length_append];exact q1)
    rw [List.length_append] at r3
    refine ⟨β,_,r1,r2,.inl ⟨_,?_,r3⟩⟩
    simp only [execOp,resolve,Sem.run_bind,Sem.run_pure,Result.andThen_ok,invoke,fO args ρ]
    have ea:ats=⟨[t,u]⟩:=Array.toList_inj.1 (by rw [VR])
    rw [ha,List.map_cons,List.map_cons,List.map_nil,hsx,ea]
    exact bJ _ q4
   cases es with
   |nil=>
    refine fin [] ⟨dw,by simp,fun w' _=>⟨dw,?_⟩⟩ (by simp [ak])
    cases base<;>simp [Builtin.firstCells,loadCells,loadCellsFrom]
   |cons e0 er=>
    obtain ⟨os,o1,o2⟩:=dV (P:=P) (β:=β) (bx:=bx) (cap:=(e0::er).length) (base:=base) (es:=e0::er) (ok:=bf β bx w X) (fun r hr=>Cs r (List.mem_append.2 (.inl hr))) (hbase.imp id fun ⟨blk,off,sz,a,_,c⟩=>⟨blk,off,sz,a,c⟩)
    rw [g3] at o1
    exact fin os o1 o2
  |_=>simp [hk,hku] at hr
 |_=>simp [hk] at hr
end
end Dem
end
section
open Go
namespace Dem
section
variable {P:Program} {T:Nat→Option TI} {G:Nat→Option (List D)} {N:Nat} {ds:List Deferred} {β:Nat→Nat} {bx:List aA} {w:World} {X:Nat→Prop}
structure Fr (G:Nat→Option (List D)) (N:Nat) (ds:List Deferred) (β:Nat→Nat) (w:World) (X:Nat→Prop) (s:St) (a:Act):Prop where
 cx:cF G β s.bx w X
 defers:a.defers=ds
 size:a.tmps.size=N
 yl:∀t,aj β s.bx w (bf β s.bx w X) (fW t s.sl) (a.tmps.getD t undef)
theorem VV {n m:Nat} (h:n≠m):Nat.beq n m=false:=by
 cases hb:Nat.beq n m with
 |false=>rfl
 |true=>exact absurd (Nat.eq_of_beq_eq_true hb) h
theorem oR (t u:Nat) (v:AV):∀sl:List (Nat×AV),fW t (put u v sl)=if t=u then v else fW t sl
 |[]=>by
  simp only [put,fW]
  by_cases h:t=u
  ·simp [h]
  have:Nat.beq t u=false:=VV h
  simp [this,h]
 |(k,x)::r=>by
  simp only [put]
  by_cases hk:u=k
  ·subst hk
   have hb:Nat.beq u u=true:=by simp
   simp only [hb,cond_true,fW]
   by_cases h:t=u
   ·simp [h]
   have:Nat.beq t u=false:=VV h
   simp [this,h]
  have hb:Nat.beq u k=false:=VV hk
  simp only [hb,cond_false,fW,oR t u v r]
  by_cases h:t=k
  ·subst h
   have:t≠u:=fun e=>hk e.symm
   simp [this]
  have:Nat.beq t k=false:=VV h
  simp [this]
variable {s:St} {a:Act}
theorem Fr.eval (hF:Fr G N ds β w X s a) (x:Operand):aj β s.bx w (bf β s.bx w X) (bV G s.sl x) (a.eval x):=by
 cases x with
 |tmp t=>exact hF.yl t
 |const v=>exact Ah v
 |global g=>
  simp only [bV]
  split
  ·rename_i ds hg
   obtain ⟨h1,h2⟩:=hF.cx.zo g ds hg
   simp only [aj];exact ⟨g,0,rfl,h1,h2⟩
  simp [aj]
 |func f=>simp only [bV,aj];exact ⟨[],rfl,by simp [ak]⟩
theorem ki {ok:Nat→Prop} {x:AV} {v:Value} (h:aj β bx w ok x v) (hk:x.ok):aj β bx w ok x.aM v:=by
 cases x with
 |cond p y=>simp only [aj] at h;exact h.1 hk
 |_=>exact h
theorem dA {sl:List (Nat×AV)}:∀{xs:List Operand},dG (fX G sl xs)→∀x∈xs,(bV G sl x).ok
 |[],_,x,hx=>by simp at hx
 |y::ys,h,x,hx=>by
  simp only [fX,List.map_cons,dG] at h
  rcases List.mem_cons.1 hx with rfl|hx
  ·exact h.1
  exact dA h.2 x hx
theorem Fr.put (hF:Fr G N ds β w X s a) {β':Nat→Nat} {aL:List aA} {w':World} (ex:Ext β s.bx w β' aL w') (mS:cF G β' aL w' X) {dst:Option Nat} (hd:ic N dst=true)
 {v:AV} {u:Value} (hv:aj β' aL w' (bf β' aL w' X) v u):Fr G N ds β' w' X ⟨eN dst v s.sl,aL⟩ (a.put dst u):=by
 cases dst with
 |none=>exact ⟨mS,hF.defers,hF.size,fun t=>aj.mono (ex.eT X) _ _ (hF.yl t)⟩
 |some d=>
  have VW:d<N:=by simpa [ic,Nat.blt_eq] using hd
  refine ⟨mS,hF.defers,by simp [Act.put,hF.size],?_⟩
  intro t
  simp only [eN,oR,Act.put]
  by_cases h:t=d
  ·subst h
   simp [Array.getD,hF.size,VW,hv]
  rw [if_neg h]
  have:(a.tmps.setIfInBounds d u).getD t undef=a.tmps.getD t undef:=by
   simp [Array.getD_eq_getD_getElem?,Array.getElem?_setIfInBounds_ne (Ne.symm h)]
  rw [this]
  exact aj.mono (ex.eT X) _ _ (hF.yl t)
def Aw (G:Nat→Option (List D)) (β:Nat→Nat) (bx:List aA) (w:World) (X:Nat→Prop) (a:Act) (dst:Option Nat) (K:AV→List aA→Prop) (next:Act→World→Prop):Prop:=
 ∀β' aL w' v u,Ext β bx w β' aL w'→cF G β' aL w' X→aj β' aL w' (bf β' aL w' X) v u→K v aL→next (a.put dst u) w'
def PC (G:Nat→Option (List D)) (β:Nat→Nat) (bx:List aA) (w:World) (X:Nat→Prop) (a:Act) (K:AV→List aA→Prop) (Qc:Exit→Act→World→Prop):Prop:=
 ∀β' aL w' v u,Ext β bx w β' aL w'→cF G β' aL w' X→aj β' aL w' (bf β' aL w' X) v u→K v aL→Qc (.panic [{v:=u,recovered:=false}]) a w'
theorem cO {o:Oper} {next:Act→World→Prop} {Qc:Exit→Act→World→Prop} {r:Result Next} {v:AV} {aL:List aA} {K:AV→List aA→Prop} (h:dB G β bx w X r v aL) (hK:K v aL)
 (hn:Aw G β bx w X a o.dst K next):o.upon P a next Qc r:=by
 obtain ⟨β',w',ex,cx,⟨u,rfl,hv⟩|⟨rfl,rfl⟩⟩:=h
 ·exact hn β' aL w' v u ex cx hv hK
 exact hn β' aL w' .any undef ex cx (by simp [aj]) hK
theorem gQ {o:Oper} {next:Act→World→Prop} {Qc:Exit→Act→World→Prop} {f:Nat} {vs:Array Value} {R:Ending→World→Prop} (h:jC P f vs w R)
 (hr:∀v w',R (.returned v) w'→next (a.put o.dst v) w') (hp:∀ch w',R (.panicked ch) w'→Qc (.panic ch) a w') (ho:∀w',R .outgrown w'→False):
 o.upon P a next Qc ((callFunc f vs).run P w):=by
 rcases h with ⟨h1,h2⟩|⟨v,w',h1,h2⟩
 ·rw [h1,Oper.upon_enter]
  refine Calls.mono h2 ?_
  intro e w' he
  cases e with
  |returned v=>exact hr v w' he
  |panicked ch=>exact hp ch w' he
  |outgrown=>exact (ho w' he).elim
 rw [h1];exact hr v w' h2
theorem kT {o:Oper} {f:Operand} {args:Array Operand} {ats:Array TypeId} (ho:o.op=.call {callee:=.value f,args:=args,argTypes:=ats}) {i:Nat} {fs cs:List Value} (hf:a.eval f=.func (.func i) ⟨fs⟩ ⟨cs⟩):
 (execOp a.eval o).run P w=(callFunc i ⟨fs++args.toList.map a.eval++cs⟩).run P w:=by
 have e:(⟨fs⟩:Array Value)++args.map a.eval++⟨cs⟩=(⟨fs++args.toList.map a.eval++cs⟩:Array Value):=by apply Array.ext';simp
 rw [←e]
 simp [execOp,ho,resolve,hf,Deferred.ofValue,invoke]
theorem ym (hT:kH P T) {o:Oper} {r:Operand} {nm:String} {args:Array Operand} {ats:Array TypeId} (ho:o.op=.call {callee:=.invoke r nm,args:=args,argTypes:=ats}) {t:Nat} {ti:TI} {f:Nat} {x:Value}
 (ht:T t=some ti) (hi:ti.inv=some (nm,f)) (hr:a.eval r=.iface t x):
 (execOp a.eval o).run P w=(callFunc f ⟨x::args.toList.map a.eval⟩).run P w:=by
 obtain ⟨i,d,h1,h2,h3,⟨mn,ms,mp,mf⟩,h4,h5,h6⟩:=MN (hT.ti _ _ ht) hi
 simp only at h5 h6
 have hp:mp.isEmpty=true:=by rw [Array.isEmpty_iff];exact Array.ext' (by simpa using h5)
 have hm:(Go.method (P.types.size+99+1) t x nm).run P w=.ok (f,x) w:=by
  unfold Go.method
  simp only [Sem.run_bind,mc h1,Result.andThen_ok,h4,h5,follow,h6,hp,if_true]
  cases d<;>first|exact absurd rfl (h3 _)|simp [receiverAt,aQ h2,Place.get,Result.andThen_ok]
 have e:(⟨x::args.toList.map a.eval⟩:Array Value)=#[x]++args.map a.eval:=by apply Array.ext';simp
 rw [e]
 have e0:(#[Value.iface t x]++args.map a.eval)[0]?=some (Value.iface t x):=by rw [Array.getElem?_append_left (by simp)];rfl
 have e1:(#[Value.iface t x]++args.map a.eval).extract 1 (#[Value.iface t x]++args.map a.eval).size=args.map a.eval:=by apply Array.ext';simp [List.take_of_length_le]
 have e2:P.types.size+Made.depth=P.types.size+99+1:=rfl
 simp only [execOp,ho,resolve,hr,pure_bind,invoke,e0,e1,callMethod,Sem.run_bind,run_program,Result.andThen_ok,e2,hm]
theorem Da (hT:kH P T) {ok:Nat→Prop} {x:AV} {nm:String} {args as:List AV} {i:Nat} {v:Value} {vs:List Value} (h:CW T x nm args=some (i,as)) (hx:aj β bx w ok x v) (hv:ak β bx w ok args vs):
 ∃t ti u,T t=some ti∧ti.inv=some (nm,i)∧v=.iface t u∧ak β bx w ok as (u::vs):=by
 unfold CW at h
 split at h
 ·split at h
  ·rename_i ti ht
   split at h
   ·rename_i n j hi
    split at h
    ·rename_i hn
     simp only [osI,Prod.mk.injEq] at h
     obtain ⟨rfl,rfl⟩:=h
     subst hn
     simp only [aj] at hx
     obtain ⟨u,rfl,hu⟩:=hx
     exact ⟨_,ti,u,ht,hi,rfl,by simp only [ak];exact ⟨_,_,rfl,hu,hv⟩⟩
    cases h
   cases h
  cases h
 cases h
theorem Db {f:Nat} {args:List AV} {vs:List Value} {K Kp:AV→List aA→Prop} (cx:cF G β bx w X) (hx:ak β bx w (bf β bx w X) args vs)
 (h:Lq (bt P G) f args bx K Kp):
 jC P f ⟨vs⟩ w fun e w'=>∃β' aL v u,Ext β bx w β' aL w'∧cF G β' aL w' X∧aj β' aL w' (bf β' aL w' X) v u∧
  ((e=.returned u∧K v aL)∨(e=.panicked [{v:=u,recovered:=false}]∧Kp v aL)):=by
 obtain ⟨args',qp,res,qq,hz,hf,hK⟩:=h
 obtain ⟨e1,c1,r1⟩:Ext β bx w β qp w∧cF G β qp w X∧ak β qp w (bf β qp w X) args' vs:=by
  rcases hz with ⟨rfl,rfl⟩|⟨hz,rfl⟩
  ·exact ⟨Ext.refl _ _ _,cx,hx⟩
  exact lX args bx args' vs cx hz hx
 refine jC.mono (hf β w vs X c1 r1) ?_
 rintro e w' ⟨β',ex,mS,hr⟩
 cases e with
 |returned u=>
  cases res with
  |ret v=>exact ⟨β',qq,v,u,e1.trans ex,mS,hr,.inl ⟨rfl,hK⟩⟩
  |MK v=>exact hr.elim
 |panicked ch=>
  cases res with
  |ret v=>exact hr.elim
  |MK v=>
   obtain ⟨u,rfl,hu⟩:=hr
   exact ⟨β',qq,v,u,e1.trans ex,mS,hu,.inr ⟨rfl,hK⟩⟩
 |outgrown=>cases res<;>exact hr.elim
theorem mB {ok:Nat→Prop} {x:AV} {args as:List AV} {i:Nat} {v:Value} {vs:List Value} (h:l6 x args=some (i,as)) (hx:aj β bx w ok x v) (hv:ak β bx w ok args vs):
 ∃fs cs,v=.func (.func i) ⟨fs⟩ ⟨cs⟩∧ak β bx w ok as (fs++vs++cs):=by
 unfold l6 at h
 split at h
 ·simp only [osI,Prod.mk.injEq] at h
  obtain ⟨rfl,rfl⟩:=h
  simp only [aj] at hx
  obtain ⟨us,rfl,hc⟩:=hx
  simp only [ak,aj] at hc
  obtain ⟨_,cs,rfl,⟨fs,rfl,hf⟩,hc⟩:=hc
  exact ⟨fs,cs,rfl,ak.append (ak.append hf hv) hc⟩
 ·rename_i jU _
  cases hp:j8 jU with
  |false=>simp [hp] at h
  |true=>
  simp only [hp,cond_true,osI,Prod.mk.injEq] at h
  obtain ⟨rfl,rfl⟩:=h
  simp only [aj] at hx
  obtain ⟨cs,rfl,hc⟩:=hx
  exact ⟨[],cs,ye hp hc _,ak.append hv hc⟩
 ·simp only [osI,Prod.mk.injEq] at h
  obtain ⟨rfl,rfl⟩:=h
  simp only [aj,aJ] at hx
  exact ⟨[],[],hx,by simpa using hv⟩
 cases h
theorem Ax (hT:kH P T) (_cx:cF G β bx w X) {t:Nat} {x i:AV} {u z:Value} {c:Prop} {ds:List D} (hr:z8 T t x i=some (c,ds)) (hc:c)
 (hx:aj β bx w (bf β bx w X) x u) (hi:aj β bx w (bf β bx w X) i z):
 ∃r,(Instr.indexAt t u z).run P w=.ok r w∧aj β bx w (bf β bx w X) (.ep ds) r:=by
 have fin:∀(e:Nat) (te:TI) (k:IntKind) (n:Int) (es:List (List D)) (base:Option Addr) (cap:Nat),P.underlying t=some (.slice e)→T e=some te→z=.int k n→u=.slice base es.length cap→
  (es=[]∨∃blk off sz,base=some ⟨blk,off,none⟩∧bf β bx w X blk∧ay w (bf β bx w X) blk sz es off)→
  (0≤n∧n<es.length∧(∀r∈es,r.length=te.size))→ds=es.getD n.toNat []→∃r,(Instr.indexAt t u z).run P w=.ok r w∧aj β bx w (bf β bx w X) (.ep ds) r:=by
  rintro e te k n es base cap hu hte rfl rfl aC ⟨h1,h2,h3⟩ rfl
  obtain ⟨ei,ed,g1,g2,g3,g4,g5,g6⟩:=aI (hT.ti _ _ hte)
  rcases aC with rfl|⟨blk,off,sz,rfl,hb,hrows⟩
  ·simp at h2;omega
  have hn:n.toNat<es.length:=by omega
  obtain ⟨l1,l2⟩:=ay.get n.toNat es off hrows hn
  have hsz:te.size=sz:=by
   rw [←l1]
   have hm:es.getD n.toNat []∈es:=by
    simp only [List.getD_eq_getElem?_getD,List.getElem?_eq_getElem hn,Option.getD_some]
    exact List.getElem_mem hn
   exact (h3 _ hm).symm
  refine ⟨.pointer (some ⟨blk,off+n.toNat*sz,none⟩),?_,?_⟩
  ·simp [Instr.indexAt,asIntOf,aQ hu,h1,h2,bQ g1,fN,←g3,hsz]
  simp only [aj];exact ⟨blk,_,rfl,hb,l2⟩
 unfold z8 at hr
 cases ht:T t with
 |none=>simp [ht] at hr
 |some ti=>
 obtain ⟨ii,d,h1,h2,h3,h4,h5,h6⟩:=aI (hT.ti _ _ ht)
 simp only [ht,h5] at hr
 split at hr
 ·rename_i e es k n hk
  cases d<;>simp [cP] at hk
  subst hk
  split at hr
  ·rename_i te hte
   simp only [osI,Prod.mk.injEq] at hr
   obtain ⟨rfl,rfl⟩:=hr
   simp only [aj,aJ] at hx hi
   obtain ⟨base,cap,e1,_,e2⟩:=hx
   exact fin _ te k n es base cap h2 hte hi e1 e2 hc rfl
  simp at hr
 ·rename_i e es k n hk
  cases d<;>simp [cP] at hk
  subst hk
  split at hr
  ·rename_i te hte
   simp only [osI,Prod.mk.injEq] at hr
   obtain ⟨rfl,rfl⟩:=hr
   simp only [aj,aJ] at hx hi
   obtain ⟨base,e1,e2⟩:=hx
   exact fin _ te k n es base _ h2 hte hi e1 e2 hc rfl
  simp at hr
 simp at hr
theorem Ay {ok:Nat→Prop} {p:Bool} {x y:AV} {u v:Value} (hx:p=true→aj β bx w ok x u) (hy:p=false→aj β bx w ok y v):aj β bx w ok (zZ p x y) (if p then u else v):=by
 unfold zZ
 split
 ·cases p
  ·simpa [aj,aJ] using hy rfl
  simpa [aj,aJ] using hx rfl
 ·cases p
  ·simpa [aj,aJ] using hy rfl
  simp [aj]
 simp [aj]
theorem Dc {b:Nat} {str:List UInt8} {pos pos':Nat} (hb:bx[b]?=some (.it str pos)) (hh:w.heap[β b]?=some (.stringIter ⟨str.toArray⟩ pos)):
 Ext β bx w β (bx.set b (.it str pos')) {w with heap:=w.heap.setIfInBounds (β b) (.stringIter ⟨str.toArray⟩ pos')}:=by
 have hlt:=eW hh
 refine ⟨rfl,rfl,rfl,by simp,?_,?_,fun i hi=>⟨rfl,iJ rfl hi⟩,?_⟩
 ·intro k hk hl
  have hne:β b≠k:=hl b _ hb rfl
  simp [Array.getElem?_setIfInBounds_ne hne]
 ·intro k c e f hk
  have hne:β b≠k:=by rintro rfl;rw [hh] at hk;cases hk
  exact ⟨c,by simp [Array.getElem?_setIfInBounds_ne hne,hk],rfl⟩
 intro i B hi hl
 rcases aK hi with ⟨rfl,_,_⟩|⟨_,h⟩
 ·exact .inr ⟨i,_,hb,rfl,rfl⟩
 exact .inr ⟨i,B,h,hl,rfl⟩
theorem MX (cx:cF G β bx w X) {b:Nat} {str:List UInt8} {pos pos':Nat} (hb:bx[b]?=some (.it str pos)) (hh:w.heap[β b]?=some (.stringIter ⟨str.toArray⟩ pos)):
 cF G β (bx.set b (.it str pos')) {w with heap:=w.heap.setIfInBounds (β b) (.stringIter ⟨str.toArray⟩ pos')} X:=by
 refine cx.step (Dc hb hh) ?_ ?_
 ·intro i B hi
  rcases aK hi with ⟨rfl,rfl,_⟩|⟨hne,h⟩
  ·refine .inr ?_
   simp only [dm]
   simp [eW hh]
  refine .inl ⟨h,fun hl=>?_⟩
  have Pq:β b≠β i:=fun he=>hne (cx.inj b i _ B hb h rfl hl he).symm
  simp [Array.getElem?_setIfInBounds_ne Pq]
 intro i j bi bj hi hj mT oQ he
 rcases aK hi with ⟨rfl,rfl,_⟩|⟨h1,h2⟩<;>rcases aK hj with ⟨rfl,rfl,_⟩|⟨h3,h4⟩
 ·rfl
 ·exact cx.inj _ _ _ _ hb h4 rfl oQ he
 ·exact cx.inj _ _ _ _ h2 hb mT rfl he
 exact cx.inj _ _ _ _ h2 h4 mT oQ he
theorem Gm {ok:Nat→Prop} {x:AV} {IZ:Prop} {u:Value} (h:ML x=some IZ) (hx:aj β bx w ok x u):∃a n c,u=.slice a n c∧(a.isNone=true→IZ):=by
 unfold ML at h
 split at h
 ·simp only [osI] at h;subst h
  simp only [aj,aJ] at hx
  obtain ⟨base,cap,rfl,_,h3⟩:=hx
  refine ⟨_,_,_,rfl,fun hb=>?_⟩
  rcases h3 with h3|⟨_,_,_,rfl,_⟩
  ·exact h3
  simp at hb
 ·simp only [osI] at h;subst h
  simp only [aj] at hx
  obtain ⟨base,rfl,h3⟩:=hx
  refine ⟨_,_,_,rfl,fun hb=>?_⟩
  rcases h3 with h3|⟨_,_,_,rfl,_⟩
  ·exact h3
  simp at hb
 ·simp only [osI] at h;subst h
  simp only [aj] at hx
  obtain ⟨_,⟨h1,base,rfl⟩|⟨h1,cap,c,e,f,rfl,_⟩⟩:=hx
  ·exact ⟨_,_,_,rfl,fun _=>h1⟩
  exact ⟨_,_,_,rfl,fun hb=>by simp at hb⟩
 simp at h
theorem Jm (t e:TypeId) (a:Option Addr) (n c:Nat) (h:P.underlying t=some (.slice e)):(Go.binOp .eql t (.slice a n c) (.slice none 0 0)).run P w=.ok (.bool a.isNone) w:=by
 simp only [Go.binOp]
 simp [Op.equal,Op.maxDepth,Lib.run_equalIn_slice_nil w 9999 t e a n c 0 0 h]
theorem Jn (t e:TypeId) (a:Option Addr) (n c:Nat) (h:P.underlying t=some (.slice e)):(Go.binOp .neq t (.slice a n c) (.slice none 0 0)).run P w=.ok (.bool (!a.isNone)) w:=by
 simp only [Go.binOp]
 simp [Op.equal,Op.maxDepth,Lib.run_equalIn_slice_nil w 9999 t e a n c 0 0 h]
theorem m6 (hT:kH P T) (hF:Fr G N ds β w X s a) {o:Oper} {K:AV→List aA→Prop} {Q:Ex→St→Prop} {next:Act→World→Prop} {Qc:Exit→Act→World→Prop}
 (h:qu (bt P G) T G o s K Q) (hn:Aw G β s.bx w X a o.dst K next) (hp:PC G β s.bx w X a (fun v bx=>Q (.panic v) ⟨[],bx⟩) Qc):o.wp P a w next Qc:=by
 have iL:∀x,(bV G s.sl x).ok→aj β s.bx w (bf β s.bx w X) (bV G s.sl x).aM (a.eval x):=fun x hx=>ki (hF.eval x) hx
 unfold qu at h
 unfold Oper.wp
 split at h
 ·
  rename_i c x y ho
  split at h
  ·rename_i p hc
   obtain ⟨⟨h1,h2,h3⟩,hK⟩:=h
   have wE:=iL c h1
   rw [hc] at wE;simp only [aj,aJ] at wE
   refine cO (v:=_) (aL:=s.bx) (dB.pure (u:=if p then a.eval x else a.eval y) hF.cx ?_ (Ay (fun hp=>iL x (h2 hp)) (fun hp=>iL y (h3 hp)))) hK hn
   simp [execOp,ho,wE,asBool]
  exact h.elim
 ·
  rename_i f args ats ho
  split at h
  ·rename_i i as Gn
   obtain ⟨⟨h1,h2⟩,h⟩:=h
   obtain ⟨fs,cs,e1,e2⟩:=mB Gn (iL f h1) (iD args.toList (fun y hy=>iL y (dA h2 y hy)))
   rw [kT ho e1]
   rcases h with h|h
   ·refine gQ (Ji hF.cx e2 h) ?_ ?_ ?_
    ·rintro v w' ⟨β',aL,v',u,e,ex,cx,hv,hK⟩
     cases e
     exact hn β' aL w' v' v ex cx hv hK
    ·rintro ch w' ⟨_,_,_,_,e,_⟩;cases e
    rintro w' ⟨_,_,_,_,e,_⟩;cases e
   refine gQ (Db hF.cx e2 h) ?_ ?_ ?_
   ·rintro v w' ⟨β',aL,v',u,ex,cx,hv,⟨e,hK⟩|⟨e,_⟩⟩
    ·cases e;exact hn β' aL w' v' v ex cx hv hK
    cases e
   ·rintro ch w' ⟨β',aL,v',u,ex,cx,hv,⟨e,_⟩|⟨e,hK⟩⟩
    ·cases e
    cases e;exact hp β' aL w' v' u ex cx hv hK
   rintro w' ⟨_,_,_,_,_,_,_,⟨e,_⟩|⟨e,_⟩⟩<;>cases e
  exact h.elim
 ·
  rename_i x ho
  split at h
  ·rename_i t v hx
   obtain ⟨h1,h2⟩:=h
   have hx':=iL x h1
   rw [hx] at hx'
   have OZ:=hx'
   simp only [aj] at OZ
   obtain ⟨u,e,_⟩:=OZ
   have hr:(execOp a.eval o).run P w=.halt (.panic (a.eval x)) w:=by
    simp [execOp,ho,e,Instr.panic,goPanic,Sem.run]
   rw [hr,Oper.upon_panic]
   exact hp β s.bx w _ _ (Ext.refl _ _ _) hF.cx hx' h2
  exact h.elim
 ·
  rename_i t x ho
  cases ht:T t with
  |none=>simp [ht] at h
  |some ti=>
  obtain ⟨i,d,h1,h2,h3,h4,h5,h6⟩:=aI (hT.ti _ _ ht)
  simp only [ht,h5] at h
  split at h
  ·rename_i str hk hx
   obtain ⟨k1,k2⟩:=h
   cases d<;>simp [cP] at hk
   have hx':=iL x k1
   rw [hx] at hx';simp only [aj,aJ] at hx'
   refine cO (v:=.ptr s.bx.length 0) (aL:=s.bx++[.it str 0]) ⟨lz β s.bx.length w.heap.size,{w with heap:=w.heap.push (.stringIter ⟨str.toArray⟩ 0)},gj _ _,kS hF.cx (.stringIter ⟨str.toArray⟩ 0) (.it str 0) (by simp only [dm];exact jv _ _),.inl ⟨.pointer (some ⟨w.heap.size,0,none⟩),?_,?_⟩⟩ k2 hn
   ·simp only [execOp,ho]
    exact bJ _ (by rw [hx'];simp [Instr.range,aQ h2,newObj,Sem.run])
   simp only [aj,bp];exact ⟨trv,.it str 0,by simp,rfl⟩
  exact h.elim
 ·rename_i it ho
  split at h
  ·rename_i b hx
   split at h
   ·rename_i str pos hb
    obtain ⟨k1,⟨k2,k3⟩⟩:=h
    have hx':=iL it k1
    rw [hx] at hx';simp only [aj] at hx'
    obtain ⟨hx',_⟩:=hx'
    have Gp:=hF.cx.box b _ hb
    simp only [dm] at Gp
    have hsz:(⟨str.toArray⟩:ByteArray).size=str.length:=by show str.toArray.size=_;simp
    by_cases hp:pos<str.length
    ·refine cO (v:=_) (aL:=_) ⟨β,{w with heap:=w.heap.setIfInBounds (β b) (.stringIter ⟨str.toArray⟩ (pos+(Utf8.decode ⟨str.toArray⟩ pos).2))},?_,?_,.inl ⟨.tuple #[.bool true,.int .i64 pos,.int .i32 (Utf8.decode ⟨str.toArray⟩ pos).1],?_,?_⟩⟩ (k2 hp) hn
     ·exact Dc hb Gp
     ·exact MX hF.cx hb Gp
     ·simp only [execOp,ho]
      exact bJ _ (by rw [hx'];simp [Instr.next,getObj,setObj,Sem.run,Gp,hsz,hp,goInt])
     simp only [aj,ak,aJ];exact ⟨_,rfl,_,_,rfl,rfl,_,_,rfl,rfl,_,_,rfl,rfl,rfl⟩
    refine cO (v:=_) (aL:=s.bx) (dB.pure (u:=.tuple #[.bool false]) hF.cx ?_ ?_) (k3 hp) hn
    ·simp only [execOp,ho]
     exact bJ _ (by rw [hx'];simp [Instr.next,getObj,Sem.run,Gp,hsz,hp])
    simp only [aj,ak,aJ];exact ⟨_,rfl,_,_,rfl,rfl,rfl⟩
   exact h.elim
  exact h.elim
 ·
  rename_i ty x t2 ho
  split at h
  ·rename_i ti IZ ht he
   split at h
   ·rename_i e hk
    obtain ⟨i,d,h1,h2,h3,h4,h5,h6⟩:=aI (hT.ti _ _ ht)
    obtain ⟨k1,⟨k2⟩⟩:=h
    rw [h5] at hk;cases d<;>simp [cP] at hk
    obtain ⟨a',n,c,hu,Eo⟩:=Gm he (iL x k1)
    refine cO (v:=.d (.bool a'.isNone)) (aL:=s.bx) (dB.pure (u:=.bool a'.isNone) hF.cx ?_ (by simp only [aj,aJ])) (k2 _ Eo) hn
    simp only [execOp,ho]
    exact bJ _ (by simp [hu,eqGuard,show a.eval (Operand.const (Value.slice none 0 0))=Value.slice none 0 0 from rfl,Jm (w:=w) _ _ _ _ _ h2])
   exact h.elim
  exact h.elim
 ·rename_i ty x t2 ho
  split at h
  ·rename_i ti IZ ht he
   split at h
   ·rename_i e hk
    obtain ⟨i,d,h1,h2,h3,h4,h5,h6⟩:=aI (hT.ti _ _ ht)
    obtain ⟨k1,⟨k2⟩⟩:=h
    rw [h5] at hk;cases d<;>simp [cP] at hk
    obtain ⟨a',n,c,hu,Eo⟩:=Gm he (iL x k1)
    refine cO (v:=.d (.bool (!a'.isNone))) (aL:=s.bx) (dB.pure (u:=.bool (!a'.isNone)) hF.cx ?_ (by simp only [aj,aJ])) (k2 _ Eo) hn
    simp only [execOp,ho]
    exact bJ _ (by simp [hu,eqGuard,show a.eval (Operand.const (Value.slice none 0 0))=Value.slice none 0 0 from rfl,Jn (w:=w) _ _ _ _ _ h2])
   exact h.elim
  exact h.elim
 ·
  rename_i ty ho
  split at h
  ·rename_i ti ht
   split at h
   ·rename_i mk me hk
    split at h
    ·rename_i te hte
     refine cO (v:=.zX s.bx.length) (aL:=s.bx++[.mp te.kd.isAgg []]) ⟨lz β s.bx.length w.heap.size,{w with heap:=w.heap.push (.map #[] 0)},gj _ _,kS hF.cx (.map #[] 0) (.mp te.kd.isAgg []) ⟨#[],0,jv _ _,⟨by simp,by simp⟩,by simp [aZ]⟩,.inl ⟨.map (some w.heap.size),?_,?_⟩⟩ h hn
     ·simp only [execOp,ho]
      exact bJ _ (by simp [Instr.makeMap,newObj,Sem.run])
     simp only [aj,bp];exact ⟨trv,.mp te.kd.isAgg [],by simp,rfl⟩
    exact h.elim
   exact h.elim
  exact h.elim
 ·
  rename_i ty m k Cq ho
  split at h
  ·rename_i tk te ag es kd hm hk
   obtain ⟨o',hg,hK⟩:=h
   obtain ⟨⟨⟨k1,k2⟩,hf⟩,rfl⟩:=hg rfl
   have hkv:=iL k k2
   rw [hk] at hkv;simp only [aj] at hkv
   obtain ⟨v,x,g1,g2,g3⟩:=Jj hT hF.cx hm (iL m k1) hkv hf hK
   refine cO (v:=v) (aL:=s.bx) (dB.pure (u:=x) hF.cx ?_ g2) g3 hn
   simp only [execOp,ho]
   exact bJ _ g1
  exact h.elim
 ·
  rename_i ty m k x ho
  split at h
  ·rename_i b tk te ag es kd vs hm hk hc
   split at h
   ·rename_i dsv Cx Yc
    obtain ⟨⟨⟨k1,k2,k3⟩,hf,_,ha⟩,hK⟩:=h
    have hkv:=iL k k2
    rw [hk] at hkv;simp only [aj] at hkv
    obtain ⟨w',g1,g2,g3⟩:=Gl hT hF.cx hm (iL m k1) hkv (iL x k3) hc Cx Yc hf ha
    refine cO (v:=.any) (aL:=_) ⟨β,w',g2,g3,.inr ⟨?_,rfl⟩⟩ hK hn
    simp only [execOp,ho]
    simp [g1]
   exact h.elim
  exact h.elim
 rename_i op e1 e2 e3 e4 e5 e6 e7 e8 e9 e10
 split at h
 ·rename_i c ds hi
  obtain ⟨ds',hg,hK⟩:=h
  obtain ⟨⟨hk,hc⟩,rfl⟩:=hg rfl
  split at hi
  ·rename_i t x i ho
   have ex:=dA hk
   rw [ho] at ex
   obtain ⟨r,k1,k2⟩:=Ax (P:=P) (w:=w) hT hF.cx hi hc (iL x (ex x (by simp [Op.operands]))) (iL i (ex i (by simp [Op.operands])))
   refine cO (v:=_) (aL:=s.bx) (dB.pure hF.cx ?_ k2) hK hn
   simp only [execOp,ho]
   exact bJ _ k1
  simp at hi
 split at h
 ·rename_i c v b hr
  obtain ⟨⟨h1,hc⟩,hK⟩:=h
  exact cO (As (P:=P) hT hF.cx (ρ:=a.eval) (fun x hx=>iL x (dA h1 x hx)) hr hc) hK hn
 exact h.elim
theorem yo (hT:kH P T) (hF:Fr G N ds β w X s a) {o:Oper} {K:AV→Prop} {next:Act→World→Prop} {Qc:Exit→Act→World→Prop}
 (h:stepG (bt P G) T G true o s K) (hn:Aw G β s.bx w X a o.dst (fun v bx=>K v∧bx=s.bx) next):o.wp P a w next Qc:=by
 have iL:∀x,(bV G s.sl x).ok→aj β s.bx w (bf β s.bx w X) (bV G s.sl x).aM (a.eval x):=fun x hx=>ki (hF.eval x) hx
 have h:=h.resolve_left (fun hh=>by simp at hh)
 rcases h with h|⟨c,es,hr,hg,hK⟩
 rotate_left
 ·obtain ⟨h1,hc⟩:=hg rfl
  unfold Oper.wp
  exact cO (C9 (P:=P) hT hF.cx (ρ:=a.eval) (fun x hx=>iL x (dA h1 x hx)) hr hc) ⟨hK,rfl⟩ hn
 unfold wJ at h
 unfold Oper.wp
 split at h
 ·
  rename_i c x y ho
  split at h
  ·rename_i p hc
   obtain ⟨hg,hK⟩:=h
   obtain ⟨h1,h2,h3⟩:=hg rfl
   have wE:=iL c h1
   rw [hc] at wE;simp only [aj,aJ] at wE
   refine cO (v:=_) (aL:=s.bx) (dB.pure (u:=if p then a.eval x else a.eval y) hF.cx ?_ (Ay (fun hp=>iL x (h2 hp)) (fun hp=>iL y (h3 hp)))) ⟨hK,rfl⟩ hn
   simp [execOp,ho,wE,asBool]
  exact h.elim
 ·
  rename_i f args ats ho
  split at h
  ·rename_i i as Gn
   obtain ⟨v,hg,hK⟩:=h
   obtain ⟨⟨h1,h2⟩,hq⟩:=hg rfl
   obtain ⟨fs,cs,e1,e2⟩:=mB Gn (iL f h1) (iD args.toList (fun y hy=>iL y (dA h2 y hy)))
   rw [kT ho e1]
   refine gQ (lG (K:=fun v bx=>K v∧bx=s.bx) hF.cx e2 hq ⟨hK,rfl⟩) ?_ ?_ ?_
   ·rintro v w' ⟨β',aL,v',u,e,ex,cx,hv,hK⟩
    cases e
    exact hn β' aL w' v' v ex cx hv hK
   ·rintro ch w' ⟨_,_,_,_,e,_⟩;cases e
   rintro w' ⟨_,_,_,_,e,_⟩;cases e
  exact h.elim
 ·
  rename_i f nm args ats ho
  split at h
  ·rename_i i as Gn
   obtain ⟨v,hg,hK⟩:=h
   obtain ⟨⟨h1,h2⟩,hq⟩:=hg rfl
   obtain ⟨t,ti,u,k1,k2,k3,e2⟩:=Da hT Gn (iL f h1) (iD args.toList (fun y hy=>iL y (dA h2 y hy)))
   rw [ym hT ho k1 k2 k3]
   refine gQ (lG (K:=fun v bx=>K v∧bx=s.bx) hF.cx e2 hq ⟨hK,rfl⟩) ?_ ?_ ?_
   ·rintro v w' ⟨β',aL,v',u,e,ex,cx,hv,hK⟩
    cases e
    exact hn β' aL w' v' v ex cx hv hK
   ·rintro ch w' ⟨_,_,_,_,e,_⟩;cases e
   rintro w' ⟨_,_,_,_,e,_⟩;cases e
  exact h.elim
 rename_i op e1 e2 e3
 split at h
 ·rename_i c ds hi
  obtain ⟨ds',hg,hK⟩:=h
  obtain ⟨⟨hk,hc⟩,rfl⟩:=hg rfl
  split at hi
  ·rename_i t x i ho
   have ex:=dA hk
   rw [ho] at ex
   obtain ⟨r,k1,k2⟩:=Ax (P:=P) (w:=w) hT hF.cx hi hc (iL x (ex x (by simp [Op.operands]))) (iL i (ex i (by simp [Op.operands])))
   refine cO (v:=_) (aL:=s.bx) (dB.pure hF.cx ?_ k2) ⟨hK,rfl⟩ hn
   simp only [execOp,ho]
   exact bJ _ k1
  simp at hi
 split at h
 ·rename_i c v hr
  obtain ⟨hg,hK⟩:=h
  obtain ⟨h1,hc⟩:=hg rfl
  exact cO (As (P:=P) hT hF.cx (ρ:=a.eval) (fun x hx=>iL x (dA h1 x hx)) hr hc) ⟨hK,rfl⟩ hn
 exact h.elim
theorem Az {o:Oper} {K:AV→Prop} (h:stepG (bt P G) T G false o s K):∃v,K v:=by
 rcases h with ⟨_,h⟩|h|⟨_,_,_,_,hK⟩
 ·exact h
 rotate_left
 ·exact ⟨_,hK⟩
 unfold wJ at h
 split at h
 ·split at h
  ·exact ⟨_,h.2⟩
  exact h.elim
 ·split at h
  ·obtain ⟨v,_,hK⟩:=h;exact ⟨v,hK⟩
  exact h.elim
 ·split at h
  ·obtain ⟨v,_,hK⟩:=h;exact ⟨v,hK⟩
  exact h.elim
 split at h
 ·obtain ⟨ds,_,hK⟩:=h;exact ⟨_,hK⟩
 split at h
 ·exact ⟨_,h.2⟩
 exact h.elim
theorem lH (hF:Fr G N ds β w X s a) {ops:Array Oper} {j:Nat} {want g:Bool} (h:guardOf s.sl ops.toList j want=some g):(yielded ops a.tmps j==some want)=g:=by
 unfold guardOf at h
 have hj:ops.toList[j]?=ops[j]?:=by simp
 rw [hj] at h
 split at h
 ·rename_i o ho
  split at h
  ·rename_i t hd
   have hr:=hF.yl t
   have hy:∀v:Value,a.tmps.getD t undef=v→v≠undef→a.tmps[t]?=some v:=by
    intro v hv hu
    rw [Array.getD_eq_getD_getElem?] at hv
    cases hq:a.tmps[t]? with
    |none=>rw [hq] at hv;simp at hv;exact absurd hv.symm hu
    |some u=>rw [hq] at hv;simp at hv;rw [hv]
   unfold yielded
   rw [ho]
   simp only [Option.bind_some,hd]
   split at h
   ·rename_i q hq
    rw [hq] at hr;simp only [aj,aJ] at hr
    simp only [osI] at h;subst h
    rw [hy _ hr (by simp [undef])]
    cases q<;>cases want<;>rfl
   ·rename_i p q hq
    rw [hq] at hr;simp only [aj,aJ] at hr
    simp only [osI] at h;subst h
    cases p with
    |true=>
     rw [hy _ (hr.1 rfl) (by simp [undef])]
     cases q<;>cases want<;>rfl
    |false=>
     have hu:=hr.2 rfl
     cases hq2:a.tmps[t]? with
     |none=>simp
     |some u=>
      have:u=undef:=by rw [Array.getD_eq_getD_getElem?,hq2] at hu;simpa using hu
      subst this
      simp [undef]
   simp at h
  simp at h
 simp at h
end
end Dem
end
section
open Go
namespace Dem
section
variable {P:Program} {T:Nat→Option TI} {G:Nat→Option (List D)} {N:Nat} {ds:List Deferred} {X:Nat→Prop}
def fY (G:Nat→Option (List D)) (N:Nat) (ds:List Deferred) (X:Nat→Prop) (β0:Nat→Nat) (bz:List aA) (w0:World) (Q:Ex→St→Prop):Exit→Act→World→Prop
 |.normal,a,w=>∃β s,Ext β0 bz w0 β s.bx w∧Fr G N ds β w X s a∧Q .normal s
 |.exit id,a,w=>∃β s,Ext β0 bz w0 β s.bx w∧Fr G N ds β w X s a∧Q (.exit id) s
 |.ret,a,w=>∃β s,Ext β0 bz w0 β s.bx w∧Fr G N ds β w X s a∧Q .ret s
 |.panic ch,a,w=>∃β bx v u,ch=[{v:=u,recovered:=false}]∧Ext β0 bz w0 β bx w∧cF G β bx w X∧aj β bx w (bf β bx w X) v u∧a.defers=ds∧Q (.panic v) ⟨[],bx⟩
 |_,_,_=>False
variable {β0:Nat→Nat} {bz:List aA} {w0:World}
theorem fY.imp {Q Q':Ex→St→Prop} {e:Exit} {a:Act} {w:World} (h:∀e s,Q e s→Q' e s) (hl:fY G N ds X β0 bz w0 Q e a w):fY G N ds X β0 bz w0 Q' e a w:=by
 cases e<;>simp only [fY] at hl ⊢
 ·obtain ⟨β,s,h1,h2,h3⟩:=hl;exact ⟨β,s,h1,h2,h _ _ h3⟩
 ·obtain ⟨β,s,h1,h2,h3⟩:=hl;exact ⟨β,s,h1,h2,h _ _ h3⟩
 ·obtain ⟨β,s,h1,h2,h3⟩:=hl;exact ⟨β,s,h1,h2,h _ _ h3⟩
 obtain ⟨β,bx,v,u,h1,h2,h3,h4,h5,h6⟩:=hl;exact ⟨β,bx,v,u,h1,h2,h3,h4,h5,h _ _ h6⟩
theorem Ev {β:Nat→Nat} {w:World} {s:St} {a:Act} (hF:Fr G N ds β w X s a) {o:Oper} {K:AV→Prop} {next:Act→World→Prop} {Qc:Exit→Act→World→Prop}
 (h:tN (bt P G) G true o s K) (hn:Aw G β s.bx w X a o.dst (fun v bx=>K v∧bx=s.bx) next):o.wp P a w next Qc:=by
 have iL:∀x,(bV G s.sl x).ok→aj β s.bx w (bf β s.bx w X) (bV G s.sl x).aM (a.eval x):=fun x hx=>ki (hF.eval x) hx
 unfold tN at h
 unfold Oper.wp
 split at h
 ·rename_i f args ats ho
  split at h
  ·rename_i i as Gn
   obtain ⟨v,hg,hK⟩:=h
   obtain ⟨⟨h1,h2⟩,hc⟩:=hg rfl
   obtain ⟨fs,cs,e1,e2⟩:=mB Gn (iL f h1) (iD args.toList (fun y hy=>iL y (dA h2 y hy)))
   rw [kT ho e1]
   refine gQ (Db (K:=fun v bx=>K v∧bx=s.bx) (Kp:=fun _ _=>False) hF.cx e2 ⟨⟨as,s.bx,.ret v,s.bx,.inl ⟨rfl,rfl⟩,hc,hK,rfl⟩⟩) ?_ ?_ ?_
   ·rintro v w' ⟨β',aL,v',u,ex,cx,hv,⟨e,hK⟩|⟨e,_⟩⟩
    ·cases e;exact hn β' aL w' v' v ex cx hv hK
    cases e
   ·rintro ch w' ⟨β',aL,v',u,ex,cx,hv,⟨e,_⟩|⟨e,hK⟩⟩
    ·cases e
    exact hK.elim
   rintro w' ⟨_,_,_,_,_,_,_,⟨e,_⟩|⟨e,_⟩⟩<;>cases e
  exact h.elim
 exact h.elim
theorem Gq {FC:Nat→List AV→List aA→iB→List aA→Prop} {g:Bool} {o:Oper} {s:St} {K:AV→Prop} (h:tN FC G g o s K):∃v,K v:=by
 unfold tN at h
 split at h
 ·split at h
  ·obtain ⟨v,_,hK⟩:=h;exact ⟨v,hK⟩
  exact h.elim
 exact h.elim
theorem mC (hT:kH P T) {ops:Array Oper} {Q:Ex→St→Prop}:∀(l:List Oper) (β:Nat→Nat) (w:World) (s:St) (a:Act),Ext β0 bz w0 β s.bx w→Fr G N ds β w X s a→
 FP (bt P G) T G N ops.toList l Q s→wpList P ops (fY G N ds X β0 bz w0 Q) l a w
 |[],β,w,s,a,ex,hF,h=>⟨β,s,ex,hF,h⟩
 |o::l,β,w,s,a,ex,hF,h=>by
  unfold FP at h
  cases hd:ic N o.dst with
  |false=>simp [hd] at h
  |true=>
  simp only [hd,cond_true] at h
  refine wpList_step fun KK Z7=>?_
  split at h
  ·rename_i hg
   rw [if_pos (by simp [Region.wanted,hg])]
   refine m6 hT hF h ?_ ?_
   ·intro β' aL w' v u qd mS hv hK
    exact Z7 _ _ (mC hT l β' w' ⟨eN o.dst v s.sl,aL⟩ _ (ex.trans qd) (hF.put qd mS hd hv) hK)
   intro β' aL w' v u qd mS hv hK
   exact ⟨β',aL,v,u,rfl,ex.trans qd,mS,hv,hF.defers,hK⟩
  rename_i j want hg
  split at h
  ·rename_i g I0
   have hy:=lH hF I0
   cases g with
   |true=>
    rw [if_pos (by simp only [Region.wanted,hg];exact hy)]
    rcases h with h|h
    case inr=>
     refine Ev hF h ?_
     rintro β' aL w' v u qd mS hv ⟨hK,rfl⟩
     refine Z7 _ _ (mC hT l β' w' ⟨eN o.dst (.cond true v) s.sl,s.bx⟩ _ (ex.trans qd) (hF.put qd mS hd ?_) hK)
     simp only [aj];exact ⟨fun _=>hv,by simp⟩
    refine yo hT hF h ?_
    rintro β' aL w' v u qd mS hv ⟨hK,rfl⟩
    refine Z7 _ _ (mC hT l β' w' ⟨eN o.dst (.cond true v) s.sl,s.bx⟩ _ (ex.trans qd) (hF.put qd mS hd ?_) hK)
    simp only [aj];exact ⟨fun _=>hv,by simp⟩
   |false=>
    rw [if_neg (by simp only [Region.wanted,hg];rw [hy];simp)]
    obtain ⟨v,hK⟩:∃v,FP (bt P G) T G N ops.toList l Q ⟨eN o.dst (.cond false v) s.sl,s.bx⟩:=by
     rcases h with h|h
     ·exact Az h
     exact Gq h
    refine Z7 _ _ (mC hT l β w ⟨eN o.dst (.cond false v) s.sl,s.bx⟩ _ ex (hF.put (Ext.refl _ _ _) hF.cx hd ?_) hK)
    simp only [aj];simp
  exact h.elim
def qG (P:Program) (T:Nat→Option TI) (G:Nat→Option (List D)):Prop:=
 ∀(N:Nat) (ds:List Deferred) (X:Nat→Prop) (β0:Nat→Nat) (bz:List aA) (w0:World) (id:Nat) (ops:Array Oper) (Q:Ex→St→Prop) (β:Nat→Nat) (w:World) (s:St) (a:Act),
  Ext β0 bz w0 β s.bx w→Fr G N ds β w X s a→Pb (bt P G) T G N ops.toList Q s→(Code.region id ops true).wp P (fY G N ds X β0 bz w0 Q) a w
end
end Dem
end
section
open Go
namespace Dem
section
variable {P:Program} {T:Nat→Option TI} {G:Nat→Option (List D)} {β:Nat→Nat} {bx:List aA} {w:World} {X:Nat→Prop}
theorem fk {n i:Nat} {b:aA} (h:(bx.take n)[i]?=some b):bx[i]?=some b∧i<n:=by
 rw [List.getElem?_take] at h
 split at h
 ·exact ⟨h,by assumption⟩
 simp at h
theorem Gr (n:Nat) (blk:Nat) (h:bf β bx w X blk):bf β (bx.take n) w X blk:=
 ⟨h.1,h.2.1,fun i b hb hl=>h.2.2 i b (fk hb).1 hl⟩
mutual
theorem oS {n:Nat} {ok ok':Nat→Prop} (h:∀blk,ok blk→ok' blk):∀(x:AV) (v:Value),x.within n=true→aj β bx w ok x v→aj β (bx.take n) w ok' x v
 |.any,_,_,_=>by simp [aj]
 |.d x,v,_,hv=>by simp only [aj] at hv ⊢;exact aJ.mono (fun blk hb=>⟨h blk hb,rfl⟩) _ _ hv
 |.k c,v,_,hv=>by simpa [aj] using hv
 |.agg cs,v,hs,hv=>by
  simp only [aj] at hv ⊢;obtain ⟨vs,h1,h2⟩:=hv
  exact ⟨vs,h1,iS h cs vs (by simpa [AV.within] using hs) h2⟩
 |.ek cs,v,hs,hv=>by
  simp only [aj] at hv ⊢;obtain ⟨vs,h1,h2⟩:=hv
  exact ⟨vs,h1,iS h cs vs (by simpa [AV.within] using hs) h2⟩
 |.ptr b off,v,hs,hv=>by
  simp only [aj] at hv ⊢
  have hb:b<n:=by simpa [AV.within,Nat.blt_eq] using hs
  obtain ⟨h1,B,h2,h3⟩:=hv
  exact ⟨h1,B,by rw [List.getElem?_take,if_pos hb];exact h2,h3⟩
 |.zX b,v,hs,hv=>by
  simp only [aj] at hv ⊢
  have hb:b<n:=by simpa [AV.within,Nat.blt_eq] using hs
  obtain ⟨h1,B,h2,h3⟩:=hv
  exact ⟨h1,B,by rw [List.getElem?_take,if_pos hb];exact h2,h3⟩
 |.rp b sz i j,v,hs,hv=>by
  simp only [aj] at hv ⊢
  have hb:b<n:=by simpa [AV.within,Nat.blt_eq] using hs
  obtain ⟨h1,B,h2,h3⟩:=hv
  exact ⟨h1,B,by rw [List.getElem?_take,if_pos hb];exact h2,h3⟩
 |.ow b sz m,v,hs,hv=>by
  simp only [aj] at hv ⊢
  have hb:b<n:=by simpa [AV.within,Nat.blt_eq] using hs
  obtain ⟨⟨B,h2,h3⟩,h1⟩:=hv
  exact ⟨⟨B,by rw [List.getElem?_take,if_pos hb];exact h2,h3⟩,h1⟩
 |.vw b sz off m c ex,v,hs,hv=>by
  simp only [aj] at hv ⊢
  have hb:b<n:=by simpa [AV.within,Nat.blt_eq] using hs
  obtain ⟨⟨B,h2,h3⟩,h1⟩:=hv
  exact ⟨⟨B,by rw [List.getElem?_take,if_pos hb];exact h2,h3⟩,h1⟩
 |.ep ds,v,_,hv=>by
  simp only [aj] at hv ⊢;obtain ⟨blk,off,h1,h2,h3⟩:=hv
  exact ⟨blk,off,h1,h blk h2,aX.mono (fun blk hb=>⟨h blk hb,rfl⟩) blk (fun _=>rfl) _ _ h3⟩
 |.cl es,v,_,hv=>by
  simp only [aj] at hv ⊢;obtain ⟨base,h1,h2⟩:=hv
  refine ⟨base,h1,h2.imp id ?_⟩
  rintro ⟨blk,off,sz,e1,e2,e3⟩
  exact ⟨blk,off,sz,e1,h blk e2,ay.mono (fun blk hb=>⟨h blk hb,rfl⟩) blk sz (fun _=>rfl) _ _ e3⟩
 |.fn f cs,v,hs,hv=>by
  simp only [aj] at hv ⊢;obtain ⟨vs,h1,h2⟩:=hv
  exact ⟨vs,h1,iS h cs vs (by simpa [AV.within] using hs) h2⟩
 |.sS t x,v,hs,hv=>by
  simp only [aj] at hv ⊢;obtain ⟨u,h1,h2⟩:=hv
  exact ⟨u,h1,oS h x u (by simpa [AV.within] using hs) h2⟩
 |.cond p x,v,hs,hv=>by
  simp only [aj] at hv ⊢
  exact ⟨fun hp=>oS h x v (by simpa [AV.within] using hs) (hv.1 hp),hv.2⟩
theorem iS {n:Nat} {ok ok':Nat→Prop} (h:∀blk,ok blk→ok' blk):∀(xs:List AV) (vs:List Value),AV.within.sw n xs=true→ak β bx w ok xs vs→ak β (bx.take n) w ok' xs vs
 |[],vs,_,hv=>by simpa [ak] using hv
 |x::xs,vs,hs,hv=>by
  simp only [ak] at hv ⊢
  obtain ⟨u,us,h1,h2,h3⟩:=hv
  simp only [AV.within.sw,Bool.and_eq_true] at hs
  exact ⟨u,us,h1,oS h x u hs.1 h2,iS h xs us hs.2 h3⟩
end
theorem k9 {n:Nat}:∀{bs:List aA} {i:Nat} {cs:List AV},bX n bs=true→bs[i]?=some (.var cs)→AV.within.sw n cs=true
 |[],i,cs,_,hi=>by simp at hi
 |b::bs,0,cs,h,hi=>by
  simp at hi;subst hi
  simp only [bX,Bool.and_eq_true] at h
  exact h.1
 |b::bs,i+1,cs,h,hi=>by
  simp at hi
  refine k9 (i:=i) ?_ hi
  cases b<;>simp [bX] at h<;>first|exact h|exact h.2
theorem Gs (cx:cF G β bx w X) {n:Nat} (hw:bX n (bx.take n)=true):cF G β (bx.take n) w X:=by
 have hk:∀blk,bf β bx w X blk→bf β (bx.take n) w X blk:=fun blk h=>Gr n blk h
 have hkeep:jg w w (bf β bx w X) (bf β (bx.take n) w X):=fun blk hb=>⟨hk blk hb,rfl⟩
 refine ⟨cx.xs,?_,?_,?_,?_⟩
 ·intro g ds hg
  obtain ⟨h1,h2⟩:=cx.zo g ds hg
  exact ⟨hk g h1,aX.mono hkeep g (fun _=>rfl) _ _ h2⟩
 ·intro i j bi bj hi hj
  exact cx.inj i j bi bj (fk hi).1 (fk hj).1
 ·intro i b hb
  have h:=cx.box i b (fk hb).1
  cases b with
  |var cs=>
   obtain ⟨c,e,h1,h2⟩:=h
   exact ⟨c,e,h1,iS hk cs _ (k9 hw hb) h2⟩
  |row sz es=>
   refine h.imp id ?_
   rintro ⟨c,e,h1,h2⟩
   exact ⟨c,e,h1,ay.mono hkeep _ _ (fun _=>rfl) _ _ h2⟩
  |kP sz es=>
   refine h.imp id ?_
   rintro ⟨h1,h2⟩
   exact ⟨hk _ h1,ay.mono hkeep _ _ (fun _=>rfl) _ _ h2⟩
  |it s p=>exact h
  |mp ag es=>obtain ⟨ms,clock,h1,h2,h3⟩:=h;exact ⟨ms,clock,h1,h2,aZ.mono hkeep _ _ _ h3⟩
  |dead=>trivial
  |bq=>trivial
 intro i b hb hl
 exact cx.apart i b (fk hb).1 hl
theorem Gt {β0:Nat→Nat} {bz:List aA} {w0:World} (ex:Ext β0 bz w0 β bx w):Ext β0 bz w0 β (bx.take bz.length) w:=by
 refine ⟨ex.os,ex.tape,ex.output,ex.size,ex.block,ex.shape,?_,?_⟩
 ·rintro i ⟨b,hb,dH⟩
  obtain ⟨h1,B,h2,h3⟩:=ex.born i ⟨b,hb,dH⟩
  exact ⟨h1,B,by rw [List.getElem?_take,if_pos (jz hb)];exact h2,h3⟩
 intro i b hb hl
 exact ex.live i b (fk hb).1 hl
theorem MY (cx:cF G β bx w X) {x y:AV} {u:Value} (hd:I5 bx x=some y) (h:aj β bx w (bf β bx w X) x u):
 Ext β bx w β (tg bx x) w∧cF G β (tg bx x) w X∧aj β (tg bx x) w (bf β (tg bx x) w X) y u:=by
 cases x with
 |ek cs=>
  simp only [I5,Option.map_eq_some_iff] at hd
  obtain ⟨ys,h1,rfl⟩:=hd
  simp only [aj] at h
  obtain ⟨vs,rfl,hvs⟩:=h
  obtain ⟨g1,g2,g3⟩:=lX cs bx ys vs cx h1 hvs
  exact ⟨g1,g2,by simp only [aj];exact ⟨vs,rfl,g3⟩⟩
 |_=>simp only [I5] at hd;simp only [tg];exact C5 cx hd h
theorem LK {β0:Nat→Nat} {bz:List aA} {w0:World} (cx:cF G β bx w X) (ex:Ext β0 bz w0 β bx w) {k sz m:Nat} {es:List (List D)} (hn:bz.length≤bx.length) (hw:bX bz.length (bx.take bz.length)=true)
 (hk:(es=[]∧m=0)∨(bz.length≤k∧bx[k]?=some (.row sz es))) {u:Value} (hu:es=[]∧m=0∧(∃base,u=.slice base 0 0)∨aj β bx w (bf β bx w X) (.ow k sz m) u):
 ∃β',Ext β0 bz w0 β' (bx.take bz.length++[.row sz es]) w∧cF G β' (bx.take bz.length++[.row sz es]) w X∧
  aj β' (bx.take bz.length++[.row sz es]) w (bf β' (bx.take bz.length++[.row sz es]) w X) (.ow bz.length sz m) u:=by
 have hlen:(bx.take bz.length).length=bz.length:=by simp;omega
 have e1:=Gt ex
 have c1:=Gs cx hw
 have hrow:es≠[]→bz.length≤k∧bx[k]?=some (.row sz es):=fun hne=>hk.resolve_left (fun h=>hne h.1)
 have cz:aA.live (.row sz es)=true→es≠[]:=by intro hl;cases es<;>simp [aA.live] at hl ⊢
 have hold:∀i b,(bx.take bz.length)[i]?=some b→lz β bz.length (β k) i=β i:=by
  intro i b h
  exact c6 _ _ (by have:=(fk h).2;omega)
 have hinv:∀{i b},(bx.take bz.length++[.row sz es])[i]?=some b→((bx.take bz.length)[i]?=some b)∨(i=bz.length∧b=.row sz es):=by
  intro i b h
  rcases bw h with ⟨h1,_⟩|⟨h1,h2⟩
  ·exact .inl h1
  exact .inr ⟨by omega,h2⟩
 have e2:Ext β0 bz w0 (lz β bz.length (β k)) (bx.take bz.length++[.row sz es]) w:=by
  refine ⟨ex.os,ex.tape,ex.output,ex.size,ex.block,ex.shape,?_,?_⟩
  ·intro i hi
   obtain ⟨h1,b,h2,h3⟩:=e1.born i hi
   exact ⟨by rw [hold i b h2];exact h1,b,eM h2,h3⟩
  intro i b h hl
  rcases hinv h with h1|⟨rfl,rfl⟩
  ·rw [hold i b h1];exact e1.live i b h1 hl
  rw [bp];exact ex.live k _ (hrow (cz hl)).2 hl
 have hok:∀blk,bf β bx w X blk→bf (lz β bz.length (β k)) (bx.take bz.length++[.row sz es]) w X blk:=by
  rintro blk ⟨k1,k2,k3⟩
  refine ⟨k1,k2,?_⟩
  intro i b h hl
  rcases hinv h with h1|⟨rfl,rfl⟩
  ·rw [hold i b h1];exact k3 i b (fk h1).1 hl
  rw [bp];exact k3 k _ (hrow (cz hl)).2 hl
 have hkeep:jg w w (bf β bx w X) (bf (lz β bz.length (β k)) (bx.take bz.length++[.row sz es]) w X):=fun blk hb=>⟨hok blk hb,rfl⟩
 have qH:tj β (bx.take bz.length) w (bf β bx w X) (lz β bz.length (β k)) (bx.take bz.length++[.row sz es]) w (bf (lz β bz.length (β k)) (bx.take bz.length++[.row sz es]) w X):=by
  refine ⟨hkeep,?_,fun _ c _ _ h=>⟨c,h,rfl⟩⟩
  rintro i ⟨b,hb,h3⟩
  exact ⟨hold i b hb,b,eM hb,h3⟩
 refine ⟨_,e2,⟨cx.xs,?_,?_,?_,?_⟩,?_⟩
 ·intro g ds hg
  obtain ⟨h1,h2⟩:=cx.zo g ds hg
  exact ⟨hok g h1,aX.mono hkeep g (fun _=>rfl) _ _ h2⟩
 ·intro i j bi bj hi hj mT oQ he
  rcases hinv hi with h1|⟨rfl,rfl⟩<;>rcases hinv hj with h2|⟨rfl,rfl⟩
  ·rw [hold i bi h1,hold j bj h2] at he
   exact c1.inj i j bi bj h1 h2 mT oQ he
  ·rw [hold i bi h1,bp] at he
   obtain ⟨r1,r2⟩:=hrow (cz oQ)
   have:=cx.inj i k bi _ (fk h1).1 r2 mT oQ he
   have:=(fk h1).2;omega
  ·rw [hold j bj h2,bp] at he
   obtain ⟨r1,r2⟩:=hrow (cz mT)
   have:=cx.inj k j _ bj r2 (fk h2).1 mT oQ he
   have:=(fk h2).2;omega
  rfl
 ·intro i b hb
  rcases hinv hb with h1|⟨rfl,rfl⟩
  ·rw [hold i b h1]
   have h:=cx.box i b (fk h1).1
   cases b with
   |var cs=>
    obtain ⟨c,e,g1,g2⟩:=h
    exact ⟨c,e,g1,ak.mono qH _ _ (iS (fun _ hb=>hb) cs _ (k9 hw h1) g2)⟩
   |row sz es=>
    refine h.imp id ?_
    rintro ⟨c,e,g1,g2⟩
    exact ⟨c,e,g1,ay.mono hkeep _ _ (fun _=>rfl) _ _ g2⟩
   |kP sz es=>
    refine h.imp id ?_
    rintro ⟨g1,g2⟩
    exact ⟨hok _ g1,ay.mono hkeep _ _ (fun _=>rfl) _ _ g2⟩
   |it s p=>exact h
   |mp ag es=>obtain ⟨ms,clock,h1,h2,h3⟩:=h;exact ⟨ms,clock,h1,h2,aZ.mono hkeep _ _ _ h3⟩
   |dead=>trivial
   |bq=>trivial
  rw [bp]
  by_cases hne:es=[]
  ·exact .inl hne
  have h:=cx.box k _ (hrow hne).2
  refine h.imp id ?_
  rintro ⟨c,e,g1,g2⟩
  exact ⟨c,e,g1,ay.mono hkeep _ _ (fun _=>rfl) _ _ g2⟩
 ·intro i b hb hl
  rcases hinv hb with h1|⟨rfl,rfl⟩
  ·rw [hold i b h1];exact cx.apart i b (fk h1).1 hl
  rw [bp];exact cx.apart k _ (hrow (cz hl)).2 hl
 simp only [aj]
 refine ⟨⟨.row sz es,by rw [List.getElem?_append_right (by omega)];simp [hlen],rfl⟩,?_⟩
 rw [bp]
 rcases hu with ⟨_,rfl,base,rfl⟩|hu
 ·exact .inl ⟨rfl,base,rfl⟩
 simp only [aj] at hu
 exact hu.2
theorem kU:∀(ks:List Bool) (bs:List aA) (i:Nat) (b':aA),(kill ks bs)[i]?=some b'→∃b,bs[i]?=some b∧(b'=b∨(b'=.dead∧b.born=true))
 |[],bs,i,b',h=>⟨b',by simpa [kill] using h,.inl rfl⟩
 |_::_,[],i,b',h=>by simp [kill] at h
 |k::ks,b::bs,0,b',h=>by
  simp only [kill,List.getElem?_cons_zero,osI] at h
  refine ⟨b,rfl,?_⟩
  cases hk:(k&&b.born) with
  |false=>rw [hk] at h;exact .inl h.symm
  |true=>rw [hk] at h;simp at hk;exact .inr ⟨h.symm,hk.2⟩
 |k::ks,b::bs,i+1,b',h=>by
  simp only [kill,List.getElem?_cons_succ] at h
  obtain ⟨b0,h1,h2⟩:=kU ks bs i b' h
  exact ⟨b0,by simpa using h1,h2⟩
theorem Gu:∀(ks:List Bool) (bs:List aA) (i:Nat) (b:aA),bs[i]?=some b→∃b',(kill ks bs)[i]?=some b'∧(b'=b∨(b'=.dead∧b.born=true))
 |[],bs,i,b,h=>⟨b,by simpa [kill] using h,.inl rfl⟩
 |_::_,[],i,b,h=>by simp at h
 |k::ks,b0::bs,0,b,h=>by
  simp only [List.getElem?_cons_zero,osI] at h
  subst h
  refine ⟨_,by simp only [kill,List.getElem?_cons_zero];rfl,?_⟩
  cases hk:(k&&b0.born) with
  |false=>exact .inl rfl
  |true=>simp at hk;exact .inr ⟨rfl,hk.2⟩
 |k::ks,b0::bs,i+1,b,h=>by
  simp only [List.getElem?_cons_succ] at h
  obtain ⟨b',h1,h2⟩:=Gu ks bs i b h
  exact ⟨b',by simpa only [kill,List.getElem?_cons_succ] using h1,h2⟩
theorem S3 (ks:List Bool) (cx:cF G β bx w X):Ext β bx w β (kill ks bx) w∧cF G β (kill ks bx) w X:=by
 have ex:Ext β bx w β (kill ks bx) w:=by
  refine ⟨rfl,rfl,rfl,Nat.le_refl _,fun _ _ _=>rfl,fun k c e f h=>⟨c,h,rfl⟩,?_,?_⟩
  ·rintro i ⟨b,h1,h2⟩
   obtain ⟨b',h3,h4⟩:=Gu ks bx i b h1
   refine ⟨rfl,b',h3,?_⟩
   rcases h4 with rfl|⟨rfl,_⟩
   ·exact h2
   rfl
  intro i b h1 h2
  obtain ⟨b0,h3,h4⟩:=kU ks bx i b h1
  rcases h4 with rfl|⟨rfl,_⟩
  ·exact .inr ⟨i,b,h3,h2,rfl⟩
  simp [aA.live] at h2
 refine ⟨ex,cx.step ex ?_ ?_⟩
 ·intro i b h1
  obtain ⟨b0,h3,h4⟩:=kU ks bx i b h1
  rcases h4 with rfl|⟨rfl,_⟩
  ·exact .inl ⟨h3,fun _=>rfl⟩
  exact .inr trv
 intro i j bi bj h1 h2 l1 l2 he
 obtain ⟨b1,h3,h4⟩:=kU ks bx i bi h1
 obtain ⟨b2,h5,h6⟩:=kU ks bx j bj h2
 rcases h4 with rfl|⟨rfl,_⟩
 ·rcases h6 with rfl|⟨rfl,_⟩
  ·exact cx.inj i j _ _ h3 h5 l1 l2 he
  simp [aA.live] at l2
 simp [aA.live] at l1
def Ew (tmps:Array Value) (r:ResultVar):Sem Value:=
 match r with
 |.tmp t=>pure (tmps.getD t undef)
 |.cell a t=>do loadVar t (←asAddr (tmps.getD a undef))
theorem Jo (fn:Func) (tmps:Array Value):results fn tmps=(do let vs ←fn.results.mapM (Ew tmps);pure (if h:vs.size=1 then vs[0] else .tuple vs)):=rfl
theorem AA (hT:kH P T) {N:Nat} {ds:List Deferred} {s:St} {a:Act} (hF:Fr G N ds β w X s a):∀(rs:List ResultVar) {c:Prop} {vs:List AV},Cv T s.sl s.bx rs=some (c,vs)→c→
 ∃us:List Value,(rs.mapM (Ew a.tmps)).run P w=.ok us w∧ak β s.bx w (bf β s.bx w X) vs us
 |[],c,vs,h,_=>by
  simp [Cv] at h
  obtain ⟨_,rfl⟩:=h
  exact ⟨[],by simp,by simp [ak]⟩
 |.tmp t::r,c,vs,h,hc=>by
  simp only [Cv] at h
  split at h
  ·rename_i c' vs' h'
   simp only [osI,Prod.mk.injEq] at h
   obtain ⟨rfl,rfl⟩:=h
   obtain ⟨us,g1,g2⟩:=AA hT hF r h' hc.2
   refine ⟨a.tmps.getD t undef::us,?_,?_⟩
   ·rw [List.mapM_cons]
    simp only [Sem.run_bind,g1,Ew,Sem.run_pure,Result.andThen_ok]
   simp only [ak];exact ⟨_,_,rfl,ki (hF.yl t) hc.1,g2⟩
  simp at h
 |.cell t ty::r,c,vs,h,hc=>by
  simp only [Cv] at h
  split at h
  ·rename_i ti c' vs' VX h'
   split at h
   ·rename_i b o hl
    split at h
    ·rename_i c2 v b2 hld
     simp only [osI,Prod.mk.injEq] at h
     obtain ⟨rfl,rfl⟩:=h
     obtain ⟨us,g1,g2⟩:=AA hT hF r h' hc.2
     have hp:=hF.yl t
     rw [hl] at hp
     obtain ⟨_,x,k1,k2⟩:=Ad (P:=P) hT hF.cx VX hp hld hc.1
     simp only [aj] at hp
     rw [hp.1] at k1
     refine ⟨x::us,?_,?_⟩
     ·rw [List.mapM_cons]
      have:(loadVar ty ⟨β b,o,none⟩).run P w=.ok x w:=by simpa [Instr.loadAt,Instr.sureAddr] using k1
      simp only [Sem.run_bind,Ew,hp.1,asAddr,Sem.run_pure,Result.andThen_ok,this,g1]
     simp only [ak];exact ⟨_,_,rfl,k2,g2⟩
    simp at h
   simp at h
  simp at h
theorem Gv (hT:kH P T) {N:Nat} {ds:List Deferred} {s:St} {a:Act} (hF:Fr G N ds β w X s a) {fn:Func} {c:Prop} {vs:List AV} (h:Cv T s.sl s.bx fn.results.toList=some (c,vs)) (hc:c):
 ∃u,(results fn a.tmps).run P w=.ok u w∧aj β s.bx w (bf β s.bx w X) (CY vs) u:=by
 obtain ⟨us,g1,g2⟩:=AA hT hF _ h hc
 have hlen:=ak.length g2
 rw [Jo,Array.mapM_eq_mapM_toList]
 simp [g1]
 split
 ·rename_i h1
  match us,vs,h1,hlen,g2 with
  |[u],[v],_,_,g2=>
   simp only [ak,List.cons.injEq] at g2
   obtain ⟨_,_,⟨rfl,rfl⟩,h,_⟩:=g2
   exact h
 rename_i h1
 have:CY vs=.ek vs:=by
  match vs,hlen with
  |[],_=>rfl
  |[v],hl=>exact absurd hl h1
  |_::_::_,_=>rfl
 rw [this];simp only [aj];exact ⟨us,rfl,g2⟩
theorem Gw:∀(args:List AV) (i t:Nat),fW t (nO i args)=if i≤t then args.getD (t-i) .any else .any
 |[],i,t=>by simp [nO,fW]
 |x::xs,i,t=>by
  simp only [nO,fW,Gw xs (i+1) t]
  by_cases h:t=i
  ·subst h;simp
  rw [VV h]
  simp only [cond_false]
  by_cases h2:i≤t
  ·rw [if_pos (by omega),if_pos h2,show t-i=(t-(i+1))+1 by omega];simp
  rw [if_neg (by omega),if_neg h2]
theorem Jp (hT:kH P T) {f N:Nat} {fn:Func} {c:Code} {args:List AV} {bz aL:List aA} {res:iB}
 (hN:fn.ntmps=N) (hlen:Nat.ble args.length N=true)
 (h:∀(β:Nat→Nat) (w:World) (X:Nat→Prop) (a:Act),Fr G N [] β w X ⟨nO 0 args,bz⟩ a→c.wp P (fY G N [] X β bz w (Lv T fn.results.toList bz.length res aL)) a w)
 (β:Nat→Nat) (w:World) (vs:List Value) (X:Nat→Prop) (cx:cF G β bz w X) (hx:ak β bz w (bf β bz w X) args vs):
 c.wp P (bodyPost P fn fun e w'=>∃β',Ext β bz w β' aL w'∧cF G β' aL w' X∧mr β' aL w' (bf β' aL w' X) res e) {tmps:=(⟨vs⟩:Array Value)++Array.replicate (fn.ntmps-(⟨vs⟩:Array Value).size) undef,defers:=[]} w:=by
 have hl:=ak.length hx
 have hle:args.length≤N:=Nat.le_of_ble_eq_true hlen
 refine wp_mono (h β w X _ ⟨cx,rfl,?_,?_⟩) ?_
 ·simp [hN,hl];omega
 ·intro t
  rw [Gw]
  simp only [Nat.zero_le,if_true,Nat.sub_zero]
  by_cases ht:t<args.length
  ·obtain ⟨v,k1,k2⟩:=ak.get t args[t] hx (by simp [ht])
   have e1:args.getD t .any=args[t]:=by simp [List.getD_eq_getElem?_getD,ht]
   rw [e1]
   have hv:t<vs.length:=by omega
   have e2:vs[t]=v:=by rw [List.getElem?_eq_getElem hv] at k1;simpa using k1
   have e3:(({toList:=vs}:Array Value)++Array.replicate (fn.ntmps-(⟨vs⟩:Array Value).size) undef).getD t undef=v:=by
    simp [Array.getD_eq_getD_getElem?,Array.getElem?_append,hv,e2]
   rw [e3];exact k2
  simp [List.getD_eq_getElem?_getD,List.getElem?_eq_none (Nat.le_of_not_lt ht),aj]
 intro e a' w' O0
 have fin:∀β' s,Ext β bz w β' s.bx w'→Fr G N [] β' w' X s a'→(match Cv T s.sl s.bx fn.results.toList with
  |some (c,vs)=>U4 bz.length c (CY vs) s.bx res aL
  |none=>False)→a'.defers=[]∧∃v,(results fn a'.tmps).run P w'=.ok v w'∧∃β',Ext β bz w β' aL w'∧cF G β' aL w' X∧mr β' aL w' (bf β' aL w' X) res (.returned v):=by
  intro β' s ex hF hq
  split at hq
  ·rename_i c vs' hres
   obtain ⟨hc,hq⟩:=hq
   obtain ⟨u,k1,k2⟩:=Gv hT hF hres hc
   refine ⟨hF.defers,u,k1,?_⟩
   rcases hq with ⟨rfl,rfl⟩|⟨ks,y,q1,q2,rfl,q3,rfl⟩|⟨k,sz,m,es,q0,q1,q2,q3,q4,rfl,rfl⟩|⟨sz,q0,q1,q2,rfl,rfl⟩
   ·exact ⟨β',ex,hF.cx,k2⟩
   ·obtain ⟨e1,c1,r1⟩:=MY hF.cx q1 k2
    obtain ⟨e2,c2⟩:=S3 ks c1
    exact ⟨β',Gt ((ex.trans e1).trans e2),Gs c2 q3,oS (fun blk hb=>Gr _ blk hb) y u q2 (aj.mono (e2.eT X) _ _ r1)⟩
   ·rw [q0] at k2
    exact LK hF.cx ex q3 q4 (.inr ⟨q2,q1⟩) (.inr k2)
   rw [q0] at k2
   simp only [aj,List.length_nil] at k2
   obtain ⟨base,k2,_⟩:=k2
   exact LK (k:=0) hF.cx ex q1 q2 (.inl ⟨rfl,rfl⟩) (.inl ⟨rfl,rfl,base,k2⟩)
  exact hq.elim
 cases e<;>simp only [fY,bodyPost] at O0 ⊢
 ·obtain ⟨β',s,h1,h2,h3⟩:=O0;exact fin β' s h1 h2 h3
 ·obtain ⟨β',s,h1,h2,h3⟩:=O0;exact h3.elim
 ·obtain ⟨β',s,h1,h2,h3⟩:=O0;exact fin β' s h1 h2 h3
 obtain ⟨β',qq,v,u,h1,h2,h3,h4,h5,h6⟩:=O0
 obtain ⟨rfl,rfl⟩:=h6.ok
 exact ⟨h5,β',h2,h3,u,h1,h4⟩
theorem vc (hT:kH P T) {f N:Nat} {fn:Func} {c:Code} {args:List AV} {bz aL:List aA} {res:iB} (hf:P.funcs[f]?=some fn) (hb:fn.body=some c)
 (hname:(fn.name== "runtime.NumGoroutine")=false) (hN:fn.ntmps=N) (hlen:Nat.ble args.length N=true)
 (h:∀(β:Nat→Nat) (w:World) (X:Nat→Prop) (a:Act),Fr G N [] β w X ⟨nO 0 args,bz⟩ a→c.wp P (fY G N [] X β bz w (Lv T fn.results.toList bz.length res aL)) a w):bt P G f args bz res aL:=by
 intro β w vs X cx hx
 refine .inl ⟨?_,calls_of_wp hf hb (Jp (f:=f) hT hN hlen h β w vs X cx hx)⟩
 simp [callFunc,run_program,hf,hb]
 simpa using hname
end
end Dem
end
section
open Go Go.Deep
namespace Dem
inductive PT where
 |bool
 |int (k:IntKind)
 |str
 |sl (es:List PT)
def PD (r:TypeId→Option (List PT)) (sz:TypeId→Nat):List Field→Nat→Option (List PT)
 |[],_=>some []
 |f::fs,off=>if f.offset=off then match r f.type,PD r sz fs (off+sz f.type) with
  |some a,some b=>if a.length=sz f.type then some (a++b) else none
  |_,_=>none else none
def Gx (P:Program):Nat→TypeId→Option (List PT)
 |0,_=>none
 |n+1,t=>match P.underlying t with
  |some .bool=>some [.bool]
  |some (.int k)=>some [.int k]
  |some .string=>some [.str]
  |some (.slice e)=>match Gx P n e with
   |some ps=>if ps.length=P.cellsOf e∧0<ps.length then some [.sl ps] else none
   |none=>none
  |some (.struct fs)=>match PD (Gx P n) P.cellsOf fs.toList 0 with
   |some ps=>if ps.length=P.cellsOf t then some ps else none
   |none=>none
  |some (.array k e)=>match Gx P n e with
   |some ps=>if ps.length=P.cellsOf e∧k*ps.length=P.cellsOf t then some (List.replicate k ps).flatten else none
   |none=>none
  |_=>none
mutual
def yq:PT→D→Prop
 |.bool,d=>∃b,d=.bool b
 |.int k,d=>∃n,d=.int k n∧(Lit.int k n).wf=true
 |.str,d=>∃s:List UInt8,d=.str s∧s.length≤maxLen
 |.sl ps,d=>∃es:List (List D),d=.sl es∧es.length≤maxLen∧∀r∈es,c7 ps r
def c7:List PT→List D→Prop
 |[],ds=>ds=[]
 |p::ps,ds=>∃d r,ds=d::r∧yq p d∧c7 ps r
end
theorem c7.length:∀{ps:List PT} {ds:List D},c7 ps ds→ds.length=ps.length
 |[],ds,h=>by simp only [c7] at h;subst h;rfl
 |p::ps,ds,h=>by
  simp only [c7] at h
  obtain ⟨d,r,rfl,_,h2⟩:=h
  simp [c7.length h2]
theorem c7.append:∀{ps qs:List PT} {ds es:List D},c7 ps ds→c7 qs es→c7 (ps++qs) (ds++es)
 |[],qs,ds,es,h,g=>by simp only [c7] at h;subst h;exact g
 |p::ps,qs,ds,es,h,g=>by
  simp only [c7] at h
  obtain ⟨d,r,rfl,h1,h2⟩:=h
  simp only [List.cons_append,c7]
  exact ⟨d,r++es,rfl,h1,h2.append g⟩
theorem cC.append {w:World} {ok:Nat→Prop}:∀{ds es:List D} {vs us:List Value},cC w ok ds vs→cC w ok es us→cC w ok (ds++es) (vs++us)
 |[],es,vs,us,h,g=>by simp only [cC] at h;subst h;exact g
 |d::ds,es,vs,us,h,g=>by
  simp only [cC] at h
  obtain ⟨v,r,rfl,h1,h2⟩:=h
  simp only [List.cons_append,cC]
  exact ⟨v,r++us,rfl,h1,h2.append g⟩
theorem cC.row {w:World} {ok:Nat→Prop} {blk:Nat}:∀{ds:List D} {vs:List Value} {off:Nat},cC w ok ds vs→(∀i,i<vs.length→w.cell? ⟨blk,off+i,none⟩=vs[i]?)→aX w ok blk ds off
 |[],_,_,_,_=>by simp [aX]
 |d::ds,vs,off,h,hc=>by
  simp only [cC] at h
  obtain ⟨v,r,rfl,h1,h2⟩:=h
  simp only [aX]
  refine ⟨⟨v,by simpa using hc 0 (by simp),h1⟩,h2.row fun i hi=>?_⟩
  have:=hc (i+1) (by simp;omega)
  simpa [Nat.add_assoc,Nat.add_comm 1 i] using this
mutual
def gk {H:Type}:DataW H→List D
 |.lit (.bool b)=>[.bool b]
 |.lit (.int k n)=>[.int k n]
 |.lit (.string s)=>[.str s]
 |.nil=>[.sl []]
 |.slice elems _=>[.sl (ve elems)]
 |.agg parts=>iE parts
 |_=>[]
def ve {H:Type}:List (DataW H)→List (List D)
 |[]=>[]
 |d::r=>gk d::ve r
def iE {H:Type}:List (DataW H)→List D
 |[]=>[]
 |d::r=>gk d++iE r
end
theorem vf {H:Type}:∀l:List (DataW H),ve l=l.map gk
 |[]=>rfl
 |d::r=>by simp [ve,vf r]
theorem De {w:World} {ok:Nat→Prop} {blk sz:Nat}:∀(n off:Nat) (f:Nat→List D),(∀i,i<n→aX w ok blk (f i) (off+i*sz)∧(f i).length=sz)→ay w ok blk sz ((List.range n).map f) off
 |0,off,_,_=>by simp [ay]
 |n+1,off,f,h=>by
  obtain ⟨h1,h2⟩:=h 0 (by omega)
  rw [List.range_succ_eq_map,List.map_cons,List.map_map]
  simp only [ay]
  refine ⟨h2,by simpa using h1,De n (off+sz) _ fun i hi=>?_⟩
  obtain ⟨k1,k2⟩:=h (i+1) (by omega)
  rw [show off+sz+i*sz=off+(i+1)*sz by rw [Nat.succ_mul];omega]
  exact ⟨k1,k2⟩
theorem MZ {w:World} {a:Addr} {v:Value} (h:w.cell? a=some v):a.spot=none:=by
 unfold World.cell? at h
 split at h
 ·split at h
  ·cases h
  rename_i hs;simpa using hs
 cases h
theorem add_eq {a:Addr} (h:a.spot=none) (n:Nat):a.add n=⟨a.block,a.off+n,none⟩:=by
 unfold Addr.add
 split
 ·rename_i h0;subst h0;cases a;simp_all
 rfl
theorem AB {α:Type} (cs:List α) (off a b:Nat):(cs.drop off).take (a+b)=(cs.drop off).take a++(cs.drop (off+a)).take b:=by
 rw [List.take_add,List.drop_drop]
section
variable {H:Type} {enc:TypeId×Value→H} {P:Program} {w:World} {spare:Nat→Bool} {held:Bool} {ok:Nat→Prop}
theorem AD {r:TypeId→Option (List PT)} {n:Nat} {cs:List Value} (hr:∀t cs x ps,DataW.trod enc P w 0 spare held n t cs=some x→r t=some ps→cC w ok (gk x.1) cs∧c7 ps (gk x.1)):
 ∀(fs:List Field) (xs:List (DataW H×List MemPlace)) (off:Nat) (ps:List PT),PD r P.cellsOf fs off=some ps→xs.length=fs.length→
  (∀(i:Nat) (f:Field),fs[i]?=some f→DataW.trod enc P w 0 spare held n f.type ((cs.drop f.offset).take (P.cellsOf f.type))=xs[i]?)→
  cC w ok (iE (xs.map (·.1))) ((cs.drop off).take ps.length)∧c7 ps (iE (xs.map (·.1)))
 |[],xs,off,ps,h,hl,_=>by
  simp only [PD,osI] at h;subst h
  obtain rfl:xs=[]:=by simpa using hl
  exact ⟨by simp [cC,iE],by simp [c7,iE]⟩
 |f::fs,[],off,ps,h,hl,hx=>by simp at hl
 |f::fs,x::xs,off,ps,h,hl,hx=>by
  simp only [PD] at h
  split at h
  ·rename_i ho
   split at h
   ·rename_i a b ha hb
    split at h
    ·rename_i hla
     simp only [osI] at h;subst h
     have hx0:=hx 0 f rfl
     obtain ⟨g1,g2⟩:=hr _ _ _ _ (by simpa using hx0) ha
     obtain ⟨k1,k2⟩:=AD hr fs xs _ b hb (by simpa using hl) (fun i f hf=>by simpa using hx (i+1) f (by simpa using hf))
     rw [List.length_append,AB]
     rw [ho,←hla] at g1
     rw [←hla] at k1
     simp only [List.map_cons,iE]
     exact ⟨g1.append k1,g2.append k2⟩
    cases h
   cases h
  cases h
theorem Df {r:List PT} {cs:List Value}:∀(k off:Nat) (xs:List (DataW H×List MemPlace)),xs.length=k→(∀i x,xs[i]?=some x→cC w ok (gk x.1) ((cs.drop (off+i*r.length)).take r.length)∧c7 r (gk x.1))→
 cC w ok (iE (xs.map (·.1))) ((cs.drop off).take (k*r.length))∧c7 (List.replicate k r).flatten (iE (xs.map (·.1)))
 |0,off,xs,hl,_=>by
  obtain rfl:xs=[]:=by simpa using hl
  exact ⟨by simp [cC,iE],by simp [c7,iE]⟩
 |k+1,off,[],hl,h=>by simp at hl
 |k+1,off,x::xs,hl,h=>by
  obtain ⟨g1,g2⟩:=h 0 x rfl
  obtain ⟨k1,k2⟩:=Df (r:=r) (cs:=cs) k (off+r.length) xs (by simpa using hl) (fun i x hx=>by
   obtain ⟨k1,k2⟩:=h (i+1) x (by simpa using hx)
   rw [show off+r.length+i*r.length=off+(i+1)*r.length by rw [Nat.succ_mul];omega]
   exact ⟨k1,k2⟩)
  rw [show (k+1)*r.length=r.length+k*r.length by rw [Nat.succ_mul];omega,AB,List.replicate_succ,List.flatten_cons]
  simp only [List.map_cons,iE]
  exact ⟨cC.append (by simpa using g1) k1,g2.append k2⟩
theorem vg (hok:∀blk,blk<w.heap.size→ok blk):
 ∀(n m:Nat) (t:TypeId) (cs:List Value) (x:DataW H×List MemPlace) (ps:List PT),DataW.trod enc P w 0 spare held m t cs=some x→Gx P n t=some ps→cC w ok (gk x.1) cs∧c7 ps (gk x.1)
 |0,_,_,_,_,_,_,h=>by simp [Gx] at h
 |n+1,m,t,cs,x,ps,h,hp=>by
  have ih:=vg hok n
  rw [Gx] at hp
  cases hu:P.underlying t with
  |none=>simp [hu] at hp
  |some d=>
   simp only [hu] at hp
   cases d<;>(try (cases hp;done))<;>simp only at hp
   case bool=>
    simp only [osI] at hp;subst hp
    obtain ⟨b,rfl,rfl⟩:=DataW.trod_bool hu h
    exact ⟨by simp [cC,aJ,gk],by simp [c7,yq,gk]⟩
   case int k=>
    simp only [osI] at hp;subst hp
    obtain ⟨z,rfl,rfl,hw⟩:=DataW.trod_int hu h
    exact ⟨by simp [cC,aJ,gk],by simpa [c7,yq,gk] using hw⟩
   case string=>
    simp only [osI] at hp;subst hp
    obtain ⟨s,rfl,rfl,hs⟩:=DataW.trod_string hu h
    refine ⟨by simp [cC,aJ,gk],?_⟩
    simp only [c7,yq,gk]
    exact ⟨_,_,rfl,⟨_,rfl,by rw [Array.length_toList];exact hs⟩,rfl⟩
   case slice e=>
    split at hp
    ·rename_i qs hq
     split at hp
     ·rename_i hl
      simp only [osI] at hp;subst hp
      rcases open_slice hu h with ⟨rfl,rfl⟩|⟨a,len,cap,mm,n',Dd,Pl,rfl,hb,hlc,hm,M0,rfl,hx⟩
      ·exact ⟨by simp [cC,aJ,gk],by simp [c7,yq,gk]⟩
      have hlen:len≤mm:=by rw [M0];split<;>omega
      have hel:∀i,i<len→∃cs',w.cells? 0 (a.add (i*P.cellsOf e)) (P.cellsOf e)=some cs'∧cC w ok (gk (Dd i)) cs'∧c7 qs (gk (Dd i)):=by
       intro i hi
       obtain ⟨cs',hc,htr⟩:=hx i (by omega)
       exact ⟨cs',hc,ih _ _ _ _ _ htr hq⟩
      have hfl:gk (.slice ((List.range len).map Dd) ((List.range (mm-len)).map fun j=>Dd (len+j)))=[.sl ((List.range len).map fun i=>gk (Dd i))]:=by
       simp [gk,vf,List.map_map,Function.comp_def]
      simp only [hfl]
      have VX:c7 [.sl qs] [.sl ((List.range len).map fun i=>gk (Dd i))]:=by
       simp only [c7,yq]
       refine ⟨_,_,rfl,⟨_,rfl,by simp;omega,?_⟩,rfl⟩
       intro r hr
       obtain ⟨i,hi,rfl⟩:=List.mem_map.1 hr
       obtain ⟨cs',_,_,g⟩:=hel i (by simpa using hi)
       exact g
      refine ⟨?_,VX⟩
      cases len with
      |zero=>simp [cC,aJ]
      |succ len=>
       have hsp:a.spot=none:=by
        obtain ⟨cs',hc,htr⟩:=hel 0 (by omega)
        obtain ⟨_,hl',hcell⟩:=World.cells?_some hc
        have h0:=hcell 0 (by omega)
        rw [List.getElem?_eq_getElem (by omega)] at h0
        have:=MZ h0
        simpa [Addr.add] using this
       have aaL:a.block<w.heap.size:=by
        obtain ⟨cs',hc,htr⟩:=hel 0 (by omega)
        have:=World.cells?_block hc (by omega)
        simpa [Addr.add] using this
       have g:=De (w:=w) (ok:=ok) (blk:=a.block) (sz:=P.cellsOf e) (len+1) a.off (fun i=>gk (Dd i)) (fun i hi=>by
        obtain ⟨cs',hc,g1,g2⟩:=hel i hi
        obtain ⟨_,hl',hcell⟩:=World.cells?_some hc
        refine ⟨g1.row (fun j hj=>?_),by rw [g2.length];exact hl.1⟩
        have:=hcell j (by omega)
        rw [add_eq hsp,add_eq rfl] at this
        exact this)
       simp only [cC,aJ]
       exact ⟨_,_,rfl,⟨some a,cap,by simp,by simp;omega,.inr ⟨a.block,a.off,P.cellsOf e,by cases a;simp_all,hok _ aaL,g⟩⟩,rfl⟩
     cases hp
    cases hp
   case struct fs=>
    split at hp
    ·rename_i qs hq
     split at hp
     ·rename_i hl
      simp only [osI] at hp;subst hp
      obtain ⟨xs,m',hm,rfl,SO,hxl,hxs⟩:=DataW.trod_struct hu h
      have hf:∀(i:Nat) (f:Field),fs.toList[i]?=some f→DataW.trod enc P w 0 spare held m' f.type ((cs.drop f.offset).take (P.cellsOf f.type))=xs[i]?:=by
       intro i f hf
       exact hxs i f (by simpa using hf)
      obtain ⟨g1,g2⟩:=AD (ok:=ok) (fun t cs x ps=>ih m' t cs x ps) fs.toList xs 0 _ hq (by simpa using hxl) hf
      simp only [gk]
      refine ⟨?_,g2⟩
      have e:(cs.drop 0).take qs.length=cs:=by rw [List.drop_zero,hl,←SO,List.take_length]
      rwa [e] at g1
     cases hp
    cases hp
   case array k e=>
    split at hp
    ·rename_i qs hq
     split at hp
     ·rename_i hl
      simp only [osI] at hp;subst hp
      obtain ⟨xs,m',hm,rfl,SO,hxl,hxs⟩:=DataW.trod_array hu h
      obtain ⟨g1,g2⟩:=Df (w:=w) (ok:=ok) (r:=qs) (cs:=cs) k 0 xs hxl (fun i x hi=>by
       have hi3:i<xs.length:=(List.getElem?_eq_some_iff.1 hi).1
       have:=hxs i (by omega)
       rw [hl.1,Nat.zero_add]
       rw [hi] at this
       exact ih _ _ _ _ _ this hq)
      simp only [gk]
      refine ⟨?_,g2⟩
      have e:(cs.drop 0).take (k*qs.length)=cs:=by rw [List.drop_zero,hl.2,←SO,List.take_length]
      rwa [e] at g1
     cases hp
    cases hp
end
end Dem
end
section
open Go
namespace Dem
section
variable {T:Nat→Option TI} {G:Nat→Option (List D)} {bx aL:List aA}
def lI (bx aL:List aA):Prop:=∀(i:Nat) (b:aA),bx[i]?=some b→b.born=true→aL[i]?=some b
theorem lI.refl (bx:List aA):lI bx bx:=fun _ _ h _=>h
theorem PE (h:lI bx aL) {x:AV} {y:D} (hx:x.rY bx=some y):x.rY aL=some y:=by
 cases x with
 |ow b sz n=>
  simp only [AV.rY] at hx ⊢
  split at hx
  ·rename_i s es hb
   rw [h _ _ hb rfl];exact hx
  ·rename_i s es hb
   rw [h _ _ hb rfl];exact hx
  simp at hx
 |fn f cs=>cases cs with
  |nil=>exact hx
  |cons c cs=>exact hx
 |_=>exact hx
theorem LL (h:lI bx aL):∀{xs:List AV} {ys:List D},iU bx xs=some ys→iU aL xs=some ys
 |[],ys,hx=>hx
 |x::xs,ys,hx=>by
  simp only [iU] at hx ⊢
  split at hx
  ·rename_i y ys' hy hys
   rw [PE h hy,LL h hys];exact hx
  simp at hx
theorem sD (h:lI bx aL) {x:AV} {es:List (List D)} (hx:x.rows bx=some es):x.rows aL=some es:=by
 cases x with
 |d y=>cases y<;>exact hx
 |ow b sz n=>
  simp only [AV.rows] at hx ⊢
  split at hx
  ·rename_i s es hb
   rw [h _ _ hb rfl];exact hx
  ·rename_i s es hb
   rw [h _ _ hb rfl];exact hx
  simp at hx
 |vw b sz off n c ex=>
  simp only [AV.rows] at hx ⊢
  split at hx
  ·rename_i s es hb
   rw [h _ _ hb rfl];exact hx
  ·rename_i s es hb
   rw [h _ _ hb rfl];exact hx
  simp at hx
 |_=>exact hx
theorem Vd (h:lI bx aL) {x y:AV} (hx:fz bx x=some y):fz aL x=some y:=by
 cases x with
 |ow b sz n=>
  simp only [fz,Option.map_eq_some_iff] at hx ⊢
  obtain ⟨q,h1,h2⟩:=hx
  exact ⟨q,PE h h1,h2⟩
 |vw b sz off n c ex=>
  simp only [fz,Option.map_eq_some_iff] at hx ⊢
  obtain ⟨q,h1,h2⟩:=hx
  exact ⟨q,sD h h1,h2⟩
 |_=>exact hx
theorem PF (h:lI bx aL):∀{xs ys:List AV},IY bx xs=some ys→IY aL xs=some ys
 |[],ys,hx=>hx
 |x::xs,ys,hx=>by
  simp only [IY] at hx ⊢
  split at hx
  ·rename_i y ys' hy hys
   rw [Vd h hy,PF h hys];exact hx
  simp at hx
theorem Ey (h:lI bx aL):∀{xs ys:List AV},eS bx xs=some ys→eS aL xs=some ys
 |[],ys,hx=>hx
 |x::xs,ys,hx=>by
  simp only [eS] at hx ⊢
  split at hx
  ·rename_i y ys' hy hys
   have:qn aL x=some y:=by
    cases x with
    |agg cs=>
     simp only [qn,Option.map_eq_some_iff] at hy ⊢
     obtain ⟨q,h1,h2⟩:=hy
     exact ⟨q,PF h h1,h2⟩
    |_=>simp only [qn] at hy ⊢;exact Vd h hy
   rw [this,Ey h hys];exact hx
  simp at hx
theorem PG (h:lI bx aL) {ti:TI} {a:AV} {r:R} (hx:pU ti a bx=some r):pU ti a aL=some r:=by
 cases a with
 |ptr b off=>
  simp only [pU] at hx ⊢
  split at hx
  ·rename_i cs hb
   rw [h _ _ hb rfl];exact hx
  simp at hx
 |rp b sz i j=>
  simp only [pU] at hx ⊢
  split at hx
  ·rename_i s es hb
   rw [h _ _ hb rfl];exact hx
  ·rename_i s es hb
   rw [h _ _ hb rfl];exact hx
  simp at hx
 |_=>exact hx
theorem S4 (h:lI bx aL) {x v:AV} (hx:z6 x bx=some v):z6 x aL=some v:=by
 cases x with
 |d y=>cases y<;>exact hx
 |ow b sz n=>
  simp only [z6] at hx ⊢
  split at hx
  ·rename_i es hr
   rw [sD h hr];exact hx
  simp at hx
 |vw b sz off n c ex=>
  simp only [z6] at hx ⊢
  split at hx
  ·rename_i es hr
   rw [sD h hr];exact hx
  simp at hx
 |_=>exact hx
theorem Dg (h:lI bx aL) {size:Nat}:∀{ps:List (Nat×AV)} {rs:List (List D)},rowsOf bx size ps=some rs→rowsOf aL size ps=some rs
 |[],rs,hx=>hx
 |(i,v)::r,rs,hx=>by
  simp only [rowsOf] at hx ⊢
  split at hx
  ·rename_i vs hv
   split at hx
   ·rename_i ds X2 hd hr
    simp only [LL h hd,Dg h hr];exact hx
   simp at hx
  simp at hx
theorem M1 (h:lI bx aL) {t:Nat} {x:AV} {lo hi mx:Option Int} {c:Prop} {v:AV} (hx:qj T t x lo hi mx bx=some ⟨c,v,none⟩):qj T t x lo hi mx aL=some ⟨c,v,none⟩:=by
 unfold qj at hx ⊢
 split at hx
 ·split at hx
  ·exact hx
  ·split at hx
   ·rename_i es te hr hte
    simp only [sD h hr,hte]
    simp only [osI,R.mk.injEq] at hx ⊢
    refine ⟨hx.1,hx.2.1,?_⟩
    have h3:=hx.2.2
    generalize cE _=q at h3 ⊢
    cases q<;>simp at h3 ⊢
   simp at hx
  ·split at hx
   ·have hr:=‹AV.rows bx _=some _›
    have hte:=‹T _=some _›
    simp only [sD h hr,hte]
    simp only [osI,R.mk.injEq] at hx ⊢
    refine ⟨hx.1,hx.2.1,?_⟩
    have h3:=hx.2.2
    generalize cE _=q at h3 ⊢
    cases q<;>simp at h3 ⊢
   simp at hx
  ·exact hx
  ·split at hx
   ·split at hx
    ·simp at hx
    simp at hx
   simp at hx
  simp at hx
 simp at hx
theorem AE (h:lI bx aL) {t n:Nat} {ps:List (Nat×AV)} {c:Prop} {v:AV} (hx:gi T t n ps bx=some ⟨c,v,none⟩):gi T t n ps aL=some ⟨c,v,none⟩:=by
 unfold gi at hx ⊢
 split at hx
 ·split at hx
  ·split at hx
   ·rename_i te hte
    generalize (Nat.beq ps.length n&&mW 0 ps&&Nat.ble (n*te.size) 16777216&&te.zero.cells?.isSome)=q at hx ⊢
    cases q with
    |false=>simp at hx
    |true=>
     simp only [cond_true] at hx ⊢
     split at hx
     ·rename_i rs hr
      simp only [Dg h hr]
      simp only [osI,R.mk.injEq] at hx ⊢
      refine ⟨hx.1,hx.2.1,?_⟩
      have h3:=hx.2.2
      generalize FM _=q at h3 ⊢
      cases q<;>simp at h3 ⊢
     simp at hx
   simp at hx
  simp at hx
 simp at hx
theorem PI (h:lI bx aL) {s d:Nat} {x:AV} {r:R} (hx:xY T s d x bx=some r):xY T s d x aL=some r:=by
 unfold xY at hx ⊢
 split at hx
 ·split at hx
  ·exact hx
  ·split at hx
   ·rename_i te es hte hr
    simp only [sD h hr,hte];exact hx
   simp at hx
  ·exact hx
  simp at hx
 simp at hx
theorem vj {t:Nat} {s x:AV} {r:R} (hx:lD T t s x bx=some r):r.bx≠none:=by
 unfold lD at hx
 split at hx
 ·split at hx
  ·split at hx
   ·rename_i te hte
    cases hz:eP te with
    |false=>simp [hz] at hx
    |true=>
    simp only [hz,cond_true] at hx
    split at hx
    ·split at hx
     ·simp only [osI] at hx;subst hx;simp
     ·split at hx
      ·simp at hx
      simp only [osI] at hx;subst hx;simp
     ·split at hx
      ·rename_i b _ _ _ _ _ _
       generalize sameBox _ x=q at hx
       cases q with
       |true=>simp at hx
       |false=>simp only [cond_false,osI] at hx;subst hx;simp
      simp at hx
     simp at hx
    simp at hx
   simp at hx
  simp at hx
 simp at hx
theorem Gy {ti:TI} {a v:AV} {r:R} (hx:tM ti a v bx=some r):r.bx≠none:=by
 unfold tM at hx
 split at hx
 ·simp at hx
 generalize Nat.beq _ _=q at hx
 cases q with
 |false=>simp at hx
 |true=>
 simp only [cond_true] at hx
 split at hx
 ·split at hx
  ·generalize Nat.ble _ _=q at hx
   cases q with
   |false=>simp at hx
   |true=>simp only [cond_true,osI] at hx;subst hx;simp
  simp at hx
 ·split at hx
  ·split at hx
   ·simp only [osI] at hx;subst hx;simp
   simp at hx
  simp at hx
 simp at hx
theorem Gz (h:lI bx aL) {b:Builtin} {args:List AV} {ats:List Nat} {c:Prop} {v:AV} (hx:iZ T b args ats bx=some ⟨c,v,none⟩):iZ T b args ats aL=some ⟨c,v,none⟩:=by
 unfold iZ at hx ⊢
 split at hx
 ·split at hx
  ·split at hx
   ·exact hx
   ·exact hx
   ·split at hx
    ·rename_i v' hl
     simp only [S4 h hl];exact hx
    simp at hx
   simp at hx
  simp at hx
 ·exact hx
 ·exact hx
 ·split at hx
  ·split at hx
   ·simp at hx
   exact absurd rfl (vj hx)
  simp at hx
 simp at hx
theorem Jq {te:TI} {n m:Int} {bx:List aA} {c:Prop} {v:AV} {b:Option (List aA)} (h:FN te n m bx=some ⟨c,v,b⟩):b≠none:=by
 unfold FN at h
 split at h
 ·cases hz:eP te with
  |false=>simp [hz] at h
  |true=>simp only [hz,cond_true,osI,R.mk.injEq] at h;obtain ⟨_,_,rfl⟩:=h;simp
 simp at h
theorem PJ (h:lI bx aL) {ev:Operand→AV} {op:Op} {c:Prop} {v:AV} (hx:mY T ev op bx=some ⟨c,v,none⟩):mY T ev op aL=some ⟨c,v,none⟩:=by
 unfold mY at hx ⊢
 split at hx
 ·exact hx
 ·exact hx
 ·split at hx
  ·exact absurd rfl (Jq hx)
  simp at hx
 ·split at hx
  ·exact hx
  ·exact hx
  ·split at hx
   ·simp only [CV] at hx
    split at hx
    ·split at hx
     ·generalize (Nat.beq _ _&&Nat.beq _ _)=q at hx
      cases q<;>simp at hx
     simp at hx
    simp at hx
   simp at hx
  ·split at hx
   ·simp only [Ef] at hx
    split at hx
    ·split at hx
     ·rename_i te _ _ _ _ _ _ _ _ _ _ _ _ _ _ _
      cases hq:(Nat.beq _ _&&Nat.beq _ _&&eP _:Bool)<;>rw [hq] at hx<;>simp at hx
     simp at hx
    simp at hx
   simp at hx
  ·split at hx
   ·split at hx
    ·simp only [Lp] at hx
     split at hx
     ·generalize (Nat.beq _ _&&Nat.beq _ _&&eP _&&_)=q at hx
      cases q<;>simp at hx
     simp at hx
    simp at hx
   ·generalize sameBox _ _=q at hx
    cases q with
    |true=>
     simp only [cond_true,sn] at hx
     split at hx
     ·generalize (Nat.beq _ _&&Nat.beq _ _)=q at hx
      cases q<;>simp at hx
     simp at hx
    |false=>
     simp only [cond_false] at hx
     split at hx
     ·rename_i hap
      simp only [osI,R.mk.injEq] at hx
      obtain ⟨_,_,rfl⟩:=hx
      exact absurd rfl (vj hap)
     simp at hx
   simp at hx
  simp at hx
 simp at hx
theorem S5 (h:lI bx aL) {ev:Operand→AV} {op:Op} {c:Prop} {v:AV} (hx:lE T ev op bx=some ⟨c,v,none⟩):lE T ev op aL=some ⟨c,v,none⟩:=by
 unfold lE at hx ⊢
 split at hx
 ·exact hx
 ·exact hx
 ·split at hx
  ·split at hx<;>simp at hx
  simp at hx
 ·split at hx<;>simp at hx
 ·split at hx
  ·exact PG h hx
  simp at hx
 ·split at hx
  ·exact absurd rfl (Gy hx)
  simp at hx
 ·exact hx
 ·exact AE h hx
 ·exact hx
 ·exact hx
 ·exact hx
 ·exact hx
 ·exact hx
 ·exact hx
 ·exact hx
 ·exact PI h hx
 ·split at hx
  ·exact M1 h hx
  simp at hx
 ·exact hx
 ·exact hx
 ·exact hx
 ·exact hx
 ·exact Gz h hx
 exact hx
theorem VY (h:lI bx aL) {ev:Operand→AV} {op:Op} {c:Prop} {v:AV} (hx:FH T ev op bx=some ⟨c,v,none⟩):FH T ev op aL=some ⟨c,v,none⟩:=by
 unfold FH at hx ⊢
 cases hv:je ev op with
 |true=>rw [hv,cond_true] at hx;rw [cond_true];exact PJ h hx
 |false=>rw [hv,cond_false] at hx;rw [cond_false];exact S5 h hx
theorem lY {ev sE:Operand→AV} {x:Option Operand} (h:∀y,x=some y→ev y=sE y):Cp ev x=Cp sE x:=by
 cases x with
 |none=>rfl
 |some y=>simp only [Cp,h y rfl]
theorem Jr {ev sE:Operand→AV} {op:Op} (h:∀x∈op.operands.toList,ev x=sE x):lE T ev op bx=lE T sE op bx:=by
 have pairs:∀ps:Array (Nat×Operand),(∀x∈(ps.toList.map (·.2)).toArray.toList,ev x=sE x)→(ps.toList.map fun p=>(p.1,ev p.2))=(ps.toList.map fun p=>(p.1,sE p.2)):=by
  intro ps hp
  refine List.map_congr_left fun p hm=>?_
  rw [hp p.2 (by simp only [List.mem_map];exact ⟨p,hm,rfl⟩)]
 cases op<;>simp only [Op.operands] at h
 case build t ps=>simp only [lE,pairs ps h]
 case buildSlice t n ps=>simp only [lE,pairs ps h]
 case makeFunc fn first captured=>
  cases fn<;>simp only [lE]
  rw [List.map_congr_left (l:=captured.toList) (f:=ev) (g:=sE) fun x hx=>h x (by simp;exact .inr (by simpa using hx)),List.map_congr_left (l:=first.toList) (f:=ev) (g:=sE) fun x hx=>h x (by simp;exact .inl (by simpa using hx))]
 case slice t x lo hi mx=>
  simp only [lE,h x (by simp),lY (x:=lo) (fun y hy=>h y (by simp [hy])),lY (x:=hi) (fun y hy=>h y (by simp [hy])),lY (x:=mx) (fun y hy=>h y (by simp [hy]))]
 case call c=>
  obtain ⟨callee,args,ats⟩:=c
  cases callee<;>simp only [lE]
  rw [List.map_congr_left (f:=ev) (g:=sE) fun x hx=>h x (by simp [Call.operands];exact by simpa using hx)]
 all_goals (first|rfl|(simp only [lE];simp_all;done)|(simp_all [lE];done))
theorem yu {ev sE:Operand→AV} {op:Op} (h:∀x∈op.operands.toList,ev x=sE x):je ev op=je sE op∧mY T ev op bx=mY T sE op bx:=by
 cases op<;>simp only [Op.operands] at h
 case slice t x lo hi mx=>
  simp only [je,mY,h x (by simp),lY (x:=lo) (fun y hy=>h y (by simp [hy])),lY (x:=hi) (fun y hy=>h y (by simp [hy])),lY (x:=mx) (fun y hy=>h y (by simp [hy])),and_self]
 case indexAddr t x i=>simp only [je,mY,h x (by simp),h i (by simp),and_self]
 case makeSlice t x i=>simp only [je,mY,h x (by simp),h i (by simp),and_self]
 case call c=>
  obtain ⟨callee,args,ats⟩:=c
  cases callee
  case builtin b=>
   have hm:args.toList.map ev=args.toList.map sE:=List.map_congr_left (f:=ev) (g:=sE) fun x hx=>h x (by simp [Call.operands];exact by simpa using hx)
   have hs:∀x∈args.toList,ev x=sE x:=fun x hx=>h x (by simp [Call.operands];exact by simpa using hx)
   refine ⟨?_,by simp only [mY,hm]⟩
   simp only [je]
   generalize args.toList=l at hs
   split<;>first|rfl|(rw [hs _ (by simp)])
  all_goals exact ⟨rfl,rfl⟩
 all_goals exact ⟨rfl,rfl⟩
theorem M2 {ev sE:Operand→AV} {op:Op} (h:∀x∈op.operands.toList,ev x=sE x):FH T ev op bx=FH T sE op bx:=by
 unfold FH
 rw [(yu (T:=T) (bx:=bx) h).1,(yu (T:=T) (bx:=bx) h).2,Jr h]
end
end Dem
end
