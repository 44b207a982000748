/- Parts of a proof, joined. -/
import Derived.Test.YtihohjnkkalgiaaGreatDoorP04
set_option linter.all false
set_option maxRecDepth 100000
set_option maxHeartbeats 4000000
section
open Go
namespace Dem
section
variable {P:Program} {T:Nat→Option TI} {G:Nat→Option (List D)} {β:Nat→Nat} {bx:List ay} {w:World} {X:Nat→Prop}
def lm (β:Nat→Nat) (bx:List ay) (w:World) (ok:Nat→Prop):iy→Ending→Prop
 |.ret v,.returned u=>aj β bx w ok v u
 |.Jl v,.panicked ch=>∃u,ch=[{v:=u,recovered:=false}]∧aj β bx w ok v u
 |_,_=>False
def iK (P:Program) (f:Nat) (vs:Array Value) (w:World) (R:Ending→World→Prop):Prop:=
 ((callFunc f vs).run P w=.ok (.enter f vs) w∧Calls P f vs w R)∨∃v w',(callFunc f vs).run P w=.ok (.value v) w'∧R (.returned v) w'
theorem iK.mono {f:Nat} {vs:Array Value} {R R':Ending→World→Prop} (h:iK P f vs w R) (hr:∀e w',R e w'→R' e w'):iK P f vs w R':=by
 rcases h with ⟨h1,h2⟩|⟨v,w',h1,h2⟩
 ·exact .inl ⟨h1,Calls.mono h2 hr⟩
 exact .inr ⟨v,w',h1,hr _ _ h2⟩
def bA (P:Program) (G:Nat→Option (List D)) (f:Nat) (args:List AV) (bx:List ay) (res:iy) (aP:List ay):Prop:=
 ∀(β:Nat→Nat) (w:World) (vs:List Value) (X:Nat→Prop),cz G β bx w X→ak β bx w (bc β bx w X) args vs→
  iK P f ⟨vs⟩ w fun e w'=>∃β',Ext β bx w β' aP w'∧cz G β' aP w' X∧lm β' aP w' (bc β' aP w' X) res e
mutual
theorem oK {β β':Nat→Nat} {bx aP:List ay} {w:World} {ok ok':Nat→Prop} (h:∀blk,ok blk→ok' blk):∀(x:AV) (v:Value),x.shut=true→aj β bx w ok x v→aj β' aP w ok' x v
 |.any,_,_,_=>by simp [aj]
 |.d x,v,_,hv=>by simp only [aj] at hv ⊢;exact aF.mono (fun blk hb=>⟨h blk hb,rfl⟩) _ _ hv
 |.k c,v,_,hv=>by simpa [aj] using hv
 |.agg cs,v,hs,hv=>by
  simp only [aj] at hv ⊢;obtain ⟨vs,h1,h2⟩:=hv
  exact ⟨vs,h1,kP h cs vs (by simpa [AV.shut] using hs) h2⟩
 |.dL cs,v,hs,hv=>by
  simp only [aj] at hv ⊢;obtain ⟨vs,h1,h2⟩:=hv
  exact ⟨vs,h1,kP h cs vs (by simpa [AV.shut] using hs) h2⟩
 |.ptr _ _,_,hs,_=>by simp [AV.shut] at hs
 |.rp _ _ _ _,_,hs,_=>by simp [AV.shut] at hs
 |.ow _ _ _,_,hs,_=>by simp [AV.shut] at hs
 |.vw _ _ _ _ _ _,_,hs,_=>by simp [AV.shut] at hs
 |.ep ds,v,_,hv=>by
  simp only [aj] at hv ⊢;obtain ⟨blk,off,h1,h2,h3⟩:=hv
  exact ⟨blk,off,h1,h blk h2,aT.mono (fun blk hb=>⟨h blk hb,rfl⟩) blk (fun _=>rfl) _ _ h3⟩
 |.cl es,v,_,hv=>by
  simp only [aj] at hv ⊢;obtain ⟨base,h1,h2⟩:=hv
  refine ⟨base,h1,h2.imp id ?_⟩
  rintro ⟨blk,off,sz,e1,e2,e3⟩
  exact ⟨blk,off,sz,e1,h blk e2,ap.mono (fun blk hb=>⟨h blk hb,rfl⟩) blk sz (fun _=>rfl) _ _ e3⟩
 |.fn f cs,v,hs,hv=>by
  simp only [aj] at hv ⊢;obtain ⟨vs,h1,h2⟩:=hv
  exact ⟨vs,h1,kP h cs vs (by simpa [AV.shut] using hs) h2⟩
 |.qx t x,v,hs,hv=>by
  simp only [aj] at hv ⊢;obtain ⟨u,h1,h2⟩:=hv
  exact ⟨u,h1,oK h x u (by simpa [AV.shut] using hs) h2⟩
 |.cond p x,v,hs,hv=>by
  simp only [aj] at hv ⊢
  exact ⟨fun hp=>oK h x v (by simpa [AV.shut] using hs) (hv.1 hp),hv.2⟩
theorem kP {β β':Nat→Nat} {bx aP:List ay} {w:World} {ok ok':Nat→Prop} (h:∀blk,ok blk→ok' blk):∀(xs:List AV) (vs:List Value),AV.shut.lY xs=true→ak β bx w ok xs vs→ak β' aP w ok' xs vs
 |[],vs,_,hv=>by simpa [ak] using hv
 |x::xs,vs,hs,hv=>by
  simp only [ak] at hv ⊢
  obtain ⟨u,us,h1,h2,h3⟩:=hv
  simp only [AV.shut.lY,Bool.and_eq_true] at hs
  exact ⟨u,us,h1,oK h x u hs.1 h2,kP h xs us hs.2 h3⟩
end
theorem p9 {β β':Nat→Nat} {bx aP:List ay} {w w':World} {ok ok':Nat→Prop}:∀(xs:List AV) (vs:List Value),AV.flat.xg xs=true→ak β bx w ok xs vs→ak β' aP w' ok' xs vs
 |[],vs,_,hv=>by simpa [ak] using hv
 |x::xs,vs,hs,hv=>by
  simp only [ak] at hv ⊢
  obtain ⟨u,us,h1,h2,h3⟩:=hv
  cases x with
  |d y=>cases y<;>simp [AV.flat.xg] at hs<;>exact ⟨u,us,h1,by simpa [aj,aF] using h2,p9 xs us hs h3⟩
  |k c=>simp [AV.flat.xg] at hs;exact ⟨u,us,h1,by simpa [aj] using h2,p9 xs us hs h3⟩
  |_=>simp [AV.flat.xg] at hs
theorem nC {β β':Nat→Nat} {bx aP:List ay} {w w':World} {ok ok':Nat→Prop}:∀(xs:List AV) (vs:List Value),AV.flat.oz xs=true→ak β bx w ok xs vs→ak β' aP w' ok' xs vs
 |[],vs,_,hv=>by simpa [ak] using hv
 |x::xs,vs,hs,hv=>by
  simp only [ak] at hv ⊢
  obtain ⟨u,us,h1,h2,h3⟩:=hv
  cases x with
  |d y=>cases y<;>simp [AV.flat.oz] at hs<;>exact ⟨u,us,h1,by simpa [aj,aF] using h2,nC xs us hs h3⟩
  |k c=>simp [AV.flat.oz] at hs;exact ⟨u,us,h1,by simpa [aj] using h2,nC xs us hs h3⟩
  |agg cs=>
   simp [AV.flat.oz] at hs
   simp only [aj] at h2
   obtain ⟨v2,e1,e2⟩:=h2
   exact ⟨u,us,h1,by simp only [aj];exact ⟨v2,e1,p9 cs v2 hs.1 e2⟩,nC xs us hs.2 h3⟩
  |_=>simp [AV.flat.oz] at hs
theorem Ds {β β':Nat→Nat} {bx aP:List ay} {w w':World} {ok ok':Nat→Prop} (x:AV) (v:Value) (hf:x.flat=true) (hv:aj β bx w ok x v):aj β' aP w' ok' x v:=by
 cases x with
 |d y=>cases y<;>simp [AV.flat] at hf<;>simpa [aj,aF] using hv
 |k c=>simpa [aj] using hv
 |agg cs=>simp only [aj] at hv ⊢;obtain ⟨vs,h1,h2⟩:=hv;exact ⟨vs,h1,p9 cs vs (by simpa [AV.flat] using hf) h2⟩
 |dL cs=>simp only [aj] at hv ⊢;obtain ⟨vs,h1,h2⟩:=hv;exact ⟨vs,h1,nC cs vs (by simpa [AV.flat] using hf) h2⟩
 |_=>simp [AV.flat] at hf
theorem Jv {w w':World} {ok ok':Nat→Prop}:∀(x:D) (v:Value),x.flat=true→aF w ok x v→aF w' ok' x v:=by
 intro x v hf hv
 cases x<;>simp [D.flat] at hf<;>simpa [aF] using hv
theorem vA {w:World} {ok ok':Nat→Prop} {blk:Nat}:∀(xs:List D) (off:Nat),(∀x∈xs,x.flat=true)→aT w ok blk xs off→aT w ok' blk xs off
 |[],_,_,_=>by simp [aT]
 |x::xs,off,hf,hv=>by
  simp only [aT] at hv ⊢
  obtain ⟨⟨u,h1,h2⟩,h3⟩:=hv
  exact ⟨⟨u,h1,Jv x u (hf x (by simp)) h2⟩,vA xs _ (fun y hy=>hf y (by simp [hy])) h3⟩
theorem nD {w:World} {ok ok':Nat→Prop} {blk sz:Nat}:∀(rs:List (List D)) (off:Nat),(∀r∈rs,∀x∈r,x.flat=true)→ap w ok blk sz rs off→ap w ok' blk sz rs off
 |[],_,_,_=>by simp [ap]
 |r::rs,off,hf,hv=>by
  simp only [ap] at hv ⊢
  exact ⟨hv.1,vA r off (hf r (by simp)) hv.2.1,nD rs _ (fun s hs=>hf s (by simp [hs])) hv.2.2⟩
theorem BQ (cx:cz G β bx w X) {x y:AV} {u:Value} (hd:fz bx x=some y) (h:aj β bx w (bc β bx w X) x u):
 Ext β bx w β (x.cq bx) w∧cz G β (x.cq bx) w X∧aj β (x.cq bx) w (bc β (x.cq bx) w X) y u:=by
 cases x with
 |cl es=>
  simp only [fz,osI] at hd;subst hd
  obtain ⟨g1,g2,g3⟩:=xz (y:=.sl es) cx rfl h
  exact ⟨g1,g2,by simpa [aj] using g3⟩
 |ow b sz n=>
  simp only [fz,Option.map_eq_some_iff] at hd
  obtain ⟨z,h1,rfl⟩:=hd
  obtain ⟨g1,g2,g3⟩:=xz cx h1 h
  exact ⟨g1,g2,by simpa [aj] using g3⟩
 |vw b sz off n c ex=>
  simp only [fz,Option.map_eq_some_iff] at hd
  obtain ⟨es,h1,rfl⟩:=hd
  obtain ⟨g1,g2,g3⟩:=jz cx h1 h
  exact ⟨g1,g2,by simpa [aj,aF] using g3⟩
 |_=>simp only [fz,osI] at hd;subst hd;exact ⟨Ext.refl _ _ _,cx,h⟩
theorem Dt {x y z:AV} (h:fz bx x=some y):fz (z.cq bx) x=some y:=by
 cases x with
 |ow b sz n=>
  simp only [fz,Option.map_eq_some_iff] at h ⊢
  obtain ⟨q,h1,h2⟩:=h
  exact ⟨q,Aw h1,h2⟩
 |vw b sz off n c ex=>
  simp only [fz,Option.map_eq_some_iff] at h ⊢
  obtain ⟨q,h1,h2⟩:=h
  refine ⟨q,?_,h2⟩
  simp only [AV.rows] at h1 ⊢
  split at h1
  ·rename_i s es hb
   rcases sD (z:=z) (.inl hb) with g|g<;>simp [g,h1]
  ·rename_i s es hb
   rcases sD (z:=z) (.inr hb) with g|g<;>simp [g,h1]
  simp at h1
 |_=>exact h
theorem uu {z:AV}:∀{xs ys:List AV},FH bx xs=some ys→FH (z.cq bx) xs=some ys
 |[],ys,h=>h
 |x::xs,ys,h=>by
  simp only [FH] at h ⊢
  split at h
  ·rename_i y ys' hy hys
   rw [Dt hy,uu hys];exact h
  simp at h
theorem F1 {x y z:AV} (h:oy bx x=some y):oy (z.cq bx) x=some y:=by
 cases x with
 |agg cs=>
  simp only [oy,Option.map_eq_some_iff] at h ⊢
  obtain ⟨q,h1,h2⟩:=h
  exact ⟨q,uu h1,h2⟩
 |_=>simp only [oy] at h ⊢;exact Dt h
theorem rm {z:AV}:∀{xs ys:List AV},eL bx xs=some ys→eL (z.cq bx) xs=some ys
 |[],ys,h=>h
 |x::xs,ys,h=>by
  simp only [eL] at h ⊢
  split at h
  ·rename_i y ys' hy hys
   rw [F1 hy,rm hys];exact h
  simp at h
theorem vB {xs ys:List AV}:∀(zs:List AV) (bx:List ay),eL bx xs=some ys→eL (dS bx zs) xs=some ys
 |[],_,h=>h
 |_::zs,_,h=>vB zs _ (rm h)
theorem Du {xs ys:List AV} {z:AV} (h:eL bx xs=some ys):eL (kT bx z) xs=some ys:=by
 cases z with
 |agg cs=>exact vB cs bx h
 |_=>simp only [kT];exact rm h
theorem Dv:∀(xs:List AV) (bx:List ay) (ys:List AV) (vs:List Value),cz G β bx w X→FH bx xs=some ys→ak β bx w (bc β bx w X) xs vs→
 Ext β bx w β (dS bx xs) w∧cz G β (dS bx xs) w X∧ak β (dS bx xs) w (bc β (dS bx xs) w X) ys vs
 |[],bx,ys,vs,cx,hd,h=>by simp [FH] at hd;subst hd;exact ⟨Ext.refl _ _ _,cx,by simpa [dS] using h⟩
 |x::xs,bx,ys,vs,cx,hd,h=>by
  simp only [FH] at hd
  split at hd
  ·rename_i y ys' hy hys
   simp at hd;subst hd
   simp only [ak] at h
   obtain ⟨u,us,rfl,g1,g2⟩:=h
   obtain ⟨e1,c1,r1⟩:=BQ cx hy g1
   obtain ⟨e2,c2,r2⟩:=Dv xs (x.cq bx) ys' us c1 (uu hys) (ak.mono (e1.eN X) _ _ g2)
   refine ⟨e1.trans e2,c2,?_⟩
   simp only [dS,ak]
   exact ⟨u,us,rfl,aj.mono (e2.eN X) _ _ r1,r2⟩
  simp at hd
theorem Az (cx:cz G β bx w X) {x y:AV} {u:Value} (hd:oy bx x=some y) (h:aj β bx w (bc β bx w X) x u):
 Ext β bx w β (kT bx x) w∧cz G β (kT bx x) w X∧aj β (kT bx x) w (bc β (kT bx x) w X) y u:=by
 cases x with
 |agg cs=>
  simp only [oy,Option.map_eq_some_iff] at hd
  obtain ⟨ys,h1,rfl⟩:=hd
  simp only [aj] at h
  obtain ⟨vs,rfl,hvs⟩:=h
  obtain ⟨g1,g2,g3⟩:=Dv cs bx ys vs cx h1 hvs
  exact ⟨g1,g2,by simp only [aj];exact ⟨vs,rfl,g3⟩⟩
 |_=>simp only [oy] at hd;simp only [kT];exact BQ cx hd h
theorem kQ:∀(xs:List AV) (bx:List ay) (ys:List AV) (vs:List Value),cz G β bx w X→eL bx xs=some ys→ak β bx w (bc β bx w X) xs vs→
 Ext β bx w β (eV bx xs) w∧cz G β (eV bx xs) w X∧ak β (eV bx xs) w (bc β (eV bx xs) w X) ys vs
 |[],bx,ys,vs,cx,hd,h=>by simp [eL] at hd;subst hd;exact ⟨Ext.refl _ _ _,cx,by simpa [eV] using h⟩
 |x::xs,bx,ys,vs,cx,hd,h=>by
  simp only [eL] at hd
  split at hd
  ·rename_i y ys' hy hys
   simp at hd;subst hd
   simp only [ak] at h
   obtain ⟨u,us,rfl,g1,g2⟩:=h
   obtain ⟨e1,c1,r1⟩:=Az cx hy g1
   obtain ⟨e2,c2,r2⟩:=kQ xs (kT bx x) ys' us c1 (Du hys) (ak.mono (e1.eN X) _ _ g2)
   refine ⟨e1.trans e2,c2,?_⟩
   simp only [eV,ak]
   exact ⟨u,us,rfl,aj.mono (e2.eN X) _ _ r1,r2⟩
  simp at hd
theorem Ig {x y:AV} (h:fz [] x=some y) (bx:List ay):x.cq bx=bx:=by
 cases x with
 |ow b sz n=>simp [fz,AV.qy] at h
 |vw b sz off n c ex=>simp [fz,AV.rows] at h
 |_=>rfl
theorem Dw:∀{xs ys:List AV} (bx:List ay),FH [] xs=some ys→dS bx xs=bx
 |[],_,_,_=>rfl
 |x::xs,ys,bx,h=>by
  simp only [FH] at h
  split at h
  ·rename_i y ys' hy hys
   simp only [dS,Ig hy bx];exact Dw bx hys
  simp at h
theorem jA:∀{xs ys:List AV} (bx:List ay),eL [] xs=some ys→eV bx xs=bx
 |[],_,_,_=>rfl
 |x::xs,ys,bx,h=>by
  simp only [eL] at h
  split at h
  ·rename_i y ys' hy hys
   have:kT bx x=bx:=by
    cases x with
    |agg cs=>
     simp only [oy,Option.map_eq_some_iff] at hy
     obtain ⟨q,h1,_⟩:=hy
     exact Dw bx h1
    |_=>simp only [oy] at hy;simp only [kT];exact Ig hy bx
   simp only [eV,this];exact jA bx hys
  simp at h
def oL (β:Nat→Nat) (bx:List ay) (X:Nat→Prop) (blk:Nat):Prop:=X blk∨∃i b,bx[i]?=some b∧b.live=true∧β i=blk
theorem Dx (cx:cz G β bx w X):cz G β [] w (oL β bx X):=by
 refine ⟨?_,?_,by simp,by simp,by simp⟩
 ·rintro blk (h|⟨i,b,h1,h2,rfl⟩)
  ·exact cx.xs blk h
  exact c6.eY (cx.box i b h1) h2
 intro g ds hg
 obtain ⟨h1,h2⟩:=cx.wC g ds hg
 have key:∀blk,bc β bx w X blk→bc β [] w (oL β bx X) blk:=by
  rintro blk ⟨k1,k2,k3⟩
  refine ⟨k1,?_,by simp⟩
  rintro (h|⟨i,b,e1,e2,e3⟩)
  ·exact k2 h
  exact k3 i b e1 e2 e3
 exact ⟨key g h1,aT.mono (fun blk hb=>⟨key blk hb,rfl⟩) g (fun _=>rfl) _ _ h2⟩
theorem Dy (blk:Nat) (h:bc β bx w X blk):bc β [] w (oL β bx X) blk:=by
 obtain ⟨k1,k2,k3⟩:=h
 refine ⟨k1,?_,by simp⟩
 rintro (h|⟨i,b,e1,e2,e3⟩)
 ·exact k2 h
 exact k3 i b e1 e2 e3
theorem sO {β':Nat→Nat} {aP:List ay} {w':World} (ex:Ext β [] w β' aP w'):Ext β bx w β bx w':=
 ⟨ex.os,ex.tape,ex.output,ex.size,fun k hk _=>ex.block k hk (by simp),ex.shape,fun i hi=>⟨rfl,hi⟩,fun i b h1 h2=>.inr ⟨i,b,h1,h2,rfl⟩⟩
theorem LO {β':Nat→Nat} {aP:List ay} {w':World} (cx:cz G β bx w X) (ex:Ext β [] w β' aP w'):cz G β bx w' X:=
 cx.step (sO ex) (fun i b h=>.inl ⟨h,fun hl=>ex.block _ (c6.eY (cx.box i b h) hl) (by simp)⟩) cx.inj
theorem OL {β':Nat→Nat} {w':World} {sz n:Nat} {es:List (List D)} {oA:List ay} {u:Value} (cx:cz G β bx w X) (ex:Ext β [] w β' [.row sz es] w') (lQ:cz G β' [.row sz es] w' (oL β oA X))
 (hv:(∀r∈es,∀x∈r,x.flat=true)∨oA=bx) (hr:aj β' [.row sz es] w' (bc β' [.row sz es] w' (oL β oA X)) (.ow 0 sz n) u):
 Ext β bx w (ko β bx.length (β' 0)) (bx++[.row sz es]) w'∧cz G (ko β bx.length (β' 0)) (bx++[.row sz es]) w' X∧
  aj (ko β bx.length (β' 0)) (bx++[.row sz es]) w' (bc (ko β bx.length (β' 0)) (bx++[.row sz es]) w' X) (.ow bx.length sz n) u:=by
 have e0:=sO (bx:=bx) ex
 have hnew:ay.live (.row sz es)=true→w.heap.size≤β' 0:=by
  intro hl
  rcases ex.live 0 (.row sz es) rfl hl with h|⟨j,b',h1,_⟩
  ·exact h
  simp at h1
 have hold:∀i b,bx[i]?=some b→ko β bx.length (β' 0) i=β i:=by
  intro i b h
  exact cV _ _ (by have:=iH h;omega)
 have e1:Ext β bx w (ko β bx.length (β' 0)) (bx++[.row sz es]) w':=by
  refine ⟨e0.os,e0.tape,e0.output,e0.size,e0.block,e0.shape,?_,?_⟩
  ·rintro i ⟨b,h1,h2⟩
   exact ⟨hold i b h1,b,ee h1,h2⟩
  intro i b h hl
  rcases bw h with ⟨h1,_⟩|⟨rfl,rfl⟩
  ·exact .inr ⟨i,b,h1,hl,(hold i b h1).symm⟩
  exact .inl (by rw [bq];exact hnew hl)
 have hlt:∀i b,bx[i]?=some b→b.live=true→β i<w.heap.size:=fun i b h hl=>c6.eY (cx.box i b h) hl
 have hok:oA=bx→∀blk,bc β' [.row sz es] w' (oL β oA X) blk→bc (ko β bx.length (β' 0)) (bx++[.row sz es]) w' X blk:=by
  rintro rfl blk ⟨k1,k2,k3⟩
  refine ⟨k1,fun hX=>k2 (.inl hX),?_⟩
  intro i b h hl
  rcases bw h with ⟨h1,_⟩|⟨rfl,rfl⟩
  ·rw [hold i b h1];exact fun he=>k2 (.inr ⟨i,b,h1,hl,he⟩)
  rw [bq];exact k3 0 _ rfl hl
 refine ⟨e1,cx.step e1 ?_ ?_,?_⟩
 ·intro i b h
  rcases bw h with ⟨h1,_⟩|⟨rfl,rfl⟩
  ·exact .inl ⟨h1,fun hl=>ex.block _ (hlt i b h1 hl) (by simp)⟩
  refine .inr ?_
  have:=lQ.box 0 _ rfl
  rw [bq]
  simp only [c6] at this ⊢
  refine this.imp id ?_
  rintro ⟨c,e,h1,h2⟩
  refine ⟨c,e,h1,?_⟩
  rcases hv with hfl|hb
  ·exact nD _ _ hfl h2
  exact ap.mono (fun blk hb'=>⟨hok hb blk hb',rfl⟩) _ _ (fun _=>rfl) _ _ h2
 ·intro i j bi bj hi hj lR nE he
  rcases bw hi with ⟨h1,_⟩|⟨rfl,rfl⟩<;>rcases bw hj with ⟨h2,_⟩|⟨rfl,rfl⟩
  ·rw [hold i bi h1,hold j bj h2] at he
   exact cx.inj i j bi bj h1 h2 lR nE he
  ·rw [hold i bi h1,bq] at he
   have:=hlt i bi h1 lR;have:=hnew nE;omega
  ·rw [hold j bj h2,bq] at he
   have:=hlt j bj h2 nE;have:=hnew lR;omega
  rfl
 simp only [aj] at hr ⊢
 obtain ⟨_,h2⟩:=hr
 refine ⟨⟨_,by simp;rfl,rfl⟩,?_⟩
 rw [bq];exact h2
theorem F2 {f:Nat} {args:List AV} {vs:List Value} {K:AV→List ay→Prop} (cx:cz G β bx w X) (hx:ak β bx w (bc β bx w X) args vs)
 (h:C2 (bA P G) f args bx K):
 iK P f ⟨vs⟩ w fun e w'=>∃β' aP v u,e=.returned u∧Ext β bx w β' aP w'∧cz G β' aP w' X∧aj β' aP w' (bc β' aP w' X) v u∧K v aP:=by
 obtain ⟨_,hz,hs,h⟩:=h
 obtain ⟨e1,c1,r1⟩:=kQ args bx _ vs cx hz hx
 have cn:=Dx c1
 have hn:ak β [] w (bc β [] w (oL β (eV bx args) X)) _ vs:=kP (fun blk hb=>Dy blk hb) _ _ hs r1
 rcases h with ⟨v,hf,hv,hK⟩|⟨sz,n,es,hf,hv,hK⟩
 ·refine iK.mono (hf β w vs _ cn hn) ?_
  rintro e w' ⟨β',ex,lQ,hr⟩
  cases e with
  |returned u=>
   refine ⟨β,bx,v,u,rfl,sO ex,LO cx ex,?_,hK⟩
   rcases hv with hfl|⟨Ld,hsh⟩
   ·exact Ds v u hfl hr
   rw [jA bx Ld] at hr
   refine oK ?_ v u hsh hr
   rintro blk ⟨k1,k2,_⟩
   exact ⟨k1,fun hX=>k2 (.inl hX),fun i b hb hl he=>k2 (.inr ⟨i,b,hb,hl,he⟩)⟩
  |_=>exact hr.elim
 refine iK.mono (hf β w vs _ cn hn) ?_
 rintro e w' ⟨β',ex,lQ,hr⟩
 cases e with
 |returned u=>
  simp only [lm] at hr
  obtain ⟨x1,x2,x3⟩:=OL cx ex lQ (by
   rcases hv with hfl|Ld
   ·exact .inl hfl
   refine .inr ?_
   rw [jA bx Ld]) hr
  exact ⟨_,_,_,u,rfl,x1,x2,x3,hK⟩
 |_=>exact hr.elim
end
end Dem
end
section
open Go
namespace Dem
section
variable {P:Program} {G:Nat→Option (List D)} {β β':Nat→Nat} {bx aP:List ay} {w w':World} {X:Nat→Prop}
theorem lp {i:Nat} (h:Ll bx i=true):bT bx i:=by
 unfold Ll at h
 split at h
 ·rename_i b hb;exact ⟨b,hb,h⟩
 cases h
mutual
theorem AA {ok ok':Nat→Prop} {iY:List ay} {dt:Bool} (h:∀b,bT iY b→β' b=β b∧bT aP b) (hd:dt=true→∀d v,aF w ok d v→aF w' ok' d v):∀(x:AV) (v:Value),x.loose dt=true→x.bN iY=true→aj β bx w ok x v→aj β' aP w' ok' x v
 |.any,_,_,_,_=>by simp [aj]
 |.d y,v,hs,_,hv=>by
  simp only [aj] at hv ⊢
  cases hdt:dt with
  |true=>exact hd hdt y v hv
  |false=>subst hdt;cases y<;>simp [AV.loose] at hs<;>simpa [aF] using hv
 |.k c,v,_,_,hv=>by simpa [aj] using hv
 |.agg cs,v,hs,hn,hv=>by
  simp only [aj] at hv ⊢;obtain ⟨vs,h1,h2⟩:=hv
  exact ⟨vs,h1,lq h hd cs vs (by simpa [AV.loose] using hs) (by simpa [AV.bN] using hn) h2⟩
 |.dL cs,v,hs,_,hv=>by simp [AV.loose] at hs
 |.ptr b off,v,_,hn,hv=>by
  have g:=lp (by simpa [AV.bN] using hn)
  simp only [aj] at hv ⊢;obtain ⟨e,_⟩:=hv;exact ⟨by rw [(h b g).1];exact e,(h b g).2⟩
 |.rp b sz i j,v,_,hn,hv=>by
  have g:=lp (by simpa [AV.bN] using hn)
  simp only [aj] at hv ⊢;obtain ⟨e,_⟩:=hv;exact ⟨by rw [(h b g).1];exact e,(h b g).2⟩
 |.ow _ _ _,_,hs,_,_=>by simp [AV.loose] at hs
 |.zP _,_,hs,_,_=>by simp [AV.loose] at hs
 |.vw _ _ _ _ _ _,_,hs,_,_=>by simp [AV.loose] at hs
 |.ep _,_,hs,_,_=>by simp [AV.loose] at hs
 |.cl _,_,hs,_,_=>by simp [AV.loose] at hs
 |.fn f cs,v,hs,hn,hv=>by
  simp only [aj] at hv ⊢;obtain ⟨vs,h1,h2⟩:=hv
  exact ⟨vs,h1,lq h hd cs vs (by simpa [AV.loose] using hs) (by simpa [AV.bN] using hn) h2⟩
 |.qx t x,v,hs,hn,hv=>by
  simp only [aj] at hv ⊢;obtain ⟨u,h1,h2⟩:=hv
  exact ⟨u,h1,AA h hd x u (by simpa [AV.loose] using hs) (by simpa [AV.bN] using hn) h2⟩
 |.cond _ _,_,hs,_,_=>by simp [AV.loose] at hs
theorem lq {ok ok':Nat→Prop} {iY:List ay} {dt:Bool} (h:∀b,bT iY b→β' b=β b∧bT aP b) (hd:dt=true→∀d v,aF w ok d v→aF w' ok' d v):∀(xs:List AV) (vs:List Value),AV.mu dt xs=true→AV.bN.cX iY xs=true→ak β bx w ok xs vs→ak β' aP w' ok' xs vs
 |[],vs,_,_,hv=>by simpa [ak] using hv
 |x::xs,vs,hs,hn,hv=>by
  simp only [ak] at hv ⊢
  obtain ⟨u,us,h1,h2,h3⟩:=hv
  simp only [AV.mu] at hs
  simp only [AV.bN.cX,Bool.and_eq_true] at hn
  cases hx:x.loose dt with
  |false=>simp [hx] at hs
  |true=>
   simp only [hx,cond_true] at hs
   exact ⟨u,us,h1,AA h hd x u hx hn.1 h2,lq h hd xs us hs hn.2 h3⟩
end
mutual
theorem uv {ok ok':Nat→Prop} {iY:List ay} (h:∀blk,ok blk→ok' blk):∀(x:AV) (v:Value),x.bN iY=true→aj β bx w ok x v→aj β iY w ok' x v
 |.any,_,_,_=>by simp [aj]
 |.d x,v,_,hv=>by simp only [aj] at hv ⊢;exact aF.mono (fun blk hb=>⟨h blk hb,rfl⟩) _ _ hv
 |.k c,v,_,hv=>by simpa [aj] using hv
 |.agg cs,v,hs,hv=>by
  simp only [aj] at hv ⊢;obtain ⟨vs,h1,h2⟩:=hv
  exact ⟨vs,h1,lu h cs vs (by simpa [AV.bN] using hs) h2⟩
 |.dL cs,v,hs,hv=>by
  simp only [aj] at hv ⊢;obtain ⟨vs,h1,h2⟩:=hv
  exact ⟨vs,h1,lu h cs vs (by simpa [AV.bN] using hs) h2⟩
 |.ptr b off,v,hs,hv=>by
  have g:=lp (by simpa [AV.bN] using hs)
  simp only [aj] at hv ⊢;exact ⟨hv.1,g⟩
 |.rp b sz i j,v,hs,hv=>by
  have g:=lp (by simpa [AV.bN] using hs)
  simp only [aj] at hv ⊢;exact ⟨hv.1,g⟩
 |.zP b,v,hs,hv=>by
  have g:=lp (by simpa [AV.bN] using hs)
  simp only [aj] at hv ⊢;exact ⟨hv.1,g⟩
 |.ow b sz m,v,hs,hv=>by
  have g:=lp (by simpa [AV.bN] using hs)
  simp only [aj] at hv ⊢;exact ⟨g,hv.2⟩
 |.vw b sz off m c ex,v,hs,hv=>by
  have g:=lp (by simpa [AV.bN] using hs)
  simp only [aj] at hv ⊢;exact ⟨g,hv.2⟩
 |.ep ds,v,_,hv=>by
  simp only [aj] at hv ⊢;obtain ⟨blk,off,h1,h2,h3⟩:=hv
  exact ⟨blk,off,h1,h blk h2,aT.mono (fun blk hb=>⟨h blk hb,rfl⟩) blk (fun _=>rfl) _ _ h3⟩
 |.cl es,v,_,hv=>by
  simp only [aj] at hv ⊢;obtain ⟨base,h1,h2⟩:=hv
  refine ⟨base,h1,h2.imp id ?_⟩
  rintro ⟨blk,off,sz,e1,e2,e3⟩
  exact ⟨blk,off,sz,e1,h blk e2,ap.mono (fun blk hb=>⟨h blk hb,rfl⟩) blk sz (fun _=>rfl) _ _ e3⟩
 |.fn f cs,v,hs,hv=>by
  simp only [aj] at hv ⊢;obtain ⟨vs,h1,h2⟩:=hv
  exact ⟨vs,h1,lu h cs vs (by simpa [AV.bN] using hs) h2⟩
 |.qx t x,v,hs,hv=>by
  simp only [aj] at hv ⊢;obtain ⟨u,h1,h2⟩:=hv
  exact ⟨u,h1,uv h x u (by simpa [AV.bN] using hs) h2⟩
 |.cond p x,v,hs,hv=>by
  simp only [aj] at hv ⊢
  exact ⟨fun hp=>uv h x v (by simpa [AV.bN] using hs) (hv.1 hp),hv.2⟩
theorem lu {ok ok':Nat→Prop} {iY:List ay} (h:∀blk,ok blk→ok' blk):∀(xs:List AV) (vs:List Value),AV.bN.cX iY xs=true→ak β bx w ok xs vs→ak β iY w ok' xs vs
 |[],vs,_,hv=>by simpa [ak] using hv
 |x::xs,vs,hs,hv=>by
  simp only [ak] at hv ⊢
  obtain ⟨u,us,h1,h2,h3⟩:=hv
  simp only [AV.bN.cX,Bool.and_eq_true] at hs
  exact ⟨u,us,h1,uv h x u hs.1 h2,lu h xs us hs.2 h3⟩
end
theorem lz {dt:Bool} {iY:List ay}:∀{bs:List ay} {i:Nat} {b:ay},dO dt iY bs=true→bs[i]?=some b→(∃cs,b=.var cs∧AV.mu dt cs=true∧AV.bN.cX iY cs=true)∨b=.dead∨b=.bt
 |[],i,b,_,hi=>by simp at hi
 |b0::bs,i,b,h,hi=>by
  have hr:dO dt iY bs=true∧((∃cs,b0=.var cs∧AV.mu dt cs=true∧AV.bN.cX iY cs=true)∨b0=.dead∨b0=.bt):=by
   cases b0 with
   |var cs=>
    simp only [dO] at h
    cases hc:(AV.mu dt cs&&AV.bN.cX iY cs) with
    |false=>simp [hc] at h
    |true=>simp only [hc,cond_true] at h;simp at hc;exact ⟨h,.inl ⟨cs,rfl,hc.1,hc.2⟩⟩
   |dead=>exact ⟨h,.inr (.inl rfl)⟩
   |bt=>exact ⟨h,.inr (.inr rfl)⟩
   |_=>simp [dO] at h
  cases i with
  |zero=>simp only [List.getElem?_cons_zero,osI] at hi;subst hi;exact hr.2
  |succ i=>simp only [List.getElem?_cons_succ] at hi;exact lz hr.1 hi
theorem xM {x:AV} {i:Nat} {b:ay} (h:(x.cq bx)[i]?=some b):bx[i]?=some b∨∃s es,bx[i]?=some (.row s es)∧b=.mH s es:=by
 have go:∀k:Nat,(match bx[k]? with|some (.row s es)=>bx.set k (.mH s es)|_=>bx)[i]?=some b→bx[i]?=some b∨∃s es,bx[i]?=some (.row s es)∧b=.mH s es:=by
  intro k h
  split at h
  ·rename_i s es hk
   rcases aH h with ⟨rfl,rfl,_⟩|⟨_,h2⟩
   ·exact .inr ⟨s,es,hk,rfl⟩
   exact .inl h2
  exact .inl h
 cases x with
 |ow k _ _=>exact go k h
 |vw k _ _ _ _ _=>exact go k h
 |_=>exact .inl h
theorem AB:∀{xs:List AV} {bx:List ay} {i:Nat} {b:ay},(dS bx xs)[i]?=some b→bx[i]?=some b∨∃s es,bx[i]?=some (.row s es)∧b=.mH s es
 |[],_,_,_,h=>.inl h
 |x::xs,bx,i,b,h=>by
  rcases AB (xs:=xs) (bx:=x.cq bx) h with h1|⟨s,es,h1,rfl⟩
  ·exact xM h1
  rcases xM h1 with h2|⟨_,_,_,h3⟩
  ·exact .inr ⟨s,es,h2,rfl⟩
  cases h3
theorem rq:∀{xs:List AV} {bx:List ay} {i:Nat} {b:ay},(eV bx xs)[i]?=some b→bx[i]?=some b∨∃s es,bx[i]?=some (.row s es)∧b=.mH s es
 |[],_,_,_,h=>.inl h
 |x::xs,bx,i,b,h=>by
  have one:∀{b:ay},(kT bx x)[i]?=some b→bx[i]?=some b∨∃s es,bx[i]?=some (.row s es)∧b=.mH s es:=by
   intro b h
   cases x with
   |agg cs=>exact AB h
   |_=>simp only [kT] at h;exact xM h
  rcases rq (xs:=xs) (bx:=kT bx x) h with h1|⟨s,es,h1,rfl⟩
  ·exact one h1
  rcases one h1 with h2|⟨_,_,_,h3⟩
  ·exact .inr ⟨s,es,h2,rfl⟩
  cases h3
theorem vC {f:Nat} {args:List AV} {vs:List Value} {v:AV} (cx:cz G β bx w X) (hx:ak β bx w (bc β bx w X) args vs) (h:lZ (bA P G) f args bx v):
 iK P f ⟨vs⟩ w fun e w'=>∃u,e=.returned u∧Ext β bx w β bx w'∧cz G β bx w' X∧aj β bx w' (bc β bx w' X) v u:=by
 obtain ⟨mP,iY,hz,hnm,⟨dt,hl,hdt⟩,hin,hf,hv⟩:=h
 obtain ⟨e1,Y3,hargs⟩:=kQ args bx mP vs cx hz hx
 have bY:∀(i:Nat) (b:ay),iY[i]?=some b→b.live=true→bx[i]?=some b:=by
  intro i b hi hb
  obtain ⟨b',h1,h2,h3⟩:=hin i b hi (pZ hb)
  rw [h3 hb] at h1;exact h1
 have dG:∀i,bT iY i→bT bx i:=by
  rintro i ⟨b,h1,h2⟩
  obtain ⟨b',h3,h4,_⟩:=hin i b h1 h2
  exact ⟨b',h3,h4⟩
 have Tj:∀(i:Nat) (b:ay),(eV bx args)[i]?=some b→b.live=true→bx[i]?=some b:=by
  intro i b hi hb
  rcases rq hi with h1|⟨s,es,_,rfl⟩
  ·exact h1
  simp [ay.live] at hb
 have QI:∀(i:Nat) (b:ay),iY[i]?=some b→b.live=true→∃cs,b=.var cs∧AV.mu dt cs=true∧AV.bN.cX iY cs=true:=by
  intro i b hi hb
  rcases lz hl hi with h1|rfl|rfl
  ·exact h1
  ·simp [ay.live] at hb
  simp [ay.live] at hb
 let XV:Nat→Prop:=fun blk=>X blk∨∃(i:Nat) (b:ay),(eV bx args)[i]?=some b∧b.live=true∧(∀b',iY[i]?=some b'→b'.live=false)∧β i=blk
 have hok:∀blk,bc β (eV bx args) w X blk→bc β iY w XV blk:=by
  rintro blk ⟨k1,k2,k3⟩
  refine ⟨k1,?_,?_⟩
  ·rintro (hX|⟨i,b,h1,h2,_,h3⟩)
   ·exact k2 hX
   exact k3 i b h1 h2 h3
  intro i b hi hb he
  obtain ⟨cs,rfl,_⟩:=QI i b hi hb
  have p7:=bY i _ hi hb
  obtain ⟨_,b',hb',_⟩:=e1.born i ⟨_,p7,rfl⟩
  rcases rq hb' with h4|⟨s,es,h4,_⟩
  ·rw [p7] at h4;cases h4
   exact k3 i _ hb' rfl he
  rw [p7] at h4;cases h4
 have Ih:∀{β1:Nat→Nat} {w':World},eL [] args=some mP→Ext β iY w β1 iY w'→∀blk,bc β1 iY w' XV blk→bc β bx w' X blk:=by
  rintro β1 w' Ld xH blk ⟨k1,k2,k3⟩
  refine ⟨k1,fun hX=>k2 (.inl hX),?_⟩
  intro i b hi hb he
  by_cases hk:∃b',iY[i]?=some b'∧b'.live=true
  ·obtain ⟨b',h1,h2⟩:=hk
   refine k3 i b' h1 h2 ?_
   rw [(xH.born i ⟨b',h1,pZ h2⟩).1];exact he
  refine k2 (.inr ⟨i,b,by rw [jA bx Ld];exact hi,hb,?_,he⟩)
  intro b' hb'
  cases hq:b'.live with
  |false=>rfl
  |true=>exact absurd ⟨b',hb',hq⟩ hk
 have Y4:cz G β iY w XV:=by
  refine ⟨?_,?_,?_,?_,?_⟩
  ·rintro blk (hX|⟨i,b,h1,h2,_,rfl⟩)
   ·exact cx.xs blk hX
   exact c6.eY (cx.box i b (Tj i b h1 h2)) h2
  ·intro g ds hg
   obtain ⟨k1,k2⟩:=Y3.wC g ds hg
   exact ⟨hok g k1,aT.mono (fun blk hb=>⟨hok blk hb,rfl⟩) g (fun _=>rfl) _ _ k2⟩
  ·intro i j bi bj hi hj li lj
   exact cx.inj i j bi bj (bY i bi hi li) (bY j bj hj lj) li lj
  ·intro i b hi
   rcases lz hl hi with ⟨cs,rfl,hcs,fC⟩|rfl|rfl
   ·have hb:=cx.box i _ (bY i _ hi rfl)
    simp only [c6] at hb ⊢
    obtain ⟨c,e,g1,g2⟩:=hb
    exact ⟨c,e,g1,lq (iY:=iY) (fun b hb=>⟨rfl,hb⟩) (fun hd d v hv=>aF.mono (fun blk hb=>⟨hok blk (by rw [jA bx (hdt hd)];exact hb),rfl⟩) d v hv) cs _ hcs fC g2⟩
   ·trivial
   trivial
  intro i b hi hb
  rintro (hX|⟨j,b2,h1,h2,h3,h4⟩)
  ·exact cx.apart i b (bY i b hi hb) hb hX
  have:j=i:=cx.inj j i b2 b (Tj j b2 h1 h2) (bY i b hi hb) h2 hb h4
  subst this
  rw [h3 b hi] at hb;cases hb
 have Rt:ak β iY w (bc β iY w XV) mP vs:=lu hok _ _ hnm hargs
 refine iK.mono (hf β w vs XV Y4 Rt) ?_
 rintro e w' ⟨β1,xH,TH,hres⟩
 have ex:Ext β bx w β bx w':=⟨xH.os,xH.tape,xH.output,xH.size,fun k hk hn=>xH.block k hk (fun i b hi hb=>hn i b (bY i b hi hb) hb),xH.shape,fun i hi=>⟨rfl,hi⟩,fun i b h1 h2=>.inr ⟨i,b,h1,h2,rfl⟩⟩
 cases e with
 |returned u=>
  refine ⟨u,rfl,ex,cx.step ex ?_ cx.inj,?_⟩
  ·intro i b hi
   by_cases hk:∃b',iY[i]?=some b'∧b'.live=true
   ·obtain ⟨b',h1,h2⟩:=hk
    have h3:=bY i b' h1 h2
    rw [hi] at h3;cases h3
    obtain ⟨cs,rfl,hcs,fC⟩:=QI i b h1 h2
    refine .inr ?_
    have hb:=TH.box i _ h1
    simp only [c6] at hb ⊢
    obtain ⟨c,e,g1,g2⟩:=hb
    have vn:bT iY i:=⟨_,h1,rfl⟩
    rw [(xH.born i vn).1] at g1
    exact ⟨c,e,g1,lq (iY:=iY) (fun b hb=>⟨((xH.born b hb).1).symm,dG b hb⟩) (fun hd d v hv=>aF.mono (fun blk hb=>⟨Ih (hdt hd) xH blk hb,rfl⟩) d v hv) cs _ hcs fC g2⟩
   refine .inl ⟨hi,fun hlv=>xH.block _ (c6.eY (cx.box i b hi) hlv) ?_⟩
   intro j b2 hj sN he
   have:=cx.inj j i b2 b (bY j b2 hj sN) hi sN hlv he
   subst this
   exact hk ⟨b2,hj,sN⟩
  rcases hv with hfl|⟨Ld,hsh⟩
  ·exact Ds v u hfl hres
  refine oK ?_ v u hsh hres
  rintro blk ⟨k1,k2,k3⟩
  refine ⟨k1,fun hX=>k2 (.inl hX),?_⟩
  intro i b hi hb he
  by_cases hk:∃b',iY[i]?=some b'∧b'.live=true
  ·obtain ⟨b',h1,h2⟩:=hk
   refine k3 i b' h1 h2 ?_
   rw [(xH.born i ⟨b',h1,pZ h2⟩).1];exact he
  refine k2 (.inr ⟨i,b,by rw [jA bx Ld];exact hi,hb,?_,he⟩)
  intro b' hb'
  cases hq:b'.live with
  |false=>rfl
  |true=>exact absurd ⟨b',hb',hq⟩ hk
 |panicked ch=>exact hres.elim
 |outgrown=>exact hres.elim
theorem kC {f:Nat} {args:List AV} {vs:List Value} {v:AV} {K:AV→List ay→Prop} (cx:cz G β bx w X) (hx:ak β bx w (bc β bx w X) args vs) (h:lZ (bA P G) f args bx v) (hK:K v bx):
 iK P f ⟨vs⟩ w fun e w'=>∃β' aP v u,e=.returned u∧Ext β bx w β' aP w'∧cz G β' aP w' X∧aj β' aP w' (bc β' aP w' X) v u∧K v aP:=
 iK.mono (vC cx hx h) fun _ _ ⟨u,h1,h2,h3,h4⟩=>⟨β,bx,v,u,h1,h2,h3,h4,hK⟩
end
end Dem
end
section
open Go
namespace Dem
section
variable {P:Program} {T:Nat→Option TI} {G:Nat→Option (List D)} {β:Nat→Nat} {bx:List ay} {w:World} {X:Nat→Prop}
theorem LP {a b:D} (h:n9 a b=true):a=b:=by
 cases a<;>cases b<;>simp [n9] at h
 ·rw [h.1,h.2]
 rw [h]
theorem Dz {d:TypeDesc} {a b:D} {u v:Value} {ok:Nat→Prop} (ha:mJ (cM d) a=true) (hb:mJ (cM d) b=true) (hu:aF w ok a u) (hv:aF w ok b v):Instr.sameNow d u v=some (n9 a b):=by
 cases d<;>cases a<;>simp [cM,mJ] at ha<;>cases b<;>simp [cM,mJ] at hb<;>simp only [aF] at hu hv<;>subst hu hv
 ·subst ha hb;simp only [Instr.sameNow,n9,if_true,beq_self_eq_true,Bool.true_and];congr 1
 rename_i a b
 have:(⟨a.toArray⟩:ByteArray)=⟨b.toArray⟩↔a=b:=by
  constructor
  ·intro h;simpa using h
  rintro rfl;rfl
 by_cases h:a=b
 ·subst h;simp only [Instr.sameNow,n9];congr 1;show (a.toArray==a.toArray)=decide True;simp
 have h2:¬((⟨a.toArray⟩:ByteArray)=⟨b.toArray⟩):=fun e=>h (this.1 e)
 simp only [Instr.sameNow,n9];congr 1;show (a.toArray==b.toArray)=decide (a=b);rw [show decide (a=b)=false by simp [h]];exact beq_eq_false_iff_ne.2 (fun e=>h (by simpa using e))
theorem Jw {kd:Kd} {a:D} {u v:Value} {ok:Nat→Prop} (ha:mJ kd a=true) (hu:aF w ok a u) (hv:aF w ok a v):u=v:=by
 cases a<;>cases kd<;>simp [mJ] at ha<;>simp only [aF] at hu hv<;>rw [hu,hv]
theorem oM {d:TypeDesc} {ag:Bool} {n:Nat} {k:D} {kv:Value} {ok:Nat→Prop} (hk:mJ (cM d) k=true) (hkv:aF w ok k kv):
 ∀(es:List (List D)) (ms:List MapEntry) (i:Nat),bp w ok ag es ms→(∀r∈es,rowIs (cM d) n r)→
  (uf es k=none∧Instr.findNow d kv ms i=some none∧∀v,qz es k v=es++[k::v])∨
  (∃(j:Nat) (m:MapEntry) (ds:List D),Instr.findNow d kv ms i=some (some (i+j,m.val))∧ms[j]?=some m∧uf es k=some ds∧ds.length=n∧m.key=kv∧gy w ok ag (k::ds) m∧∀v,qz es k v=es.set j (k::v))
 |[],ms,i,h,_=>by
  simp only [bp] at h;subst h
  exact .inl ⟨rfl,rfl,fun _=>rfl⟩
 |r::rs,ms,i,h,hr=>by
  simp only [bp] at h
  obtain ⟨m,CX,rfl,h1,h2⟩:=h
  obtain ⟨x,ds,rfl,hx,hl⟩:=hr r (by simp)
  have Ic:=h1
  simp only [gy] at h1
  obtain ⟨g1,g2⟩:=h1
  have hs:=Dz hk hx hkv g1
  simp only [uf,qz,Instr.findNow,hs]
  cases he:n9 k x with
  |true=>
   obtain rfl:=LP he
   refine .inr ⟨0,m,ds,by simp,by simp,by simp,hl,Jw hk g1 hkv,Ic,fun v=>by simp⟩
  |false=>
   simp only [cond_false]
   rcases oM hk hkv rs CX (i+1) h2 (fun r hr'=>hr r (by simp [hr'])) with ⟨k1,k2,k3⟩|⟨j,m',ds',k1,k2,k3,k4,k5,k6,k7⟩
   ·exact .inl ⟨k1,k2,fun v=>by rw [k3];rfl⟩
   refine .inr ⟨j+1,m',ds',?_,by simpa using k2,k3,k4,k5,k6,fun v=>by rw [k7];rfl⟩
   rw [k1,show i+1+j=i+(j+1) by omega]
theorem run_checkKey {e:Bool} {t:Nat} {d:TypeDesc} {k:D} {kv:Value} {ok:Nat→Prop} (ht:P.underlying t=some d) (hk:mJ (cM d) k=true) (hkv:aF w ok k kv):(Instr.checkKey e 10000 t kv).run P w=.ok () w:=by
 show (Instr.checkKey e (9999+1) t kv).run P w=.ok () w
 unfold Instr.checkKey
 cases d<;>cases k<;>simp [cM,mJ] at hk<;>simp only [aF] at hkv<;>subst hkv<;>simp [aR ht]
theorem run_findKey {t:Nat} {d:TypeDesc} {kv:Value} {ms:List MapEntry} {r:Option (Nat×Value)} (ht:P.underlying t=some d) (h:Instr.findNow d kv ms 0=some r):(Instr.findKey t kv ms).run P w=.ok r w:=by
 unfold Instr.findKey
 simp [aR ht,h]
theorem bp.append {ag:Bool} {ok:Nat→Prop}:∀{es:List (List D)} {ms:List MapEntry} {fs:List (List D)} {ns:List MapEntry},bp w ok ag es ms→bp w ok ag fs ns→bp w ok ag (es++fs) (ms++ns)
 |[],ms,fs,ns,h,g=>by simp only [bp] at h;subst h;exact g
 |r::rs,ms,fs,ns,h,g=>by
  simp only [bp] at h
  obtain ⟨m,CX,rfl,h1,h2⟩:=h
  simp only [List.cons_append,bp]
  exact ⟨m,_,rfl,h1,h2.append g⟩
theorem bp.set {ag:Bool} {ok:Nat→Prop} {r:List D} {m:MapEntry} (hm:gy w ok ag r m):∀{es:List (List D)} {ms:List MapEntry} (j:Nat),bp w ok ag es ms→bp w ok ag (es.set j r) (ms.set j m)
 |[],ms,j,h=>by simp only [bp] at h;subst h;simp [bp]
 |x::xs,ms,0,h=>by
  simp only [bp] at h
  obtain ⟨m',CX,rfl,h1,h2⟩:=h
  simp only [List.set_cons_zero,bp]
  exact ⟨m,CX,rfl,hm,h2⟩
 |x::xs,ms,j+1,h=>by
  simp only [bp] at h
  obtain ⟨m',CX,rfl,h1,h2⟩:=h
  simp only [List.set_cons_succ,bp]
  exact ⟨m',_,rfl,h1,bp.set hm j h2⟩
theorem ct.TN {ok:Nat→Prop}:∀{ds:List D} {vs:List Value},ct w ok ds vs→ak β bx w ok (ds.map .d) vs
 |[],vs,h=>by simp only [ct] at h;subst h;simp [ak]
 |d::ds,vs,h=>by
  simp only [ct] at h
  obtain ⟨v,r,rfl,h1,h2⟩:=h
  simp only [List.map_cons,ak]
  exact ⟨v,r,rfl,by simpa [aj] using h1,h2.TN⟩
theorem ct.length {ok:Nat→Prop}:∀{ds:List D} {vs:List Value},ct w ok ds vs→vs.length=ds.length
 |[],vs,h=>by simp only [ct] at h;subst h;rfl
 |d::ds,vs,h=>by
  simp only [ct] at h
  obtain ⟨v,r,rfl,_,h2⟩:=h
  simp [ct.length h2]
theorem gy.val {ag:Bool} {ok:Nat→Prop} {k:D} {ds:List D} {m:MapEntry} (h:gy w ok ag (k::ds) m) {n:Nat} (hn:ds.length=n) {v:AV} (hv:cB ag n (ds.map .d)=some v):aj β bx w ok v m.val:=by
 simp only [gy] at h
 obtain ⟨_,cs,h2,h3,h4⟩:=h
 have hl:=h4.length
 have ha:=h4.TN (β:=β) (bx:=bx)
 cases ag with
 |true=>
  simp only [cB,cond_true] at hv
  rw [cond_true] at h2
  have hle:Nat.ble n (ds.map AV.d).length=true:=by simp [hn]
  simp only [hle,cond_true,osI] at hv
  subst hv
  rw [h2];simp only [aj]
  refine ⟨cs,rfl,?_⟩
  rw [List.take_of_length_le (by simp [hn])];exact ha
 |false=>
  simp only [cB,cond_false] at hv
  rw [cond_false] at h2
  have h1:=h3 rfl
  obtain ⟨c,rfl⟩:∃c,cs=[c]:=by
   match cs,h1 with
   |[c],_=>exact ⟨c,rfl⟩
  cases ds with
  |nil=>simp at hl
  |cons d ds=>
   simp at hv;subst hv
   rw [h2]
   simp only [List.map_cons,ak] at ha
   obtain ⟨u,us,e,g,_⟩:=ha
   simp at e;obtain ⟨rfl,rfl⟩:=e
   simpa [aj] using g
theorem wN {r c:Nat} {es:Array MapEntry} (h:w.heap[r]?=some (.map es c)):(getObj r).run P w=.ok (.map es c) w:=by simp [getObj,Sem.run,h]
theorem run_setObj_map {r c:Nat} {es:Array MapEntry} (o:Obj) (h:w.heap[r]?=some (.map es c)):(setObj r o).run P w=.ok () {w with heap:=w.heap.setIfInBounds r o}:=by simp [setObj,Sem.run,h]
theorem AD (hT:jL P T) (cx:cz G β bx w X) {ty:Nat} {m:AV} {u:Value} {tk te:TI} {ag:Bool} {es:List (List D)} (h:xk T ty m bx=some (tk,te,ag,es)) (hu:aj β bx w (bc β bx w X) m u):
 ∃(kt et:Nat) (dk:TypeDesc),P.underlying ty=some (.map kt et)∧P.underlying kt=some dk∧tk.kd=cM dk∧om P et=some te∧
  ((u=.map none∧es=[])∨∃r ms clock,u=.map (some r)∧w.heap[r]?=some (.map ms clock)∧kW ms clock∧bp w (bc β bx w X) ag es ms.toList):=by
 unfold xk at h
 split at h
 ·rename_i ti ht
  obtain ⟨i,d,h1,h2,h3,h4,h5,h6⟩:=aE (hT.ti _ _ ht)
  split at h
  ·rename_i k e hk
   rw [h5] at hk
   cases d<;>simp [cM] at hk
   obtain ⟨wM,hk2⟩:=hk
   rw [wM,hk2] at h2
   have fin:∀{Ii Ru:TI} {Ok:Bool} {es':List (List D)},T k=some Ii→T e=some Ru→(Ii,Ru,Ok,es')=(tk,te,ag,es)→
    ((u=.map none∧es=[])∨∃r ms clock,u=.map (some r)∧w.heap[r]?=some (.map ms clock)∧kW ms clock∧bp w (bc β bx w X) ag es ms.toList)→∃(kt et:Nat) (dk:TypeDesc),P.underlying ty=some (.map kt et)∧P.underlying kt=some dk∧tk.kd=cM dk∧om P et=some te∧
    ((u=.map none∧es=[])∨∃r ms clock,u=.map (some r)∧w.heap[r]?=some (.map ms clock)∧kW ms clock∧bp w (bc β bx w X) ag es ms.toList):=by
    intro Ii Ru Ok es' a1 a2 a3 a4
    simp only [Prod.mk.injEq] at a3
    obtain ⟨rfl,rfl,rfl,rfl⟩:=a3
    obtain ⟨_,dk,_,b2,_,_,b5,_⟩:=aE (hT.ti _ _ a1)
    exact ⟨k,e,dk,h2,b2,b5,hT.ti _ _ a2,a4⟩
   split at h
   ·rename_i Ii Ru Ok es' a1 a2
    simp only [osI] at h
    refine fin a1 a2 h ?_
    simp only [Prod.mk.injEq] at h
    obtain ⟨rfl,rfl,rfl,rfl⟩:=h
    simp only [aj,aF] at hu
    obtain ⟨r,ms,clock,g1,_,g2,g3,g4⟩:=hu
    exact .inr ⟨r,ms,clock,g1,g2,g3,g4⟩
   ·rename_i Ii Ru a1 a2
    simp only [osI] at h
    refine fin a1 a2 h ?_
    simp only [Prod.mk.injEq] at h
    obtain ⟨rfl,rfl,rfl,rfl⟩:=h
    simp only [aj,KC.val] at hu
    exact .inl ⟨hu,rfl⟩
   ·rename_i Ii Ru b a1 a2
    split at h
    ·rename_i Ok es' hb
     simp only [osI] at h
     refine fin a1 a2 h ?_
     simp only [Prod.mk.injEq] at h
     obtain ⟨rfl,rfl,rfl,rfl⟩:=h
     simp only [aj] at hu
     obtain ⟨ms,clock,g2,g3,g4⟩:=cx.box b _ hb
     exact .inr ⟨β b,ms,clock,hu.1,g2,g3,g4⟩
    cases h
   cases h
  cases h
 cases h
theorem F3 (hT:jL P T) (cx:cz G β bx w X) {ty:Nat} {m:AV} {u kv:Value} {k:D} {tk te:TI} {ag zS:Bool} {es:List (List D)} (h:xk T ty m bx=some (tk,te,ag,es)) (hu:aj β bx w (bc β bx w X) m u)
 (hkv:aF w (bc β bx w X) k kv) (hf:ug tk te ag es k) {K:AV→Prop} (hK:nt te zS K (uf es k)):
 ∃v x,(Instr.lookup ty u kv zS).run P w=.ok x w∧aj β bx w (bc β bx w X) v x∧K v:=by
 obtain ⟨kt,et,dk,u1,u2,u3,u4,hu⟩:=AD hT cx h hu
 obtain ⟨f1,f2,f3⟩:=hf
 rw [u3] at f2 f3
 have none_:∀ms:Array MapEntry,(∃e:Bool,Instr.findNow dk kv ms.toList 0=some none)→uf es k=none→(u=.map none∧ms=#[]∨∃r clock,u=.map (some r)∧w.heap[r]?=some (.map ms clock))→
  ∃v x,(Instr.lookup ty u kv zS).run P w=.ok x w∧aj β bx w (bc β bx w X) v x∧K v:=by
  rintro ms ⟨_,hfn⟩ hg X8
  rw [hg] at hK
  simp only [nt] at hK
  split at hK
  ·rename_i z hz
   obtain ⟨zv,z1,z2⟩:=Dm (β:=β) (bx:=bx) (w:=w) (ok:=bc β bx w X) u4 hz
   refine ⟨_,bif zS then .tuple #[zv,.bool false] else zv,?_,?_,hK⟩
   ·rcases X8 with ⟨rfl,rfl⟩|⟨r,clock,rfl,hh⟩
    ·unfold Instr.lookup
     cases zS<;>simp [aR u1,run_checkKey u2 f2 hkv,run_findKey (w:=w) u2 hfn,z1]
    unfold Instr.lookup
    cases zS<;>simp [aR u1,wN hh,run_checkKey u2 f2 hkv,run_findKey (w:=w) u2 hfn,z1]
   cases zS with
   |true=>simp only [cond_true,aj,ak,aF];exact ⟨_,rfl,_,_,rfl,z2,_,_,rfl,rfl,rfl⟩
   |false=>exact z2
  exact hK.elim
 rcases hu with ⟨rfl,rfl⟩|⟨r,ms,clock,rfl,hh,hst,LQ⟩
 ·exact none_ #[] ⟨true,rfl⟩ rfl (.inl ⟨rfl,rfl⟩)
 rcases oM f2 hkv es ms.toList 0 LQ f3 with ⟨k1,k2,_⟩|⟨j,e,ds,k1,k2,k3,k4,k5,k6,_⟩
 ·exact none_ ms ⟨true,k2⟩ k1 (.inr ⟨r,clock,rfl,hh⟩)
 rw [k3] at hK
 simp only [nt] at hK
 split at hK
 ·rename_i v hv
  have X9:=k6.val (β:=β) (bx:=bx) k4 (by rw [←f1] at hv;exact hv)
  refine ⟨_,bif zS then .tuple #[e.val,.bool true] else e.val,?_,?_,hK⟩
  ·unfold Instr.lookup
   cases zS<;>simp [aR u1,wN hh,run_checkKey u2 f2 hkv,run_findKey (w:=w) u2 k1]
  cases zS with
  |true=>simp only [cond_true,aj,ak,aF];exact ⟨_,rfl,_,_,rfl,X9,_,_,rfl,rfl,rfl⟩
  |false=>exact X9
 exact hK.elim
theorem xN {b:Nat} {B B':ay} {o o':Obj} (hb:bx[b]?=some B) (hl:B.live=true) (hl':B'.live=true) (hh:w.heap[β b]?=some o) (ho:∀c e f,o≠.cells c e f):
 Ext β bx w β (bx.set b B') {w with heap:=w.heap.setIfInBounds (β b) o'}:=by
 refine ⟨rfl,rfl,rfl,by simp,?_,?_,fun i hi=>⟨rfl,gV (pZ hl') hi⟩,?_⟩
 ·intro k hk hlk
  have hne:β b≠k:=hlk b _ hb hl
  simp [Array.getElem?_setIfInBounds_ne hne]
 ·intro k c e f hk
  have hne:β b≠k:=by rintro rfl;rw [hh] at hk;cases hk;exact ho c e f rfl
  exact ⟨c,by simp [Array.getElem?_setIfInBounds_ne hne,hk],rfl⟩
 intro i Bi hi lR
 rcases aH hi with ⟨rfl,_,_⟩|⟨_,h⟩
 ·exact .inr ⟨i,_,hb,hl,rfl⟩
 exact .inr ⟨i,Bi,h,lR,rfl⟩
theorem F4 (cx:cz G β bx w X) {b:Nat} {B B':ay} {o o':Obj} (hb:bx[b]?=some B) (hl:B.live=true) (hl':B'.live=true) (hh:w.heap[β b]?=some o) (ho:∀c e f,o≠.cells c e f)
 (hB:c6 β (bx.set b B') {w with heap:=w.heap.setIfInBounds (β b) o'} (bc β (bx.set b B') {w with heap:=w.heap.setIfInBounds (β b) o'} X) B' (β b)):
 cz G β (bx.set b B') {w with heap:=w.heap.setIfInBounds (β b) o'} X:=by
 refine cx.step (xN hb hl hl' hh ho) ?_ ?_
 ·intro i Bi hi
  rcases aH hi with ⟨rfl,rfl,_⟩|⟨hne,h⟩
  ·exact .inr hB
  refine .inl ⟨h,fun lR=>?_⟩
  have LG:β b≠β i:=fun he=>hne (cx.inj b i _ Bi hb h hl lR he).symm
  simp [Array.getElem?_setIfInBounds_ne LG]
 intro i j bi bj hi hj lR nE he
 rcases aH hi with ⟨rfl,rfl,_⟩|⟨h1,h2⟩<;>rcases aH hj with ⟨rfl,rfl,_⟩|⟨h3,h4⟩
 ·rfl
 ·exact cx.inj _ _ _ _ hb h4 hl nE he
 ·exact cx.inj _ _ _ _ h2 hb lR hl he
 exact cx.inj _ _ _ _ h2 h4 lR nE he
theorem OM {ok:Nat→Prop} {x:AV} {y:D} {u:Value} (hn:cr [x]=true) (h:x.qy bx=some y) (hx:aj β bx w ok x u):aF w ok y u:=by
 cases x with
 |d x=>simp only [AV.qy,osI] at h;subst h;simpa [aj] using hx
 |cl es=>
  simp only [AV.qy,osI] at h;subst h
  simp only [aj] at hx
  obtain ⟨base,rfl,g⟩:=hx
  simp only [aF];exact ⟨base,_,rfl,Nat.le_refl _,g⟩
 |ow b sz n=>simp [cr] at hn
 |fn f cs=>
  cases cs with
  |nil=>
   simp only [AV.qy,osI] at h;subst h
   simp only [aj,ak] at hx
   obtain ⟨vs,rfl,rfl⟩:=hx
   simp [aF,xu]
  |cons c cs=>simp [AV.qy] at h
 |_=>simp [AV.qy] at h
theorem BR {x:AV} {xs:List AV} (h:cr (x::xs)=true):cr [x]=true∧cr xs=true:=by
 cases x<;>simp_all [cr]
theorem xO {ok:Nat→Prop}:∀{xs:List AV} {ys:List D} {us:List Value},cr xs=true→iw bx xs=some ys→ak β bx w ok xs us→ct w ok ys us
 |[],ys,us,_,h,hx=>by simp [iw] at h;subst h;simp only [ak] at hx;subst hx;simp [ct]
 |x::xs,ys,us,hn,h,hx=>by
  simp only [iw] at h
  split at h
  ·rename_i y ys' h1 h2
   simp only [osI] at h;subst h
   simp only [ak] at hx
   obtain ⟨u,Lr,rfl,g1,g2⟩:=hx
   obtain ⟨n1,n2⟩:=BR hn
   simp only [ct]
   exact ⟨u,Lr,rfl,OM n1 h1 g1,xO n2 h2 g2⟩
  simp at h
theorem BS {kd:Kd} {k:D} {kv:Value} {ok:Nat→Prop} (hk:mJ kd k=true) (h:aF w ok k kv):Instr.sameBits 10000 kv kv=true:=by
 cases k<;>cases kd<;>simp [mJ] at hk<;>simp only [aF] at h<;>subst h
 ·simp [Instr.sameBits]
 rename_i s
 show (s.toArray==s.toArray)=true
 simp
theorem ru {ms:Array MapEntry} {j:Nat} {m:MapEntry} (h:ms.toList[j]?=some m) (f:MapEntry→MapEntry):(ms.modify j f).toList=ms.toList.set j (f m):=by
 rw [Array.toList_modify]
 obtain ⟨hj,rfl⟩:=List.getElem?_eq_some_iff.1 h
 apply List.ext_getElem?
 intro i
 rw [List.getElem?_modify,List.getElem?_set]
 by_cases hi:j=i
 ·subst hi
  have hj2:j<ms.size:=by simpa using hj
  simp [hj2]
 simp [hi]
theorem LR {ok:Nat→Prop} {x:AV} {xv:Value} {vs:List AV} {ds:List D} {k:D} {e:MapEntry} {ag:Bool} (hc:x.cells?=some vs) (hx:aj β bx w ok x xv) (hn:cr vs=true) (hd:iw bx vs=some ds) (ha:x.isAgg=ag)
 (hk:aF w ok k e.key) (he:e.val=xv):gy w ok ag (k::ds) e:=by
 simp only [gy]
 refine ⟨hk,?_⟩
 rw [he]
 cases x with
 |agg cs=>
  simp only [AV.cells?] at hc
  cases hs:so cs with
  |false=>simp [hs] at hc
  |true=>
   simp only [hs,cond_true,osI] at hc
   subst hc
   simp only [AV.isAgg] at ha;subst ha
   simp only [aj] at hx
   obtain ⟨us,rfl,g⟩:=hx
   exact ⟨us,rfl,fun h=>(by cases h),xO hn hd g⟩
 |any=>simp [AV.cells?] at hc
 |vw _ _ _ _ _ _=>simp [AV.cells?] at hc
 |dL _=>simp [AV.cells?] at hc
 |cond _ _=>simp [AV.cells?] at hc
 |_=>
  simp only [AV.cells?,osI] at hc
  subst hc
  simp only [AV.isAgg] at ha;subst ha
  exact ⟨[xv],rfl,fun _=>rfl,xO hn hd (by simp only [ak];exact ⟨xv,[],rfl,hx,rfl⟩)⟩
theorem DA (hT:jL P T) (cx:cz G β bx w X) {ty b:Nat} {m x:AV} {u kv xv:Value} {k:D} {tk te:TI} {ag:Bool} {es:List (List D)} {vs:List AV} {ds:List D} (h:BD T ty m bx=some (b,tk,te,ag,es)) (hu:aj β bx w (bc β bx w X) m u)
 (hkv:aF w (bc β bx w X) k kv) (CY:aj β bx w (bc β bx w X) x xv) (hc:x.cells?=some vs) (hn:cr vs=true) (hd:iw bx vs=some ds) (hf:ug tk te ag es k) (ha:x.isAgg=ag):
 ∃w',(Instr.mapUpdate ty u kv xv).run P w=.ok () w'∧Ext β bx w β (bx.set b (.mp ag (qz es k ds))) w'∧cz G β (bx.set b (.mp ag (qz es k ds))) w' X:=by
 unfold BD at h
 split at h
 case h_2=>cases h
 rename_i b' Ii Ru Ok es' hm
 simp only [osI,Prod.mk.injEq] at h
 obtain ⟨rfl,rfl,rfl,rfl,rfl⟩:=h
 obtain ⟨kt,et,dk,u1,u2,u3,u4,_⟩:=AD hT cx hm hu
 obtain ⟨f1,f2,f3⟩:=hf
 rw [u3] at f2 f3
 have hb:bx[b']?=some (.mp Ok es'):=by
  unfold xk at hm
  split at hm
  ·split at hm
   ·split at hm
    ·rename_i _ _ h0;cases h0
    ·rename_i _ _ h0;cases h0
    ·rename_i _ _ h0
     cases h0
     split at hm
     ·rename_i hb
      simp only [osI,Prod.mk.injEq] at hm
      obtain ⟨_,_,rfl,rfl⟩:=hm
      exact hb
     cases hm
    cases hm
   cases hm
  cases hm
 simp only [aj] at hu
 obtain ⟨rfl,_⟩:=hu
 obtain ⟨ms,clock,hh,⟨Rv,Ya⟩,LQ⟩:=cx.box b' _ hb
 have main:∀(CX:Array MapEntry) (clock':Nat),kW CX clock'→bp w (bc β bx w X) Ok (qz es' k ds) CX.toList→
  (Instr.mapUpdate ty (.map (some (β b'))) kv xv).run P w=.ok () {w with heap:=w.heap.setIfInBounds (β b') (.map CX clock')}→
  ∃w',(Instr.mapUpdate ty (.map (some (β b'))) kv xv).run P w=.ok () w'∧Ext β bx w β (bx.set b' (.mp Ok (qz es' k ds))) w'∧cz G β (bx.set b' (.mp Ok (qz es' k ds))) w' X:=by
  intro CX clock' g1 g2 g3
  have ex:Ext β bx w β (bx.set b' (.mp Ok (qz es' k ds))) {w with heap:=w.heap.setIfInBounds (β b') (.map CX clock')}:=xN hb rfl rfl hh (fun c e f=>by simp)
  refine ⟨_,g3,ex,F4 cx hb rfl rfl hh (fun c e f=>by simp) ?_⟩
  exact ⟨CX,clock',by simp [eO hh],g1,bp.mono (ex.keeps X) _ _ _ g2⟩
 rcases oM f2 hkv es' ms.toList 0 LQ f3 with ⟨k1,k2,k3⟩|⟨j,e,ds',k1,k2,k3,k4,k5,k6,k7⟩
 ·refine main (ms.push {key:=kv,val:=xv,born:=clock}) (clock+1) ⟨?_,?_⟩ ?_ ?_
  ·rw [Array.all_push]
   simp only [Bool.and_eq_true,decide_eq_true_eq]
   refine ⟨?_,by omega⟩
   rw [Array.all_eq_true] at Rv ⊢
   intro i hi
   have:=Rv i hi
   simp only [decide_eq_true_eq] at this ⊢
   omega
  ·rw [Array.toList_push,List.map_append,List.nodup_append]
   refine ⟨Ya,by simp,?_⟩
   intro a QJ c zT
   simp at zT
   obtain ⟨m',hm',rfl⟩:=List.mem_map.1 QJ
   have:m'.born<clock:=by
    rw [Array.all_eq_true_iff_forall_mem] at Rv
    simpa using Rv m' (by simpa using hm')
   omega
  ·rw [k3,Array.toList_push]
   refine LQ.append ?_
   simp only [bp]
   exact ⟨_,[],rfl,LR hc CY hn hd ha hkv rfl,rfl⟩
  unfold Instr.mapUpdate
  simp [aR u1,wN hh,run_checkKey u2 f2 hkv,run_findKey (w:=w) u2 k2,run_setObj_map _ hh]
 have Wb:=BS f2 hkv
 refine main (ms.modify j fun e=>{e with key:=kv,val:=xv}) clock ⟨?_,?_⟩ ?_ ?_
 ·rw [Array.all_eq_true_iff_forall_mem] at Rv ⊢
  intro y hy
  have Yb:y∈(ms.modify j fun e=>{e with key:=kv,val:=xv}).toList:=Array.mem_def.1 hy
  rw [ru k2] at Yb
  rcases List.mem_or_eq_of_mem_set Yb with h1|h1
  ·exact Rv y (by simpa using h1)
  subst h1
  exact Rv e (by simpa using List.mem_of_getElem? k2)
 ·rw [ru k2,List.map_set]
  have:(ms.toList.map (·.born)).set j ({e with key:=kv,val:=xv}:MapEntry).born=ms.toList.map (·.born):=by
   apply List.ext_getElem?
   intro i
   rw [List.getElem?_set]
   by_cases hi:j=i
   ·subst hi
    have:=(List.getElem?_eq_some_iff.1 k2).1
    simp [k2] at this ⊢
    simp [this]
   simp [hi]
  rw [this];exact Ya
 ·rw [k7,ru k2]
  exact bp.set (LR hc CY hn hd ha hkv rfl) j LQ
 unfold Instr.mapUpdate
 simp only [Nat.zero_add] at k1
 have Y5:ms[j]?=some e:=by simpa using k2
 simp [aR u1,wN hh,run_checkKey u2 f2 hkv,run_findKey (w:=w) u2 k1,run_setObj_map _ hh,Instr.keyThatStays,Y5,k5,Wb]
end
end Dem
end
section
open Go
namespace Dem
section
variable {P:Program} {T:Nat→Option TI} {G:Nat→Option (List D)} {β:Nat→Nat} {bx:List ay} {w:World} {X:Nat→Prop}
theorem F5 (cx:cz G β bx w X) {e size cap:Nat} {rows:List (List D)} {vs zs:List Value} (hl:∀r∈rows,r.length=size) (hv:ak β bx w (bc β bx w X) (rows.flatten.map .d) vs)
 (hlen:rows.length≤cap):
 let w':World:={w with drawn:=w.drawn+1,heap:=w.heap.push (.cells ⟨vs++zs⟩ e)}
 Ext β bx w β bx w'∧cz G β bx w' X∧aj β bx w' (bc β bx w' X) (.d (.sl rows)) (.slice (some ⟨w.heap.size,0,none⟩) rows.length cap):=by
 intro w'
 have TH:=oE cx (eW w)
 have xH:Ext β bx w β bx {w with drawn:=w.drawn+1}:=iD (eW w)
 have TJ:Ext β bx {w with drawn:=w.drawn+1} β bx w':=sA (w:={w with drawn:=w.drawn+1}) (.cells ⟨vs++zs⟩ e)
 have hnew:w'.heap[w.heap.size]?=some (.cells ⟨vs++zs⟩ e):=iF {w with drawn:=w.drawn+1} _
 refine ⟨xH.trans TJ,C7 (w:={w with drawn:=w.drawn+1}) TH _,?_⟩
 simp only [aj,aF]
 refine ⟨_,_,rfl,hlen,.inr ⟨w.heap.size,0,size,rfl,⟨eO hnew,fun hX=>?_,fun i b hb hlv=>?_⟩,?_⟩⟩
 ·exact Nat.lt_irrefl _ (cx.xs _ hX)
 ·have:=(cx.box i b hb).eY hlv;omega
 refine l6 (β:=β) (bx:=bx) rows 0 vs hl ?_ (ak.mono ((xH.trans TJ).eN X) _ _ hv)
 intro k u hk
 have hk':k<vs.length:=by
  rcases Nat.lt_or_ge k vs.length with h|h
  ·exact h
  simp [List.getElem?_eq_none h] at hk
 show World.cell? w' ⟨w.heap.size,0+k,none⟩=some u
 simp only [World.cell?,hnew]
 simp [List.getElem?_append_left hk',hk]
theorem AE (hT:jL P T) (cx:cz G β bx w X) {ev:Operand→AV} {ρ:Operand→Value} {o:Oper} (hρ:∀x∈o.op.operands.toList,aj β bx w (bc β bx w X) (ev x) (ρ x))
 {c:Prop} {es:List (List D)} (hr:zW T ev o.op=some (c,es)) (hc:c):dj G β bx w X ((execOp ρ o).run P w) (.d (.sl es)) bx:=by
 obtain ⟨dst,op,type,pos,after,guard⟩:=o
 simp only at hρ hr
 unfold zW at hr
 split at hr
 case h_2=>cases hr
 rename_i b args ats
 split at hr
 case h_2=>cases hr
 rename_i x y t u ha Rs
 cases ht:T t with
 |none=>simp [ht] at hr
 |some ti=>
 cases hu:T u with
 |none=>simp [ht,hu] at hr
 |some tu=>
 simp only [ht,hu] at hr
 obtain ⟨i,d,h1,h2,h3,h4,h5,h6⟩:=aE (hT.ti _ _ ht)
 obtain ⟨ui,ud,u1,u2,u3,u4,u5,u6⟩:=aE (hT.ti _ _ hu)
 cases hk:ti.kd with
 |slice e=>
  cases Yc:tu.kd with
  |slice e2=>
   rw [hk] at hr h5
   rw [Yc] at hr u5
   have BJ:∀k,ud≠.int k:=by rintro k rfl;cases u5
   cases d<;>simp [cM] at h5
   subst h5
   cases hte:T e with
   |none=>simp [hte] at hr
   |some te=>
   obtain ⟨ei,ed,g1,g2,g3,g4,g5,g6⟩:=aE (hT.ti _ _ hte)
   simp only [hte] at hr
   cases hz:eA te with
   |false=>simp [hz] at hr
   |true=>
   obtain ⟨z,hz1,OF,Vz,VA⟩:=lg hz
   obtain ⟨zv,zc,k1,k2,k3,_⟩:=sH (β:=β) (bx:=bx) (w:=w) (ok:=bc β bx w X) (hT.ti _ _ hte) hz1
   have hzl:zc.length=ei.size:=by rw [ak.length k3,OF,g3]
   have wL:ei.zero=some zv:=by
    cases hq:ei.zero with
    |none=>rw [g6,hq] at hz1;simp [AV.cells?] at hz1
    |some q=>have:=fV (P:=P) (w:=w) g1 hq;rw [k1] at this;simp at this;rw [this]
   simp only [hz,cond_true] at hr
   split at hr
   case h_2=>cases hr
   rename_i es x0 xr hx hy
   simp only [osI,Prod.mk.injEq] at hr
   obtain ⟨rfl,rfl⟩:=hr
   obtain ⟨zT,zU⟩:=hc
   have mx:x∈args.toList:=by rw [ha];simp
   have my:y∈args.toList:=by rw [ha];simp
   have hs:=hρ x (by simp [Op.operands,Call.operands];exact by simpa using mx)
   have Yd:=hρ y (by simp [Op.operands,Call.operands];exact by simpa using my)
   rw [hx] at hs
   rw [hy] at Yd
   obtain ⟨ws,f1,f2⟩:=kB (P:=P) (xs:=x0::xr) cx Yd (by simp [jQ,AV.rows]) (fun r hr=>zU r (List.mem_append.2 (.inr hr)))
   rw [g3] at f1
   simp only [aj] at hs
   obtain ⟨base,Y6,hbase⟩:=hs
   have fin:∀(os:List Value),fG P w ei.size es.length (.slice base es.length es.length) os→ak β bx w (bc β bx w X) (es.flatten.map .d) os→dj G β bx w X ((execOp ρ ⟨dst,.call {callee:=.builtin .append,args:=args,argTypes:=ats},type,pos,after,guard⟩).run P w) (.d (.sl (es++x0::xr))) bx:=by
    intro os o1 o2
    obtain ⟨cap,rest,q1,q2,zs,q3,q4⟩:=iJ h2 u2 BJ g1 wL k2 hzl f1 o1 (by simp) (by omega) (by rw [←g4];exact zT) type
    obtain ⟨r1,r2,r3⟩:=F5 (e:=e) (size:=te.size) (cap:=cap) (rows:=es++(x0::xr)) (zs:=zs) (vs:=os++ws) cx zU (ak.flatten_append o2 f2) (by rw [List.length_append];exact q1)
    rw [List.length_append] at r3
    refine ⟨β,_,r1,r2,.inl ⟨_,?_,r3⟩⟩
    simp only [execOp,resolve,Sem.run_bind,Sem.run_pure,Result.andThen_ok,invoke,fm args ρ]
    have ea:ats=⟨[t,u]⟩:=Array.toList_inj.1 (by rw [Rs])
    rw [ha,List.map_cons,List.map_cons,List.map_nil,Y6,ea]
    exact bK _ q4
   cases es with
   |nil=>
    refine fin [] ⟨dc,by simp,fun w' _=>⟨dc,?_⟩⟩ (by simp [ak])
    cases base<;>simp [Builtin.firstCells,loadCells,loadCellsFrom]
   |cons e0 er=>
    obtain ⟨os,o1,o2⟩:=dI (P:=P) (β:=β) (bx:=bx) (cap:=(e0::er).length) (base:=base) (es:=e0::er) (ok:=bc β bx w X) (fun r hr=>zU r (List.mem_append.2 (.inl hr))) (hbase.imp id fun ⟨blk,off,sz,a,_,c⟩=>⟨blk,off,sz,a,c⟩)
    rw [g3] at o1
    exact fin os o1 o2
  |_=>simp [hk,Yc] at hr
 |_=>simp [hk] at hr
end
end Dem
end
