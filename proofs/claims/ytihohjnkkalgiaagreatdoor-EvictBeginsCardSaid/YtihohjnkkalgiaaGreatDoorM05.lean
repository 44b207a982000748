/- Parts of a proof, joined. -/
import Derived.Test.YtihohjnkkalgiaaGreatDoorM04
set_option linter.all false
set_option maxRecDepth 100000
set_option maxHeartbeats 4000000
section
open Go
namespace Dem
section
variable {P:Program} {T:Nat→Option TI} {G:Nat→Option (List D)} {β:Nat→Nat} {bx:List az} {w:World} {X:Nat→Prop}
def lW (β:Nat→Nat) (bx:List az) (w:World) (ok:Nat→Prop):iR→Ending→Prop
 |.ret v,.returned u=>aj β bx w ok v u
 |.MC v,.panicked ch=>∃u,ch=[{v:=u,recovered:=false}]∧aj β bx w ok v u
 |_,_=>False
def jA (P:Program) (f:Nat) (vs:Array Value) (w:World) (R:Ending→World→Prop):Prop:=
 ((callFunc f vs).run P w=.ok (.enter f vs) w∧Calls P f vs w R)∨∃v w',(callFunc f vs).run P w=.ok (.value v) w'∧R (.returned v) w'
theorem jA.mono {f:Nat} {vs:Array Value} {R R':Ending→World→Prop} (h:jA P f vs w R) (hr:∀e w',R e w'→R' e w'):jA P f vs w R':=by
 rcases h with ⟨h1,h2⟩|⟨v,w',h1,h2⟩
 ·exact .inl ⟨h1,Calls.mono h2 hr⟩
 exact .inr ⟨v,w',h1,hr _ _ h2⟩
def bC (P:Program) (G:Nat→Option (List D)) (f:Nat) (args:List AV) (bx:List az) (res:iR) (aR:List az):Prop:=
 ∀(β:Nat→Nat) (w:World) (vs:List Value) (X:Nat→Prop),cI G β bx w X→ak β bx w (bt β bx w X) args vs→
  jA P f ⟨vs⟩ w fun e w'=>∃β',Ext β bx w β' aR w'∧cI G β' aR w' X∧lW β' aR w' (bt β' aR w' X) res e
mutual
theorem qz {β β':Nat→Nat} {bx aR:List az} {w:World} {ok ok':Nat→Prop} (h:∀blk,ok blk→ok' blk):∀(x:AV) (v:Value),x.shut=true→aj β bx w ok x v→aj β' aR w ok' x v
 |.any,_,_,_=>by simp [aj]
 |.d x,v,_,hv=>by simp only [aj] at hv ⊢;exact aK.mono (fun blk hb=>⟨h blk hb,rfl⟩) _ _ hv
 |.k c,v,_,hv=>by simpa [aj] using hv
 |.agg cs,v,hs,hv=>by
  simp only [aj] at hv ⊢;obtain ⟨vs,h1,h2⟩:=hv
  exact ⟨vs,h1,lH h cs vs (by simpa [AV.shut] using hs) h2⟩
 |.eE cs,v,hs,hv=>by
  simp only [aj] at hv ⊢;obtain ⟨vs,h1,h2⟩:=hv
  exact ⟨vs,h1,lH h cs vs (by simpa [AV.shut] using hs) h2⟩
 |.ptr _ _,_,hs,_=>by simp [AV.shut] at hs
 |.rp _ _ _ _,_,hs,_=>by simp [AV.shut] at hs
 |.ow _ _ _,_,hs,_=>by simp [AV.shut] at hs
 |.vw _ _ _ _ _ _,_,hs,_=>by simp [AV.shut] at hs
 |.ep ds,v,_,hv=>by
  simp only [aj] at hv ⊢;obtain ⟨blk,off,h1,h2,h3⟩:=hv
  exact ⟨blk,off,h1,h blk h2,bf.mono (fun blk hb=>⟨h blk hb,rfl⟩) blk (fun _=>rfl) _ _ h3⟩
 |.cl es,v,_,hv=>by
  simp only [aj] at hv ⊢;obtain ⟨base,h1,h2⟩:=hv
  refine ⟨base,h1,h2.imp id ?_⟩
  rintro ⟨blk,off,sz,e1,e2,e3⟩
  exact ⟨blk,off,sz,e1,h blk e2,ax.mono (fun blk hb=>⟨h blk hb,rfl⟩) blk sz (fun _=>rfl) _ _ e3⟩
 |.fn f cs,v,hs,hv=>by
  simp only [aj] at hv ⊢;obtain ⟨vs,h1,h2⟩:=hv
  exact ⟨vs,h1,lH h cs vs (by simpa [AV.shut] using hs) h2⟩
 |.sI t x,v,hs,hv=>by
  simp only [aj] at hv ⊢;obtain ⟨u,h1,h2⟩:=hv
  exact ⟨u,h1,qz h x u (by simpa [AV.shut] using hs) h2⟩
 |.cond p x,v,hs,hv=>by
  simp only [aj] at hv ⊢
  exact ⟨fun hp=>qz h x v (by simpa [AV.shut] using hs) (hv.1 hp),hv.2⟩
theorem lH {β β':Nat→Nat} {bx aR:List az} {w:World} {ok ok':Nat→Prop} (h:∀blk,ok blk→ok' blk):∀(xs:List AV) (vs:List Value),AV.shut.mN xs=true→ak β bx w ok xs vs→ak β' aR w ok' xs vs
 |[],vs,_,hv=>by simpa [ak] using hv
 |x::xs,vs,hs,hv=>by
  simp only [ak] at hv ⊢
  obtain ⟨u,us,h1,h2,h3⟩:=hv
  simp only [AV.shut.mN,Bool.and_eq_true] at hs
  exact ⟨u,us,h1,qz h x u hs.1 h2,lH h xs us hs.2 h3⟩
end
theorem rZ {β β':Nat→Nat} {bx aR:List az} {w w':World} {ok ok':Nat→Prop}:∀(xs:List AV) (vs:List Value),AV.flat.zK xs=true→ak β bx w ok xs vs→ak β' aR w' ok' xs vs
 |[],vs,_,hv=>by simpa [ak] using hv
 |x::xs,vs,hs,hv=>by
  simp only [ak] at hv ⊢
  obtain ⟨u,us,h1,h2,h3⟩:=hv
  cases x with
  |d y=>cases y<;>simp [AV.flat.zK] at hs<;>exact ⟨u,us,h1,by simpa [aj,aK] using h2,rZ xs us hs h3⟩
  |k c=>simp [AV.flat.zK] at hs;exact ⟨u,us,h1,by simpa [aj] using h2,rZ xs us hs h3⟩
  |_=>simp [AV.flat.zK] at hs
theorem oK {β β':Nat→Nat} {bx aR:List az} {w w':World} {ok ok':Nat→Prop}:∀(xs:List AV) (vs:List Value),AV.flat.qj xs=true→ak β bx w ok xs vs→ak β' aR w' ok' xs vs
 |[],vs,_,hv=>by simpa [ak] using hv
 |x::xs,vs,hs,hv=>by
  simp only [ak] at hv ⊢
  obtain ⟨u,us,h1,h2,h3⟩:=hv
  cases x with
  |d y=>cases y<;>simp [AV.flat.qj] at hs<;>exact ⟨u,us,h1,by simpa [aj,aK] using h2,oK xs us hs h3⟩
  |k c=>simp [AV.flat.qj] at hs;exact ⟨u,us,h1,by simpa [aj] using h2,oK xs us hs h3⟩
  |agg cs=>
   simp [AV.flat.qj] at hs
   simp only [aj] at h2
   obtain ⟨v2,e1,e2⟩:=h2
   exact ⟨u,us,h1,by simp only [aj];exact ⟨v2,e1,rZ cs v2 hs.1 e2⟩,oK xs us hs.2 h3⟩
  |_=>simp [AV.flat.qj] at hs
theorem FN {β β':Nat→Nat} {bx aR:List az} {w w':World} {ok ok':Nat→Prop} (x:AV) (v:Value) (hf:x.flat=true) (hv:aj β bx w ok x v):aj β' aR w' ok' x v:=by
 cases x with
 |d y=>cases y<;>simp [AV.flat] at hf<;>simpa [aj,aK] using hv
 |k c=>simpa [aj] using hv
 |agg cs=>simp only [aj] at hv ⊢;obtain ⟨vs,h1,h2⟩:=hv;exact ⟨vs,h1,rZ cs vs (by simpa [AV.flat] using hf) h2⟩
 |eE cs=>simp only [aj] at hv ⊢;obtain ⟨vs,h1,h2⟩:=hv;exact ⟨vs,h1,oK cs vs (by simpa [AV.flat] using hf) h2⟩
 |_=>simp [AV.flat] at hf
theorem MO {w w':World} {ok ok':Nat→Prop}:∀(x:D) (v:Value),x.flat=true→aK w ok x v→aK w' ok' x v:=by
 intro x v hf hv
 cases x<;>simp [D.flat] at hf<;>simpa [aK] using hv
theorem xR {w:World} {ok ok':Nat→Prop} {blk:Nat}:∀(xs:List D) (off:Nat),(∀x∈xs,x.flat=true)→bf w ok blk xs off→bf w ok' blk xs off
 |[],_,_,_=>by simp [bf]
 |x::xs,off,hf,hv=>by
  simp only [bf] at hv ⊢
  obtain ⟨⟨u,h1,h2⟩,h3⟩:=hv
  exact ⟨⟨u,h1,MO x u (hf x (by simp)) h2⟩,xR xs _ (fun y hy=>hf y (by simp [hy])) h3⟩
theorem oL {w:World} {ok ok':Nat→Prop} {blk sz:Nat}:∀(rs:List (List D)) (off:Nat),(∀r∈rs,∀x∈r,x.flat=true)→ax w ok blk sz rs off→ax w ok' blk sz rs off
 |[],_,_,_=>by simp [ax]
 |r::rs,off,hf,hv=>by
  simp only [ax] at hv ⊢
  exact ⟨hv.1,xR r off (hf r (by simp)) hv.2.1,oL rs _ (fun s hs=>hf s (by simp [hs])) hv.2.2⟩
theorem D5 (cx:cI G β bx w X) {x y:AV} {u:Value} (hd:fz bx x=some y) (h:aj β bx w (bt β bx w X) x u):
 Ext β bx w β (x.cG bx) w∧cI G β (x.cG bx) w X∧aj β (x.cG bx) w (bt β (x.cG bx) w X) y u:=by
 cases x with
 |cl es=>
  simp only [fz,osI] at hd;subst hd
  obtain ⟨g1,g2,g3⟩:=zS (y:=.sl es) cx rfl h
  exact ⟨g1,g2,by simpa [aj] using g3⟩
 |ow b sz n=>
  simp only [fz,Option.map_eq_some_iff] at hd
  obtain ⟨z,h1,rfl⟩:=hd
  obtain ⟨g1,g2,g3⟩:=zS cx h1 h
  exact ⟨g1,g2,by simpa [aj] using g3⟩
 |vw b sz off n c ex=>
  simp only [fz,Option.map_eq_some_iff] at hd
  obtain ⟨es,h1,rfl⟩:=hd
  obtain ⟨g1,g2,g3⟩:=j7 cx h1 h
  exact ⟨g1,g2,by simpa [aj,aK] using g3⟩
 |_=>simp only [fz,osI] at hd;subst hd;exact ⟨Ext.refl _ _ _,cx,h⟩
theorem FO {x y z:AV} (h:fz bx x=some y):fz (z.cG bx) x=some y:=by
 cases x with
 |ow b sz n=>
  simp only [fz,Option.map_eq_some_iff] at h ⊢
  obtain ⟨q,h1,h2⟩:=h
  exact ⟨q,CH h1,h2⟩
 |vw b sz off n c ex=>
  simp only [fz,Option.map_eq_some_iff] at h ⊢
  obtain ⟨q,h1,h2⟩:=h
  refine ⟨q,?_,h2⟩
  simp only [AV.rows] at h1 ⊢
  split at h1
  ·rename_i s es hb
   rcases uI (z:=z) (.inl hb) with g|g<;>simp [g,h1]
  ·rename_i s es hb
   rcases uI (z:=z) (.inr hb) with g|g<;>simp [g,h1]
  simp at h1
 |_=>exact h
theorem wm {z:AV}:∀{xs ys:List AV},IL bx xs=some ys→IL (z.cG bx) xs=some ys
 |[],ys,h=>h
 |x::xs,ys,h=>by
  simp only [IL] at h ⊢
  split at h
  ·rename_i y ys' hy hys
   rw [FO hy,wm hys];exact h
  simp at h
theorem I8 {x y z:AV} (h:qi bx x=some y):qi (z.cG bx) x=some y:=by
 cases x with
 |agg cs=>
  simp only [qi,Option.map_eq_some_iff] at h ⊢
  obtain ⟨q,h1,h2⟩:=h
  exact ⟨q,wm h1,h2⟩
 |_=>simp only [qi] at h ⊢;exact FO h
theorem tH {z:AV}:∀{xs ys:List AV},eX bx xs=some ys→eX (z.cG bx) xs=some ys
 |[],ys,h=>h
 |x::xs,ys,h=>by
  simp only [eX] at h ⊢
  split at h
  ·rename_i y ys' hy hys
   rw [I8 hy,tH hys];exact h
  simp at h
theorem xS {xs ys:List AV}:∀(zs:List AV) (bx:List az),eX bx xs=some ys→eX (eF bx zs) xs=some ys
 |[],_,h=>h
 |_::zs,_,h=>xS zs _ (tH h)
theorem FP {xs ys:List AV} {z:AV} (h:eX bx xs=some ys):eX (lK bx z) xs=some ys:=by
 cases z with
 |agg cs=>exact xS cs bx h
 |_=>simp only [lK];exact tH h
theorem FQ:∀(xs:List AV) (bx:List az) (ys:List AV) (vs:List Value),cI G β bx w X→IL bx xs=some ys→ak β bx w (bt β bx w X) xs vs→
 Ext β bx w β (eF bx xs) w∧cI G β (eF bx xs) w X∧ak β (eF bx xs) w (bt β (eF bx xs) w X) ys vs
 |[],bx,ys,vs,cx,hd,h=>by simp [IL] at hd;subst hd;exact ⟨Ext.refl _ _ _,cx,by simpa [eF] using h⟩
 |x::xs,bx,ys,vs,cx,hd,h=>by
  simp only [IL] at hd
  split at hd
  ·rename_i y ys' hy hys
   simp at hd;subst hd
   simp only [ak] at h
   obtain ⟨u,us,rfl,g1,g2⟩:=h
   obtain ⟨e1,c1,r1⟩:=D5 cx hy g1
   obtain ⟨e2,c2,r2⟩:=FQ xs (x.cG bx) ys' us c1 (wm hys) (ak.mono (e1.eY X) _ _ g2)
   refine ⟨e1.trans e2,c2,?_⟩
   simp only [eF,ak]
   exact ⟨u,us,rfl,aj.mono (e2.eY X) _ _ r1,r2⟩
  simp at hd
theorem CK (cx:cI G β bx w X) {x y:AV} {u:Value} (hd:qi bx x=some y) (h:aj β bx w (bt β bx w X) x u):
 Ext β bx w β (lK bx x) w∧cI G β (lK bx x) w X∧aj β (lK bx x) w (bt β (lK bx x) w X) y u:=by
 cases x with
 |agg cs=>
  simp only [qi,Option.map_eq_some_iff] at hd
  obtain ⟨ys,h1,rfl⟩:=hd
  simp only [aj] at h
  obtain ⟨vs,rfl,hvs⟩:=h
  obtain ⟨g1,g2,g3⟩:=FQ cs bx ys vs cx h1 hvs
  exact ⟨g1,g2,by simp only [aj];exact ⟨vs,rfl,g3⟩⟩
 |_=>simp only [qi] at hd;simp only [lK];exact D5 cx hd h
theorem lI:∀(xs:List AV) (bx:List az) (ys:List AV) (vs:List Value),cI G β bx w X→eX bx xs=some ys→ak β bx w (bt β bx w X) xs vs→
 Ext β bx w β (fw bx xs) w∧cI G β (fw bx xs) w X∧ak β (fw bx xs) w (bt β (fw bx xs) w X) ys vs
 |[],bx,ys,vs,cx,hd,h=>by simp [eX] at hd;subst hd;exact ⟨Ext.refl _ _ _,cx,by simpa [fw] using h⟩
 |x::xs,bx,ys,vs,cx,hd,h=>by
  simp only [eX] at hd
  split at hd
  ·rename_i y ys' hy hys
   simp at hd;subst hd
   simp only [ak] at h
   obtain ⟨u,us,rfl,g1,g2⟩:=h
   obtain ⟨e1,c1,r1⟩:=CK cx hy g1
   obtain ⟨e2,c2,r2⟩:=lI xs (lK bx x) ys' us c1 (FP hys) (ak.mono (e1.eY X) _ _ g2)
   refine ⟨e1.trans e2,c2,?_⟩
   simp only [fw,ak]
   exact ⟨u,us,rfl,aj.mono (e2.eY X) _ _ r1,r2⟩
  simp at hd
theorem Ly {x y:AV} (h:fz [] x=some y) (bx:List az):x.cG bx=bx:=by
 cases x with
 |ow b sz n=>simp [fz,AV.sJ] at h
 |vw b sz off n c ex=>simp [fz,AV.rows] at h
 |_=>rfl
theorem FR:∀{xs ys:List AV} (bx:List az),IL [] xs=some ys→eF bx xs=bx
 |[],_,_,_=>rfl
 |x::xs,ys,bx,h=>by
  simp only [IL] at h
  split at h
  ·rename_i y ys' hy hys
   simp only [eF,Ly hy bx];exact FR bx hys
  simp at h
theorem j8:∀{xs ys:List AV} (bx:List az),eX [] xs=some ys→fw bx xs=bx
 |[],_,_,_=>rfl
 |x::xs,ys,bx,h=>by
  simp only [eX] at h
  split at h
  ·rename_i y ys' hy hys
   have:lK bx x=bx:=by
    cases x with
    |agg cs=>
     simp only [qi,Option.map_eq_some_iff] at hy
     obtain ⟨q,h1,_⟩:=hy
     exact FR bx h1
    |_=>simp only [qi] at hy;simp only [lK];exact Ly hy bx
   simp only [fw,this];exact j8 bx hys
  simp at h
def qA (β:Nat→Nat) (bx:List az) (X:Nat→Prop) (blk:Nat):Prop:=X blk∨∃i b,bx[i]?=some b∧b.live=true∧β i=blk
theorem FT (cx:cI G β bx w X):cI G β [] w (qA β bx X):=by
 refine ⟨?_,?_,by simp,by simp,by simp⟩
 ·rintro blk (h|⟨i,b,h1,h2,rfl⟩)
  ·exact cx.xs blk h
  exact dj.eU (cx.box i b h1) h2
 intro g ds hg
 obtain ⟨h1,h2⟩:=cx.yU g ds hg
 have key:∀blk,bt β bx w X blk→bt β [] w (qA β bx X) blk:=by
  rintro blk ⟨k1,k2,k3⟩
  refine ⟨k1,?_,by simp⟩
  rintro (h|⟨i,b,e1,e2,e3⟩)
  ·exact k2 h
  exact k3 i b e1 e2 e3
 exact ⟨key g h1,bf.mono (fun blk hb=>⟨key blk hb,rfl⟩) g (fun _=>rfl) _ _ h2⟩
theorem FU (blk:Nat) (h:bt β bx w X blk):bt β [] w (qA β bx X) blk:=by
 obtain ⟨k1,k2,k3⟩:=h
 refine ⟨k1,?_,by simp⟩
 rintro (h|⟨i,b,e1,e2,e3⟩)
 ·exact k2 h
 exact k3 i b e1 e2 e3
theorem uT {β':Nat→Nat} {aR:List az} {w':World} (ex:Ext β [] w β' aR w'):Ext β bx w β bx w':=
 ⟨ex.os,ex.tape,ex.output,ex.size,fun k hk _=>ex.block k hk (by simp),ex.shape,fun i hi=>⟨rfl,hi⟩,fun i b h1 h2=>.inr ⟨i,b,h1,h2,rfl⟩⟩
theorem Pg {β':Nat→Nat} {aR:List az} {w':World} (cx:cI G β bx w X) (ex:Ext β [] w β' aR w'):cI G β bx w' X:=
 cx.step (uT ex) (fun i b h=>.inl ⟨h,fun hl=>ex.block _ (dj.eU (cx.box i b h) hl) (by simp)⟩) cx.inj
theorem SA {β':Nat→Nat} {w':World} {sz n:Nat} {es:List (List D)} {qn:List az} {u:Value} (cx:cI G β bx w X) (ex:Ext β [] w β' [.row sz es] w') (mG:cI G β' [.row sz es] w' (qA β qn X))
 (hv:(∀r∈es,∀x∈r,x.flat=true)∨qn=bx) (hr:aj β' [.row sz es] w' (bt β' [.row sz es] w' (qA β qn X)) (.ow 0 sz n) u):
 Ext β bx w (kX β bx.length (β' 0)) (bx++[.row sz es]) w'∧cI G (kX β bx.length (β' 0)) (bx++[.row sz es]) w' X∧
  aj (kX β bx.length (β' 0)) (bx++[.row sz es]) w' (bt (kX β bx.length (β' 0)) (bx++[.row sz es]) w' X) (.ow bx.length sz n) u:=by
 have e0:=uT (bx:=bx) ex
 have hnew:az.live (.row sz es)=true→w.heap.size≤β' 0:=by
  intro hl
  rcases ex.live 0 (.row sz es) rfl hl with h|⟨j,b',h1,_⟩
  ·exact h
  simp at h1
 have hold:∀i b,bx[i]?=some b→kX β bx.length (β' 0) i=β i:=by
  intro i b h
  exact c8 _ _ (by have:=jv h;omega)
 have e1:Ext β bx w (kX β bx.length (β' 0)) (bx++[.row sz es]) w':=by
  refine ⟨e0.os,e0.tape,e0.output,e0.size,e0.block,e0.shape,?_,?_⟩
  ·rintro i ⟨b,h1,h2⟩
   exact ⟨hold i b h1,b,eJ h1,h2⟩
  intro i b h hl
  rcases bD h with ⟨h1,_⟩|⟨rfl,rfl⟩
  ·exact .inr ⟨i,b,h1,hl,(hold i b h1).symm⟩
  exact .inl (by rw [bz];exact hnew hl)
 have hlt:∀i b,bx[i]?=some b→b.live=true→β i<w.heap.size:=fun i b h hl=>dj.eU (cx.box i b h) hl
 have hok:qn=bx→∀blk,bt β' [.row sz es] w' (qA β qn X) blk→bt (kX β bx.length (β' 0)) (bx++[.row sz es]) w' X blk:=by
  rintro rfl blk ⟨k1,k2,k3⟩
  refine ⟨k1,fun hX=>k2 (.inl hX),?_⟩
  intro i b h hl
  rcases bD h with ⟨h1,_⟩|⟨rfl,rfl⟩
  ·rw [hold i b h1];exact fun he=>k2 (.inr ⟨i,b,h1,hl,he⟩)
  rw [bz];exact k3 0 _ rfl hl
 refine ⟨e1,cx.step e1 ?_ ?_,?_⟩
 ·intro i b h
  rcases bD h with ⟨h1,_⟩|⟨rfl,rfl⟩
  ·exact .inl ⟨h1,fun hl=>ex.block _ (hlt i b h1 hl) (by simp)⟩
  refine .inr ?_
  have:=mG.box 0 _ rfl
  rw [bz]
  simp only [dj] at this ⊢
  refine this.imp id ?_
  rintro ⟨c,e,h1,h2⟩
  refine ⟨c,e,h1,?_⟩
  rcases hv with hfl|hb
  ·exact oL _ _ hfl h2
  exact ax.mono (fun blk hb'=>⟨hok hb blk hb',rfl⟩) _ _ (fun _=>rfl) _ _ h2
 ·intro i j bi bj hi hj mH oM he
  rcases bD hi with ⟨h1,_⟩|⟨rfl,rfl⟩<;>rcases bD hj with ⟨h2,_⟩|⟨rfl,rfl⟩
  ·rw [hold i bi h1,hold j bj h2] at he
   exact cx.inj i j bi bj h1 h2 mH oM he
  ·rw [hold i bi h1,bz] at he
   have:=hlt i bi h1 mH;have:=hnew oM;omega
  ·rw [hold j bj h2,bz] at he
   have:=hlt j bj h2 oM;have:=hnew mH;omega
  rfl
 simp only [aj] at hr ⊢
 obtain ⟨_,h2⟩:=hr
 refine ⟨⟨_,by simp;rfl,rfl⟩,?_⟩
 rw [bz];exact h2
theorem I9 {f:Nat} {args:List AV} {vs:List Value} {K:AV→List az→Prop} (cx:cI G β bx w X) (hx:ak β bx w (bt β bx w X) args vs)
 (h:Fl (bC P G) f args bx K):
 jA P f ⟨vs⟩ w fun e w'=>∃β' aR v u,e=.returned u∧Ext β bx w β' aR w'∧cI G β' aR w' X∧aj β' aR w' (bt β' aR w' X) v u∧K v aR:=by
 obtain ⟨_,hz,hs,h⟩:=h
 obtain ⟨e1,c1,r1⟩:=lI args bx _ vs cx hz hx
 have cn:=FT c1
 have hn:ak β [] w (bt β [] w (qA β (fw bx args) X)) _ vs:=lH (fun blk hb=>FU blk hb) _ _ hs r1
 rcases h with ⟨v,hf,hv,hK⟩|⟨sz,n,es,hf,hv,hK⟩
 ·refine jA.mono (hf β w vs _ cn hn) ?_
  rintro e w' ⟨β',ex,mG,hr⟩
  cases e with
  |returned u=>
   refine ⟨β,bx,v,u,rfl,uT ex,Pg cx ex,?_,hK⟩
   rcases hv with hfl|⟨Ph,hsh⟩
   ·exact FN v u hfl hr
   rw [j8 bx Ph] at hr
   refine qz ?_ v u hsh hr
   rintro blk ⟨k1,k2,_⟩
   exact ⟨k1,fun hX=>k2 (.inl hX),fun i b hb hl he=>k2 (.inr ⟨i,b,hb,hl,he⟩)⟩
  |_=>exact hr.elim
 refine jA.mono (hf β w vs _ cn hn) ?_
 rintro e w' ⟨β',ex,mG,hr⟩
 cases e with
 |returned u=>
  simp only [lW] at hr
  obtain ⟨x1,x2,x3⟩:=SA cx ex mG (by
   rcases hv with hfl|Ph
   ·exact .inl hfl
   refine .inr ?_
   rw [j8 bx Ph]) hr
  exact ⟨_,_,_,u,rfl,x1,x2,x3,hK⟩
 |_=>exact hr.elim
end
end Dem
end
section
open Go
namespace Dem
section
variable {P:Program} {G:Nat→Option (List D)} {β β':Nat→Nat} {bx aR:List az} {w w':World} {X:Nat→Prop}
theorem lX {i:Nat} (h:OP bx i=true):cg bx i:=by
 unfold OP at h
 split at h
 ·rename_i b hb;exact ⟨b,hb,h⟩
 cases h
mutual
theorem CL {ok ok':Nat→Prop} {jP:List az} {dt:Bool} (h:∀b,cg jP b→β' b=β b∧cg aR b) (hd:dt=true→∀d v,aK w ok d v→aK w' ok' d v):∀(x:AV) (v:Value),x.loose dt=true→x.bP jP=true→aj β bx w ok x v→aj β' aR w' ok' x v
 |.any,_,_,_,_=>by simp [aj]
 |.d y,v,hs,_,hv=>by
  simp only [aj] at hv ⊢
  cases hdt:dt with
  |true=>exact hd hdt y v hv
  |false=>subst hdt;cases y<;>simp [AV.loose] at hs<;>simpa [aK] using hv
 |.k c,v,_,_,hv=>by simpa [aj] using hv
 |.agg cs,v,hs,hn,hv=>by
  simp only [aj] at hv ⊢;obtain ⟨vs,h1,h2⟩:=hv
  exact ⟨vs,h1,lY h hd cs vs (by simpa [AV.loose] using hs) (by simpa [AV.bP] using hn) h2⟩
 |.eE cs,v,hs,_,hv=>by simp [AV.loose] at hs
 |.ptr b off,v,_,hn,hv=>by
  have g:=lX (by simpa [AV.bP] using hn)
  simp only [aj] at hv ⊢;obtain ⟨e,_⟩:=hv;exact ⟨by rw [(h b g).1];exact e,(h b g).2⟩
 |.rp b sz i j,v,_,hn,hv=>by
  have g:=lX (by simpa [AV.bP] using hn)
  simp only [aj] at hv ⊢;obtain ⟨e,_⟩:=hv;exact ⟨by rw [(h b g).1];exact e,(h b g).2⟩
 |.ow _ _ _,_,hs,_,_=>by simp [AV.loose] at hs
 |.zG _,_,hs,_,_=>by simp [AV.loose] at hs
 |.vw _ _ _ _ _ _,_,hs,_,_=>by simp [AV.loose] at hs
 |.ep _,_,hs,_,_=>by simp [AV.loose] at hs
 |.cl _,_,hs,_,_=>by simp [AV.loose] at hs
 |.fn f cs,v,hs,hn,hv=>by
  simp only [aj] at hv ⊢;obtain ⟨vs,h1,h2⟩:=hv
  exact ⟨vs,h1,lY h hd cs vs (by simpa [AV.loose] using hs) (by simpa [AV.bP] using hn) h2⟩
 |.sI t x,v,hs,hn,hv=>by
  simp only [aj] at hv ⊢;obtain ⟨u,h1,h2⟩:=hv
  exact ⟨u,h1,CL h hd x u (by simpa [AV.loose] using hs) (by simpa [AV.bP] using hn) h2⟩
 |.cond _ _,_,hs,_,_=>by simp [AV.loose] at hs
theorem lY {ok ok':Nat→Prop} {jP:List az} {dt:Bool} (h:∀b,cg jP b→β' b=β b∧cg aR b) (hd:dt=true→∀d v,aK w ok d v→aK w' ok' d v):∀(xs:List AV) (vs:List Value),AV.nj dt xs=true→AV.bP.c5 jP xs=true→ak β bx w ok xs vs→ak β' aR w' ok' xs vs
 |[],vs,_,_,hv=>by simpa [ak] using hv
 |x::xs,vs,hs,hn,hv=>by
  simp only [ak] at hv ⊢
  obtain ⟨u,us,h1,h2,h3⟩:=hv
  simp only [AV.nj] at hs
  simp only [AV.bP.c5,Bool.and_eq_true] at hn
  cases hx:x.loose dt with
  |false=>simp [hx] at hs
  |true=>
   simp only [hx,cond_true] at hs
   exact ⟨u,us,h1,CL h hd x u hx hn.1 h2,lY h hd xs us hs hn.2 h3⟩
end
mutual
theorem wo {ok ok':Nat→Prop} {jP:List az} (h:∀blk,ok blk→ok' blk):∀(x:AV) (v:Value),x.bP jP=true→aj β bx w ok x v→aj β jP w ok' x v
 |.any,_,_,_=>by simp [aj]
 |.d x,v,_,hv=>by simp only [aj] at hv ⊢;exact aK.mono (fun blk hb=>⟨h blk hb,rfl⟩) _ _ hv
 |.k c,v,_,hv=>by simpa [aj] using hv
 |.agg cs,v,hs,hv=>by
  simp only [aj] at hv ⊢;obtain ⟨vs,h1,h2⟩:=hv
  exact ⟨vs,h1,lZ h cs vs (by simpa [AV.bP] using hs) h2⟩
 |.eE cs,v,hs,hv=>by
  simp only [aj] at hv ⊢;obtain ⟨vs,h1,h2⟩:=hv
  exact ⟨vs,h1,lZ h cs vs (by simpa [AV.bP] using hs) h2⟩
 |.ptr b off,v,hs,hv=>by
  have g:=lX (by simpa [AV.bP] using hs)
  simp only [aj] at hv ⊢;exact ⟨hv.1,g⟩
 |.rp b sz i j,v,hs,hv=>by
  have g:=lX (by simpa [AV.bP] using hs)
  simp only [aj] at hv ⊢;exact ⟨hv.1,g⟩
 |.zG b,v,hs,hv=>by
  have g:=lX (by simpa [AV.bP] using hs)
  simp only [aj] at hv ⊢;exact ⟨hv.1,g⟩
 |.ow b sz m,v,hs,hv=>by
  have g:=lX (by simpa [AV.bP] using hs)
  simp only [aj] at hv ⊢;exact ⟨g,hv.2⟩
 |.vw b sz off m c ex,v,hs,hv=>by
  have g:=lX (by simpa [AV.bP] using hs)
  simp only [aj] at hv ⊢;exact ⟨g,hv.2⟩
 |.ep ds,v,_,hv=>by
  simp only [aj] at hv ⊢;obtain ⟨blk,off,h1,h2,h3⟩:=hv
  exact ⟨blk,off,h1,h blk h2,bf.mono (fun blk hb=>⟨h blk hb,rfl⟩) blk (fun _=>rfl) _ _ h3⟩
 |.cl es,v,_,hv=>by
  simp only [aj] at hv ⊢;obtain ⟨base,h1,h2⟩:=hv
  refine ⟨base,h1,h2.imp id ?_⟩
  rintro ⟨blk,off,sz,e1,e2,e3⟩
  exact ⟨blk,off,sz,e1,h blk e2,ax.mono (fun blk hb=>⟨h blk hb,rfl⟩) blk sz (fun _=>rfl) _ _ e3⟩
 |.fn f cs,v,hs,hv=>by
  simp only [aj] at hv ⊢;obtain ⟨vs,h1,h2⟩:=hv
  exact ⟨vs,h1,lZ h cs vs (by simpa [AV.bP] using hs) h2⟩
 |.sI t x,v,hs,hv=>by
  simp only [aj] at hv ⊢;obtain ⟨u,h1,h2⟩:=hv
  exact ⟨u,h1,wo h x u (by simpa [AV.bP] using hs) h2⟩
 |.cond p x,v,hs,hv=>by
  simp only [aj] at hv ⊢
  exact ⟨fun hp=>wo h x v (by simpa [AV.bP] using hs) (hv.1 hp),hv.2⟩
theorem lZ {ok ok':Nat→Prop} {jP:List az} (h:∀blk,ok blk→ok' blk):∀(xs:List AV) (vs:List Value),AV.bP.c5 jP xs=true→ak β bx w ok xs vs→ak β jP w ok' xs vs
 |[],vs,_,hv=>by simpa [ak] using hv
 |x::xs,vs,hs,hv=>by
  simp only [ak] at hv ⊢
  obtain ⟨u,us,h1,h2,h3⟩:=hv
  simp only [AV.bP.c5,Bool.and_eq_true] at hs
  exact ⟨u,us,h1,wo h x u hs.1 h2,lZ h xs us hs.2 h3⟩
end
theorem l5 {dt:Bool} {jP:List az}:∀{bs:List az} {i:Nat} {b:az},dP dt jP bs=true→bs[i]?=some b→(∃cs,b=.var cs∧AV.nj dt cs=true∧AV.bP.c5 jP cs=true)∨b=.dead∨b=.bB
 |[],i,b,_,hi=>by simp at hi
 |b0::bs,i,b,h,hi=>by
  have hr:dP dt jP bs=true∧((∃cs,b0=.var cs∧AV.nj dt cs=true∧AV.bP.c5 jP cs=true)∨b0=.dead∨b0=.bB):=by
   cases b0 with
   |var cs=>
    simp only [dP] at h
    cases hc:(AV.nj dt cs&&AV.bP.c5 jP cs) with
    |false=>simp [hc] at h
    |true=>simp only [hc,cond_true] at h;simp at hc;exact ⟨h,.inl ⟨cs,rfl,hc.1,hc.2⟩⟩
   |dead=>exact ⟨h,.inr (.inl rfl)⟩
   |bB=>exact ⟨h,.inr (.inr rfl)⟩
   |_=>simp [dP] at h
  cases i with
  |zero=>simp only [List.getElem?_cons_zero,osI] at hi;subst hi;exact hr.2
  |succ i=>simp only [List.getElem?_cons_succ] at hi;exact l5 hr.1 hi
theorem Ac {x:AV} {i:Nat} {b:az} (h:(x.cG bx)[i]?=some b):bx[i]?=some b∨∃s es,bx[i]?=some (.row s es)∧b=.nE s es:=by
 have go:∀k:Nat,(match bx[k]? with|some (.row s es)=>bx.set k (.nE s es)|_=>bx)[i]?=some b→bx[i]?=some b∨∃s es,bx[i]?=some (.row s es)∧b=.nE s es:=by
  intro k h
  split at h
  ·rename_i s es hk
   rcases aL h with ⟨rfl,rfl,_⟩|⟨_,h2⟩
   ·exact .inr ⟨s,es,hk,rfl⟩
   exact .inl h2
  exact .inl h
 cases x with
 |ow k _ _=>exact go k h
 |vw k _ _ _ _ _=>exact go k h
 |_=>exact .inl h
theorem CM:∀{xs:List AV} {bx:List az} {i:Nat} {b:az},(eF bx xs)[i]?=some b→bx[i]?=some b∨∃s es,bx[i]?=some (.row s es)∧b=.nE s es
 |[],_,_,_,h=>.inl h
 |x::xs,bx,i,b,h=>by
  rcases CM (xs:=xs) (bx:=x.cG bx) h with h1|⟨s,es,h1,rfl⟩
  ·exact Ac h1
  rcases Ac h1 with h2|⟨_,_,_,h3⟩
  ·exact .inr ⟨s,es,h2,rfl⟩
  cases h3
theorem tI:∀{xs:List AV} {bx:List az} {i:Nat} {b:az},(fw bx xs)[i]?=some b→bx[i]?=some b∨∃s es,bx[i]?=some (.row s es)∧b=.nE s es
 |[],_,_,_,h=>.inl h
 |x::xs,bx,i,b,h=>by
  have one:∀{b:az},(lK bx x)[i]?=some b→bx[i]?=some b∨∃s es,bx[i]?=some (.row s es)∧b=.nE s es:=by
   intro b h
   cases x with
   |agg cs=>exact CM h
   |_=>simp only [lK] at h;exact Ac h
  rcases tI (xs:=xs) (bx:=lK bx x) h with h1|⟨s,es,h1,rfl⟩
  ·exact one h1
  rcases one h1 with h2|⟨_,_,_,h3⟩
  ·exact .inr ⟨s,es,h2,rfl⟩
  cases h3
theorem xT {f:Nat} {args:List AV} {vs:List Value} {v:AV} (cx:cI G β bx w X) (hx:ak β bx w (bt β bx w X) args vs) (h:mO (bC P G) f args bx v):
 jA P f ⟨vs⟩ w fun e w'=>∃u,e=.returned u∧Ext β bx w β bx w'∧cI G β bx w' X∧aj β bx w' (bt β bx w' X) v u:=by
 obtain ⟨nM,jP,hz,hnm,⟨dt,hl,hdt⟩,hin,hf,hv⟩:=h
 obtain ⟨e1,cxS,hargs⟩:=lI args bx nM vs cx hz hx
 have cA:∀(i:Nat) (b:az),jP[i]?=some b→b.live=true→bx[i]?=some b:=by
  intro i b hi hb
  obtain ⟨b',h1,h2,h3⟩:=hin i b hi (rV hb)
  rw [h3 hb] at h1;exact h1
 have dF:∀i,cg jP i→cg bx i:=by
  rintro i ⟨b,h1,h2⟩
  obtain ⟨b',h3,h4,_⟩:=hin i b h1 h2
  exact ⟨b',h3,h4⟩
 have W6:∀(i:Nat) (b:az),(fw bx args)[i]?=some b→b.live=true→bx[i]?=some b:=by
  intro i b hi hb
  rcases tI hi with h1|⟨s,es,_,rfl⟩
  ·exact h1
  simp [az.live] at hb
 have UE:∀(i:Nat) (b:az),jP[i]?=some b→b.live=true→∃cs,b=.var cs∧AV.nj dt cs=true∧AV.bP.c5 jP cs=true:=by
  intro i b hi hb
  rcases l5 hl hi with h1|rfl|rfl
  ·exact h1
  ·simp [az.live] at hb
  simp [az.live] at hb
 let XV:Nat→Prop:=fun blk=>X blk∨∃(i:Nat) (b:az),(fw bx args)[i]?=some b∧b.live=true∧(∀b',jP[i]?=some b'→b'.live=false)∧β i=blk
 have hok:∀blk,bt β (fw bx args) w X blk→bt β jP w XV blk:=by
  rintro blk ⟨k1,k2,k3⟩
  refine ⟨k1,?_,?_⟩
  ·rintro (hX|⟨i,b,h1,h2,_,h3⟩)
   ·exact k2 hX
   exact k3 i b h1 h2 h3
  intro i b hi hb he
  obtain ⟨cs,rfl,_⟩:=UE i b hi hb
  have rX:=cA i _ hi hb
  obtain ⟨_,b',hb',_⟩:=e1.born i ⟨_,rX,rfl⟩
  rcases tI hb' with h4|⟨s,es,h4,_⟩
  ·rw [rX] at h4;cases h4
   exact k3 i _ hb' rfl he
  rw [rX] at h4;cases h4
 have LA:∀{β1:Nat→Nat} {w':World},eX [] args=some nM→Ext β jP w β1 jP w'→∀blk,bt β1 jP w' XV blk→bt β bx w' X blk:=by
  rintro β1 w' Ph z6 blk ⟨k1,k2,k3⟩
  refine ⟨k1,fun hX=>k2 (.inl hX),?_⟩
  intro i b hi hb he
  by_cases hk:∃b',jP[i]?=some b'∧b'.live=true
  ·obtain ⟨b',h1,h2⟩:=hk
   refine k3 i b' h1 h2 ?_
   rw [(z6.born i ⟨b',h1,rV h2⟩).1];exact he
  refine k2 (.inr ⟨i,b,by rw [j8 bx Ph];exact hi,hb,?_,he⟩)
  intro b' hb'
  cases hq:b'.live with
  |false=>rfl
  |true=>exact absurd ⟨b',hb',hq⟩ hk
 have cxV:cI G β jP w XV:=by
  refine ⟨?_,?_,?_,?_,?_⟩
  ·rintro blk (hX|⟨i,b,h1,h2,_,rfl⟩)
   ·exact cx.xs blk hX
   exact dj.eU (cx.box i b (W6 i b h1 h2)) h2
  ·intro g ds hg
   obtain ⟨k1,k2⟩:=cxS.yU g ds hg
   exact ⟨hok g k1,bf.mono (fun blk hb=>⟨hok blk hb,rfl⟩) g (fun _=>rfl) _ _ k2⟩
  ·intro i j bi bj hi hj li lj
   exact cx.inj i j bi bj (cA i bi hi li) (cA j bj hj lj) li lj
  ·intro i b hi
   rcases l5 hl hi with ⟨cs,rfl,hcs,eV⟩|rfl|rfl
   ·have hb:=cx.box i _ (cA i _ hi rfl)
    simp only [dj] at hb ⊢
    obtain ⟨c,e,g1,g2⟩:=hb
    exact ⟨c,e,g1,lY (jP:=jP) (fun b hb=>⟨rfl,hb⟩) (fun hd d v hv=>aK.mono (fun blk hb=>⟨hok blk (by rw [j8 bx (hdt hd)];exact hb),rfl⟩) d v hv) cs _ hcs eV g2⟩
   ·trivial
   trivial
  intro i b hi hb
  rintro (hX|⟨j,b2,h1,h2,h3,h4⟩)
  ·exact cx.apart i b (cA i b hi hb) hb hX
  have:j=i:=cx.inj j i b2 b (W6 j b2 h1 h2) (cA i b hi hb) h2 hb h4
  subst this
  rw [h3 b hi] at hb;cases hb
 have Vm:ak β jP w (bt β jP w XV) nM vs:=lZ hok _ _ hnm hargs
 refine jA.mono (hf β w vs XV cxV Vm) ?_
 rintro e w' ⟨β1,z6,Xy,hres⟩
 have ex:Ext β bx w β bx w':=⟨z6.os,z6.tape,z6.output,z6.size,fun k hk hn=>z6.block k hk (fun i b hi hb=>hn i b (cA i b hi hb) hb),z6.shape,fun i hi=>⟨rfl,hi⟩,fun i b h1 h2=>.inr ⟨i,b,h1,h2,rfl⟩⟩
 cases e with
 |returned u=>
  refine ⟨u,rfl,ex,cx.step ex ?_ cx.inj,?_⟩
  ·intro i b hi
   by_cases hk:∃b',jP[i]?=some b'∧b'.live=true
   ·obtain ⟨b',h1,h2⟩:=hk
    have h3:=cA i b' h1 h2
    rw [hi] at h3;cases h3
    obtain ⟨cs,rfl,hcs,eV⟩:=UE i b h1 h2
    refine .inr ?_
    have hb:=Xy.box i _ h1
    simp only [dj] at hb ⊢
    obtain ⟨c,e,g1,g2⟩:=hb
    have xJ:cg jP i:=⟨_,h1,rfl⟩
    rw [(z6.born i xJ).1] at g1
    exact ⟨c,e,g1,lY (jP:=jP) (fun b hb=>⟨((z6.born b hb).1).symm,dF b hb⟩) (fun hd d v hv=>aK.mono (fun blk hb=>⟨LA (hdt hd) z6 blk hb,rfl⟩) d v hv) cs _ hcs eV g2⟩
   refine .inl ⟨hi,fun hlv=>z6.block _ (dj.eU (cx.box i b hi) hlv) ?_⟩
   intro j b2 hj uS he
   have:=cx.inj j i b2 b (cA j b2 hj uS) hi uS hlv he
   subst this
   exact hk ⟨b2,hj,uS⟩
  rcases hv with hfl|⟨Ph,hsh⟩
  ·exact FN v u hfl hres
  refine qz ?_ v u hsh hres
  rintro blk ⟨k1,k2,k3⟩
  refine ⟨k1,fun hX=>k2 (.inl hX),?_⟩
  intro i b hi hb he
  by_cases hk:∃b',jP[i]?=some b'∧b'.live=true
  ·obtain ⟨b',h1,h2⟩:=hk
   refine k3 i b' h1 h2 ?_
   rw [(z6.born i ⟨b',h1,rV h2⟩).1];exact he
  refine k2 (.inr ⟨i,b,by rw [j8 bx Ph];exact hi,hb,?_,he⟩)
  intro b' hb'
  cases hq:b'.live with
  |false=>rfl
  |true=>exact absurd ⟨b',hb',hq⟩ hk
 |panicked ch=>exact hres.elim
 |outgrown=>exact hres.elim
theorem lg {f:Nat} {args:List AV} {vs:List Value} {v:AV} {K:AV→List az→Prop} (cx:cI G β bx w X) (hx:ak β bx w (bt β bx w X) args vs) (h:mO (bC P G) f args bx v) (hK:K v bx):
 jA P f ⟨vs⟩ w fun e w'=>∃β' aR v u,e=.returned u∧Ext β bx w β' aR w'∧cI G β' aR w' X∧aj β' aR w' (bt β' aR w' X) v u∧K v aR:=
 jA.mono (xT cx hx h) fun _ _ ⟨u,h1,h2,h3,h4⟩=>⟨β,bx,v,u,h1,h2,h3,h4,hK⟩
end
end Dem
end
section
open Go
namespace Dem
section
variable {P:Program} {T:Nat→Option TI} {G:Nat→Option (List D)} {β:Nat→Nat} {bx:List az} {w:World} {X:Nat→Prop}
theorem Pj {a b:D} (h:nG a b=true):a=b:=by
 cases a<;>cases b<;>simp [nG] at h
 ·rw [h.1,h.2]
 rw [h]
theorem FV {d:TypeDesc} {a b:D} {u v:Value} {ok:Nat→Prop} (ha:nF (cW d) a=true) (hb:nF (cW d) b=true) (hu:aK w ok a u) (hv:aK w ok b v):Instr.sameNow d u v=some (nG a b):=by
 cases d<;>cases a<;>simp [cW,nF] at ha<;>cases b<;>simp [cW,nF] at hb<;>simp only [aK] at hu hv<;>subst hu hv
 ·subst ha hb;simp only [Instr.sameNow,nG,if_true,beq_self_eq_true,Bool.true_and];congr 1
 rename_i a b
 have:(⟨a.toArray⟩:ByteArray)=⟨b.toArray⟩↔a=b:=by
  constructor
  ·intro h;simpa using h
  rintro rfl;rfl
 by_cases h:a=b
 ·subst h;simp only [Instr.sameNow,nG];congr 1;show (a.toArray==a.toArray)=decide True;simp
 have h2:¬((⟨a.toArray⟩:ByteArray)=⟨b.toArray⟩):=fun e=>h (this.1 e)
 simp only [Instr.sameNow,nG];congr 1;show (a.toArray==b.toArray)=decide (a=b);rw [show decide (a=b)=false by simp [h]];exact beq_eq_false_iff_ne.2 (fun e=>h (by simpa using e))
theorem MP {kd:Kd} {a:D} {u v:Value} {ok:Nat→Prop} (ha:nF kd a=true) (hu:aK w ok a u) (hv:aK w ok a v):u=v:=by
 cases a<;>cases kd<;>simp [nF] at ha<;>simp only [aK] at hu hv<;>rw [hu,hv]
theorem qB {d:TypeDesc} {ag:Bool} {n:Nat} {k:D} {kv:Value} {ok:Nat→Prop} (hk:nF (cW d) k=true) (hkv:aK w ok k kv):
 ∀(es:List (List D)) (ms:List MapEntry) (i:Nat),bp w ok ag es ms→(∀r∈es,rowIs (cW d) n r)→
  (qp es k=none∧Instr.findNow d kv ms i=some none∧∀v,sK es k v=es++[k::v])∨
  (∃(j:Nat) (m:MapEntry) (ds:List D),Instr.findNow d kv ms i=some (some (i+j,m.val))∧ms[j]?=some m∧qp es k=some ds∧ds.length=n∧m.key=kv∧gB w ok ag (k::ds) m∧∀v,sK es k v=es.set j (k::v))
 |[],ms,i,h,_=>by
  simp only [bp] at h;subst h
  exact .inl ⟨rfl,rfl,fun _=>rfl⟩
 |r::rs,ms,i,h,hr=>by
  simp only [bp] at h
  obtain ⟨m,Fg,rfl,h1,h2⟩:=h
  obtain ⟨x,ds,rfl,hx,hl⟩:=hr r (by simp)
  have Lw:=h1
  simp only [gB] at h1
  obtain ⟨g1,g2⟩:=h1
  have hs:=FV hk hx hkv g1
  simp only [qp,sK,Instr.findNow,hs]
  cases he:nG k x with
  |true=>
   obtain rfl:=Pj he
   refine .inr ⟨0,m,ds,by simp,by simp,by simp,hl,MP hk g1 hkv,Lw,fun v=>by simp⟩
  |false=>
   simp only [cond_false]
   rcases qB hk hkv rs Fg (i+1) h2 (fun r hr'=>hr r (by simp [hr'])) with ⟨k1,k2,k3⟩|⟨j,m',ds',k1,k2,k3,k4,k5,k6,k7⟩
   ·exact .inl ⟨k1,k2,fun v=>by rw [k3];rfl⟩
   refine .inr ⟨j+1,m',ds',?_,by simpa using k2,k3,k4,k5,k6,fun v=>by rw [k7];rfl⟩
   rw [k1,show i+1+j=i+(j+1) by omega]
theorem run_checkKey {e:Bool} {t:Nat} {d:TypeDesc} {k:D} {kv:Value} {ok:Nat→Prop} (ht:P.underlying t=some d) (hk:nF (cW d) k=true) (hkv:aK w ok k kv):(Instr.checkKey e 10000 t kv).run P w=.ok () w:=by
 show (Instr.checkKey e (9999+1) t kv).run P w=.ok () w
 unfold Instr.checkKey
 cases d<;>cases k<;>simp [cW,nF] at hk<;>simp only [aK] at hkv<;>subst hkv<;>simp [aV ht]
theorem run_findKey {t:Nat} {d:TypeDesc} {kv:Value} {ms:List MapEntry} {r:Option (Nat×Value)} (ht:P.underlying t=some d) (h:Instr.findNow d kv ms 0=some r):(Instr.findKey t kv ms).run P w=.ok r w:=by
 unfold Instr.findKey
 simp [aV ht,h]
theorem bp.append {ag:Bool} {ok:Nat→Prop}:∀{es:List (List D)} {ms:List MapEntry} {fs:List (List D)} {ns:List MapEntry},bp w ok ag es ms→bp w ok ag fs ns→bp w ok ag (es++fs) (ms++ns)
 |[],ms,fs,ns,h,g=>by simp only [bp] at h;subst h;exact g
 |r::rs,ms,fs,ns,h,g=>by
  simp only [bp] at h
  obtain ⟨m,Fg,rfl,h1,h2⟩:=h
  simp only [List.cons_append,bp]
  exact ⟨m,_,rfl,h1,h2.append g⟩
theorem bp.set {ag:Bool} {ok:Nat→Prop} {r:List D} {m:MapEntry} (hm:gB w ok ag r m):∀{es:List (List D)} {ms:List MapEntry} (j:Nat),bp w ok ag es ms→bp w ok ag (es.set j r) (ms.set j m)
 |[],ms,j,h=>by simp only [bp] at h;subst h;simp [bp]
 |x::xs,ms,0,h=>by
  simp only [bp] at h
  obtain ⟨m',Fg,rfl,h1,h2⟩:=h
  simp only [List.set_cons_zero,bp]
  exact ⟨m,Fg,rfl,hm,h2⟩
 |x::xs,ms,j+1,h=>by
  simp only [bp] at h
  obtain ⟨m',Fg,rfl,h1,h2⟩:=h
  simp only [List.set_cons_succ,bp]
  exact ⟨m',_,rfl,h1,bp.set hm j h2⟩
theorem cD.XD {ok:Nat→Prop}:∀{ds:List D} {vs:List Value},cD w ok ds vs→ak β bx w ok (ds.map .d) vs
 |[],vs,h=>by simp only [cD] at h;subst h;simp [ak]
 |d::ds,vs,h=>by
  simp only [cD] at h
  obtain ⟨v,r,rfl,h1,h2⟩:=h
  simp only [List.map_cons,ak]
  exact ⟨v,r,rfl,by simpa [aj] using h1,h2.XD⟩
theorem cD.length {ok:Nat→Prop}:∀{ds:List D} {vs:List Value},cD w ok ds vs→vs.length=ds.length
 |[],vs,h=>by simp only [cD] at h;subst h;rfl
 |d::ds,vs,h=>by
  simp only [cD] at h
  obtain ⟨v,r,rfl,_,h2⟩:=h
  simp [cD.length h2]
theorem gB.val {ag:Bool} {ok:Nat→Prop} {k:D} {ds:List D} {m:MapEntry} (h:gB w ok ag (k::ds) m) {n:Nat} (hn:ds.length=n) {v:AV} (hv:cL ag n (ds.map .d)=some v):aj β bx w ok v m.val:=by
 simp only [gB] at h
 obtain ⟨_,cs,h2,h3,h4⟩:=h
 have hl:=h4.length
 have ha:=h4.XD (β:=β) (bx:=bx)
 cases ag with
 |true=>
  simp only [cL,cond_true] at hv
  rw [cond_true] at h2
  have hle:Nat.ble n (ds.map AV.d).length=true:=by simp [hn]
  simp only [hle,cond_true,osI] at hv
  subst hv
  rw [h2];simp only [aj]
  refine ⟨cs,rfl,?_⟩
  rw [List.take_of_length_le (by simp [hn])];exact ha
 |false=>
  simp only [cL,cond_false] at hv
  rw [cond_false] at h2
  have h1:=h3 rfl
  obtain ⟨c,rfl⟩:∃c,cs=[c]:=by
   match cs,h1 with
   |[c],_=>exact ⟨c,rfl⟩
  cases ds with
  |nil=>simp at hl
  |cons d ds=>
   simp at hv;subst hv
   rw [h2]
   simp only [List.map_cons,ak] at ha
   obtain ⟨u,us,e,g,_⟩:=ha
   simp at e;obtain ⟨rfl,rfl⟩:=e
   simpa [aj] using g
theorem zj {r c:Nat} {es:Array MapEntry} (h:w.heap[r]?=some (.map es c)):(getObj r).run P w=.ok (.map es c) w:=by simp [getObj,Sem.run,h]
theorem run_setObj_map {r c:Nat} {es:Array MapEntry} (o:Obj) (h:w.heap[r]?=some (.map es c)):(setObj r o).run P w=.ok () {w with heap:=w.heap.setIfInBounds r o}:=by simp [setObj,Sem.run,h]
theorem CN (hT:kw P T) (cx:cI G β bx w X) {ty:Nat} {m:AV} {u:Value} {tk te:TI} {ag:Bool} {es:List (List D)} (h:zM T ty m bx=some (tk,te,ag,es)) (hu:aj β bx w (bt β bx w X) m u):
 ∃(kt et:Nat) (dk:TypeDesc),P.underlying ty=some (.map kt et)∧P.underlying kt=some dk∧tk.kd=cW dk∧qb P et=some te∧
  ((u=.map none∧es=[])∨∃r ms clock,u=.map (some r)∧w.heap[r]?=some (.map ms clock)∧kF ms clock∧bp w (bt β bx w X) ag es ms.toList):=by
 unfold zM at h
 split at h
 ·rename_i ti ht
  obtain ⟨i,d,h1,h2,h3,h4,h5,h6⟩:=aJ (hT.ti _ _ ht)
  split at h
  ·rename_i k e hk
   rw [h5] at hk
   cases d<;>simp [cW] at hk
   obtain ⟨zi,hk2⟩:=hk
   rw [zi,hk2] at h2
   have fin:∀{LB Vn:TI} {R9:Bool} {es':List (List D)},T k=some LB→T e=some Vn→(LB,Vn,R9,es')=(tk,te,ag,es)→
    ((u=.map none∧es=[])∨∃r ms clock,u=.map (some r)∧w.heap[r]?=some (.map ms clock)∧kF ms clock∧bp w (bt β bx w X) ag es ms.toList)→∃(kt et:Nat) (dk:TypeDesc),P.underlying ty=some (.map kt et)∧P.underlying kt=some dk∧tk.kd=cW dk∧qb P et=some te∧
    ((u=.map none∧es=[])∨∃r ms clock,u=.map (some r)∧w.heap[r]?=some (.map ms clock)∧kF ms clock∧bp w (bt β bx w X) ag es ms.toList):=by
    intro LB Vn R9 es' a1 a2 a3 a4
    simp only [Prod.mk.injEq] at a3
    obtain ⟨rfl,rfl,rfl,rfl⟩:=a3
    obtain ⟨_,dk,_,b2,_,_,b5,_⟩:=aJ (hT.ti _ _ a1)
    exact ⟨k,e,dk,h2,b2,b5,hT.ti _ _ a2,a4⟩
   split at h
   ·rename_i LB Vn R9 es' a1 a2
    simp only [osI] at h
    refine fin a1 a2 h ?_
    simp only [Prod.mk.injEq] at h
    obtain ⟨rfl,rfl,rfl,rfl⟩:=h
    simp only [aj,aK] at hu
    obtain ⟨r,ms,clock,g1,_,g2,g3,g4⟩:=hu
    exact .inr ⟨r,ms,clock,g1,g2,g3,g4⟩
   ·rename_i LB Vn a1 a2
    simp only [osI] at h
    refine fin a1 a2 h ?_
    simp only [Prod.mk.injEq] at h
    obtain ⟨rfl,rfl,rfl,rfl⟩:=h
    simp only [aj,KC.val] at hu
    exact .inl ⟨hu,rfl⟩
   ·rename_i LB Vn b a1 a2
    split at h
    ·rename_i R9 es' hb
     simp only [osI] at h
     refine fin a1 a2 h ?_
     simp only [Prod.mk.injEq] at h
     obtain ⟨rfl,rfl,rfl,rfl⟩:=h
     simp only [aj] at hu
     obtain ⟨ms,clock,g2,g3,g4⟩:=cx.box b _ hb
     exact .inr ⟨β b,ms,clock,hu.1,g2,g3,g4⟩
    cases h
   cases h
  cases h
 cases h
theorem Ja (hT:kw P T) (cx:cI G β bx w X) {ty:Nat} {m:AV} {u kv:Value} {k:D} {tk te:TI} {ag Cc:Bool} {es:List (List D)} (h:zM T ty m bx=some (tk,te,ag,es)) (hu:aj β bx w (bt β bx w X) m u)
 (hkv:aK w (bt β bx w X) k kv) (hf:vY tk te ag es k) {K:AV→Prop} (hK:oD te Cc K (qp es k)):
 ∃v x,(Instr.lookup ty u kv Cc).run P w=.ok x w∧aj β bx w (bt β bx w X) v x∧K v:=by
 obtain ⟨kt,et,dk,u1,u2,u3,u4,hu⟩:=CN hT cx h hu
 obtain ⟨f1,f2,f3⟩:=hf
 rw [u3] at f2 f3
 have none_:∀ms:Array MapEntry,(∃e:Bool,Instr.findNow dk kv ms.toList 0=some none)→qp es k=none→(u=.map none∧ms=#[]∨∃r clock,u=.map (some r)∧w.heap[r]?=some (.map ms clock))→
  ∃v x,(Instr.lookup ty u kv Cc).run P w=.ok x w∧aj β bx w (bt β bx w X) v x∧K v:=by
  rintro ms ⟨_,hfn⟩ hg hms
  rw [hg] at hK
  simp only [oD] at hK
  split at hK
  ·rename_i z hz
   obtain ⟨zv,z1,z2⟩:=FI (β:=β) (bx:=bx) (w:=w) (ok:=bt β bx w X) u4 hz
   refine ⟨_,bif Cc then .tuple #[zv,.bool false] else zv,?_,?_,hK⟩
   ·rcases hms with ⟨rfl,rfl⟩|⟨r,clock,rfl,hh⟩
    ·unfold Instr.lookup
     cases Cc<;>simp [aV u1,run_checkKey u2 f2 hkv,run_findKey (w:=w) u2 hfn,z1]
    unfold Instr.lookup
    cases Cc<;>simp [aV u1,zj hh,run_checkKey u2 f2 hkv,run_findKey (w:=w) u2 hfn,z1]
   cases Cc with
   |true=>simp only [cond_true,aj,ak,aK];exact ⟨_,rfl,_,_,rfl,z2,_,_,rfl,rfl,rfl⟩
   |false=>exact z2
  exact hK.elim
 rcases hu with ⟨rfl,rfl⟩|⟨r,ms,clock,rfl,hh,hst,Pk⟩
 ·exact none_ #[] ⟨true,rfl⟩ rfl (.inl ⟨rfl,rfl⟩)
 rcases qB f2 hkv es ms.toList 0 Pk f3 with ⟨k1,k2,_⟩|⟨j,e,ds,k1,k2,k3,k4,k5,k6,_⟩
 ·exact none_ ms ⟨true,k2⟩ k1 (.inr ⟨r,clock,rfl,hh⟩)
 rw [k3] at hK
 simp only [oD] at hK
 split at hK
 ·rename_i v hv
  have hvv:=k6.val (β:=β) (bx:=bx) k4 (by rw [←f1] at hv;exact hv)
  refine ⟨_,bif Cc then .tuple #[e.val,.bool true] else e.val,?_,?_,hK⟩
  ·unfold Instr.lookup
   cases Cc<;>simp [aV u1,zj hh,run_checkKey u2 f2 hkv,run_findKey (w:=w) u2 k1]
  cases Cc with
  |true=>simp only [cond_true,aj,ak,aK];exact ⟨_,rfl,_,_,rfl,hvv,_,_,rfl,rfl,rfl⟩
  |false=>exact hvv
 exact hK.elim
theorem Ad {b:Nat} {B B':az} {o o':Obj} (hb:bx[b]?=some B) (hl:B.live=true) (hl':B'.live=true) (hh:w.heap[β b]?=some o) (ho:∀c e f,o≠.cells c e f):
 Ext β bx w β (bx.set b B') {w with heap:=w.heap.setIfInBounds (β b) o'}:=by
 refine ⟨rfl,rfl,rfl,by simp,?_,?_,fun i hi=>⟨rfl,iC (rV hl') hi⟩,?_⟩
 ·intro k hk hlk
  have hne:β b≠k:=hlk b _ hb hl
  simp [Array.getElem?_setIfInBounds_ne hne]
 ·intro k c e f hk
  have hne:β b≠k:=by rintro rfl;rw [hh] at hk;cases hk;exact ho c e f rfl
  exact ⟨c,by simp [Array.getElem?_setIfInBounds_ne hne,hk],rfl⟩
 intro i Bi hi mH
 rcases aL hi with ⟨rfl,_,_⟩|⟨_,h⟩
 ·exact .inr ⟨i,_,hb,hl,rfl⟩
 exact .inr ⟨i,Bi,h,mH,rfl⟩
theorem Jc (cx:cI G β bx w X) {b:Nat} {B B':az} {o o':Obj} (hb:bx[b]?=some B) (hl:B.live=true) (hl':B'.live=true) (hh:w.heap[β b]?=some o) (ho:∀c e f,o≠.cells c e f)
 (hB:dj β (bx.set b B') {w with heap:=w.heap.setIfInBounds (β b) o'} (bt β (bx.set b B') {w with heap:=w.heap.setIfInBounds (β b) o'} X) B' (β b)):
 cI G β (bx.set b B') {w with heap:=w.heap.setIfInBounds (β b) o'} X:=by
 refine cx.step (Ad hb hl hl' hh ho) ?_ ?_
 ·intro i Bi hi
  rcases aL hi with ⟨rfl,rfl,_⟩|⟨hne,h⟩
  ·exact .inr hB
  refine .inl ⟨h,fun mH=>?_⟩
  have O8:β b≠β i:=fun he=>hne (cx.inj b i _ Bi hb h hl mH he).symm
  simp [Array.getElem?_setIfInBounds_ne O8]
 intro i j bi bj hi hj mH oM he
 rcases aL hi with ⟨rfl,rfl,_⟩|⟨h1,h2⟩<;>rcases aL hj with ⟨rfl,rfl,_⟩|⟨h3,h4⟩
 ·rfl
 ·exact cx.inj _ _ _ _ hb h4 hl oM he
 ·exact cx.inj _ _ _ _ h2 hb mH hl he
 exact cx.inj _ _ _ _ h2 h4 mH oM he
theorem SB {ok:Nat→Prop} {x:AV} {y:D} {u:Value} (hn:cH [x]=true) (h:x.sJ bx=some y) (hx:aj β bx w ok x u):aK w ok y u:=by
 cases x with
 |d x=>simp only [AV.sJ,osI] at h;subst h;simpa [aj] using hx
 |cl es=>
  simp only [AV.sJ,osI] at h;subst h
  simp only [aj] at hx
  obtain ⟨base,rfl,g⟩:=hx
  simp only [aK];exact ⟨base,_,rfl,Nat.le_refl _,g⟩
 |ow b sz n=>simp [cH] at hn
 |fn f cs=>
  cases cs with
  |nil=>
   simp only [AV.sJ,osI] at h;subst h
   simp only [aj,ak] at hx
   obtain ⟨vs,rfl,rfl⟩:=hx
   simp [aK,zO]
  |cons c cs=>simp [AV.sJ] at h
 |_=>simp [AV.sJ] at h
theorem D6 {x:AV} {xs:List AV} (h:cH (x::xs)=true):cH [x]=true∧cH xs=true:=by
 cases x<;>simp_all [cH]
theorem Ae {ok:Nat→Prop}:∀{xs:List AV} {ys:List D} {us:List Value},cH xs=true→iS bx xs=some ys→ak β bx w ok xs us→cD w ok ys us
 |[],ys,us,_,h,hx=>by simp [iS] at h;subst h;simp only [ak] at hx;subst hx;simp [cD]
 |x::xs,ys,us,hn,h,hx=>by
  simp only [iS] at h
  split at h
  ·rename_i y ys' h1 h2
   simp only [osI] at h;subst h
   simp only [ak] at hx
   obtain ⟨u,OW,rfl,g1,g2⟩:=hx
   obtain ⟨n1,n2⟩:=D6 hn
   simp only [cD]
   exact ⟨u,OW,rfl,SB n1 h1 g1,Ae n2 h2 g2⟩
  simp at h
theorem D7 {kd:Kd} {k:D} {kv:Value} {ok:Nat→Prop} (hk:nF kd k=true) (h:aK w ok k kv):Instr.sameBits 10000 kv kv=true:=by
 cases k<;>cases kd<;>simp [nF] at hk<;>simp only [aK] at h<;>subst h
 ·simp [Instr.sameBits]
 rename_i s
 show (s.toArray==s.toArray)=true
 simp
theorem tJ {ms:Array MapEntry} {j:Nat} {m:MapEntry} (h:ms.toList[j]?=some m) (f:MapEntry→MapEntry):(ms.modify j f).toList=ms.toList.set j (f m):=by
 rw [Array.toList_modify]
 obtain ⟨hj,rfl⟩:=List.getElem?_eq_some_iff.1 h
 apply List.ext_getElem?
 intro i
 rw [List.getElem?_modify,List.getElem?_set]
 by_cases hi:j=i
 ·subst hi
  have hj2:j<ms.size:=by simpa using hj
  simp [hj2]
 simp [hi]
theorem Pm {ok:Nat→Prop} {x:AV} {xv:Value} {vs:List AV} {ds:List D} {k:D} {e:MapEntry} {ag:Bool} (hc:x.cells?=some vs) (hx:aj β bx w ok x xv) (hn:cH vs=true) (hd:iS bx vs=some ds) (ha:x.isAgg=ag)
 (hk:aK w ok k e.key) (he:e.val=xv):gB w ok ag (k::ds) e:=by
 simp only [gB]
 refine ⟨hk,?_⟩
 rw [he]
 cases x with
 |agg cs=>
  simp only [AV.cells?] at hc
  cases hs:uz cs with
  |false=>simp [hs] at hc
  |true=>
   simp only [hs,cond_true,osI] at hc
   subst hc
   simp only [AV.isAgg] at ha;subst ha
   simp only [aj] at hx
   obtain ⟨us,rfl,g⟩:=hx
   exact ⟨us,rfl,fun h=>(by cases h),Ae hn hd g⟩
 |any=>simp [AV.cells?] at hc
 |vw _ _ _ _ _ _=>simp [AV.cells?] at hc
 |eE _=>simp [AV.cells?] at hc
 |cond _ _=>simp [AV.cells?] at hc
 |_=>
  simp only [AV.cells?,osI] at hc
  subst hc
  simp only [AV.isAgg] at ha;subst ha
  exact ⟨[xv],rfl,fun _=>rfl,Ae hn hd (by simp only [ak];exact ⟨xv,[],rfl,hx,rfl⟩)⟩
theorem FW (hT:kw P T) (cx:cI G β bx w X) {ty b:Nat} {m x:AV} {u kv xv:Value} {k:D} {tk te:TI} {ag:Bool} {es:List (List D)} {vs:List AV} {ds:List D} (h:DT T ty m bx=some (b,tk,te,ag,es)) (hu:aj β bx w (bt β bx w X) m u)
 (hkv:aK w (bt β bx w X) k kv) (Fh:aj β bx w (bt β bx w X) x xv) (hc:x.cells?=some vs) (hn:cH vs=true) (hd:iS bx vs=some ds) (hf:vY tk te ag es k) (ha:x.isAgg=ag):
 ∃w',(Instr.mapUpdate ty u kv xv).run P w=.ok () w'∧Ext β bx w β (bx.set b (.mp ag (sK es k ds))) w'∧cI G β (bx.set b (.mp ag (sK es k ds))) w' X:=by
 unfold DT at h
 split at h
 case h_2=>cases h
 rename_i b' LB Vn R9 es' hm
 simp only [osI,Prod.mk.injEq] at h
 obtain ⟨rfl,rfl,rfl,rfl,rfl⟩:=h
 obtain ⟨kt,et,dk,u1,u2,u3,u4,_⟩:=CN hT cx hm hu
 obtain ⟨f1,f2,f3⟩:=hf
 rw [u3] at f2 f3
 have hb:bx[b']?=some (.mp R9 es'):=by
  unfold zM at hm
  split at hm
  ·split at hm
   ·split at hm
    ·rename_i _ _ h0;cases h0
    ·rename_i _ _ h0;cases h0
    ·rename_i _ _ h0
     cases h0
     split at hm
     ·rename_i hb
      simp only [osI,Prod.mk.injEq] at hm
      obtain ⟨_,_,rfl,rfl⟩:=hm
      exact hb
     cases hm
    cases hm
   cases hm
  cases hm
 simp only [aj] at hu
 obtain ⟨rfl,_⟩:=hu
 obtain ⟨ms,clock,hh,⟨Vo,st2⟩,Pk⟩:=cx.box b' _ hb
 have main:∀(Fg:Array MapEntry) (clock':Nat),kF Fg clock'→bp w (bt β bx w X) R9 (sK es' k ds) Fg.toList→
  (Instr.mapUpdate ty (.map (some (β b'))) kv xv).run P w=.ok () {w with heap:=w.heap.setIfInBounds (β b') (.map Fg clock')}→
  ∃w',(Instr.mapUpdate ty (.map (some (β b'))) kv xv).run P w=.ok () w'∧Ext β bx w β (bx.set b' (.mp R9 (sK es' k ds))) w'∧cI G β (bx.set b' (.mp R9 (sK es' k ds))) w' X:=by
  intro Fg clock' g1 g2 g3
  have ex:Ext β bx w β (bx.set b' (.mp R9 (sK es' k ds))) {w with heap:=w.heap.setIfInBounds (β b') (.map Fg clock')}:=Ad hb rfl rfl hh (fun c e f=>by simp)
  refine ⟨_,g3,ex,Jc cx hb rfl rfl hh (fun c e f=>by simp) ?_⟩
  exact ⟨Fg,clock',by simp [eT hh],g1,bp.mono (ex.keeps X) _ _ _ g2⟩
 rcases qB f2 hkv es' ms.toList 0 Pk f3 with ⟨k1,k2,k3⟩|⟨j,e,ds',k1,k2,k3,k4,k5,k6,k7⟩
 ·refine main (ms.push {key:=kv,val:=xv,born:=clock}) (clock+1) ⟨?_,?_⟩ ?_ ?_
  ·rw [Array.all_push]
   simp only [Bool.and_eq_true,decide_eq_true_eq]
   refine ⟨?_,by omega⟩
   rw [Array.all_eq_true] at Vo ⊢
   intro i hi
   have:=Vo i hi
   simp only [decide_eq_true_eq] at this ⊢
   omega
  ·rw [Array.toList_push,List.map_append,List.nodup_append]
   refine ⟨st2,by simp,?_⟩
   intro a UF c Ce
   simp at Ce
   obtain ⟨m',hm',rfl⟩:=List.mem_map.1 UF
   have:m'.born<clock:=by
    rw [Array.all_eq_true_iff_forall_mem] at Vo
    simpa using Vo m' (by simpa using hm')
   omega
  ·rw [k3,Array.toList_push]
   refine Pk.append ?_
   simp only [bp]
   exact ⟨_,[],rfl,Pm hc Fh hn hd ha hkv rfl,rfl⟩
  unfold Instr.mapUpdate
  simp [aV u1,zj hh,run_checkKey u2 f2 hkv,run_findKey (w:=w) u2 k2,run_setObj_map _ hh]
 have Z2:=D7 f2 hkv
 refine main (ms.modify j fun e=>{e with key:=kv,val:=xv}) clock ⟨?_,?_⟩ ?_ ?_
 ·rw [Array.all_eq_true_iff_forall_mem] at Vo ⊢
  intro y hy
  have hy2:y∈(ms.modify j fun e=>{e with key:=kv,val:=xv}).toList:=Array.mem_def.1 hy
  rw [tJ k2] at hy2
  rcases List.mem_or_eq_of_mem_set hy2 with h1|h1
  ·exact Vo y (by simpa using h1)
  subst h1
  exact Vo e (by simpa using List.mem_of_getElem? k2)
 ·rw [tJ k2,List.map_set]
  have:(ms.toList.map (·.born)).set j ({e with key:=kv,val:=xv}:MapEntry).born=ms.toList.map (·.born):=by
   apply List.ext_getElem?
   intro i
   rw [List.getElem?_set]
   by_cases hi:j=i
   ·subst hi
    have:=(List.getElem?_eq_some_iff.1 k2).1
    simp [k2] at this ⊢
    simp [this]
   simp [hi]
  rw [this];exact st2
 ·rw [k7,tJ k2]
  exact bp.set (Pm hc Fh hn hd ha hkv rfl) j Pk
 unfold Instr.mapUpdate
 simp only [Nat.zero_add] at k1
 have k2':ms[j]?=some e:=by simpa using k2
 simp [aV u1,zj hh,run_checkKey u2 f2 hkv,run_findKey (w:=w) u2 k1,run_setObj_map _ hh,Instr.keyThatStays,k2',k5,Z2]
end
end Dem
end
section
open Go
namespace Dem
section
variable {P:Program} {T:Nat→Option TI} {G:Nat→Option (List D)} {β:Nat→Nat} {bx:List az} {w:World} {X:Nat→Prop}
theorem Jd (cx:cI G β bx w X) {e size cap:Nat} {rows:List (List D)} {vs zs:List Value} (hl:∀r∈rows,r.length=size) (hv:ak β bx w (bt β bx w X) (rows.flatten.map .d) vs)
 (hlen:rows.length≤cap):
 let w':World:={w with drawn:=w.drawn+1,heap:=w.heap.push (.cells ⟨vs++zs⟩ e)}
 Ext β bx w β bx w'∧cI G β bx w' X∧aj β bx w' (bt β bx w' X) (.d (.sl rows)) (.slice (some ⟨w.heap.size,0,none⟩) rows.length cap):=by
 intro w'
 have Xy:=qt cx (fy w)
 have z6:Ext β bx w β bx {w with drawn:=w.drawn+1}:=je (fy w)
 have Xz:Ext β bx {w with drawn:=w.drawn+1} β bx w':=uF (w:={w with drawn:=w.drawn+1}) (.cells ⟨vs++zs⟩ e)
 have hnew:w'.heap[w.heap.size]?=some (.cells ⟨vs++zs⟩ e):=jh {w with drawn:=w.drawn+1} _
 refine ⟨z6.trans Xz,Fq (w:={w with drawn:=w.drawn+1}) Xy _,?_⟩
 simp only [aj,aK]
 refine ⟨_,_,rfl,hlen,.inr ⟨w.heap.size,0,size,rfl,⟨eT hnew,fun hX=>?_,fun i b hb hlv=>?_⟩,?_⟩⟩
 ·exact Nat.lt_irrefl _ (cx.xs _ hX)
 ·have:=(cx.box i b hb).eU hlv;omega
 refine mR (β:=β) (bx:=bx) rows 0 vs hl ?_ (ak.mono ((z6.trans Xz).eY X) _ _ hv)
 intro k u hk
 have hk':k<vs.length:=by
  rcases Nat.lt_or_ge k vs.length with h|h
  ·exact h
  simp [List.getElem?_eq_none h] at hk
 show World.cell? w' ⟨w.heap.size,0+k,none⟩=some u
 simp only [World.cell?,hnew]
 simp [List.getElem?_append_left hk',hk]
theorem CO (hT:kw P T) (cx:cI G β bx w X) {ev:Operand→AV} {ρ:Operand→Value} {o:Oper} (hρ:∀x∈o.op.operands.toList,aj β bx w (bt β bx w X) (ev x) (ρ x))
 {c:Prop} {es:List (List D)} (hr:Cg T ev o.op=some (c,es)) (hc:c):dB G β bx w X ((execOp ρ o).run P w) (.d (.sl es)) bx:=by
 obtain ⟨dst,op,type,pos,after,guard⟩:=o
 simp only at hρ hr
 unfold Cg at hr
 split at hr
 case h_2=>cases hr
 rename_i b args ats
 split at hr
 case h_2=>cases hr
 rename_i x y t u ha Vl
 cases ht:T t with
 |none=>simp [ht] at hr
 |some ti=>
 cases hu:T u with
 |none=>simp [ht,hu] at hr
 |some tu=>
 simp only [ht,hu] at hr
 obtain ⟨i,d,h1,h2,h3,h4,h5,h6⟩:=aJ (hT.ti _ _ ht)
 obtain ⟨ui,ud,u1,u2,u3,u4,u5,u6⟩:=aJ (hT.ti _ _ hu)
 cases hk:ti.kd with
 |slice e=>
  cases hku:tu.kd with
  |slice e2=>
   rw [hk] at hr h5
   rw [hku] at hr u5
   have DY:∀k,ud≠.int k:=by rintro k rfl;cases u5
   cases d<;>simp [cW] at h5
   subst h5
   cases hte:T e with
   |none=>simp [hte] at hr
   |some te=>
   obtain ⟨ei,ed,g1,g2,g3,g4,g5,g6⟩:=aJ (hT.ti _ _ hte)
   simp only [hte] at hr
   cases hz:eN te with
   |false=>simp [hz] at hr
   |true=>
   obtain ⟨z,hz1,Sv,Zo,Zp⟩:=lV hz
   obtain ⟨zv,zc,k1,k2,k3,_⟩:=uM (β:=β) (bx:=bx) (w:=w) (ok:=bt β bx w X) (hT.ti _ _ hte) hz1
   have hzl:zc.length=ei.size:=by rw [ak.length k3,Sv,g3]
   have zh:ei.zero=some zv:=by
    cases hq:ei.zero with
    |none=>rw [g6,hq] at hz1;simp [AV.cells?] at hz1
    |some q=>have:=gC (P:=P) (w:=w) g1 hq;rw [k1] at this;simp at this;rw [this]
   simp only [hz,cond_true] at hr
   split at hr
   case h_2=>cases hr
   rename_i es x0 xr hx hy
   simp only [osI,Prod.mk.injEq] at hr
   obtain ⟨rfl,rfl⟩:=hr
   obtain ⟨Ce,Cf⟩:=hc
   have mx:x∈args.toList:=by rw [ha];simp
   have my:y∈args.toList:=by rw [ha];simp
   have hs:=hρ x (by simp [Op.operands,Call.operands];exact by simpa using mx)
   have hxx:=hρ y (by simp [Op.operands,Call.operands];exact by simpa using my)
   rw [hx] at hs
   rw [hy] at hxx
   obtain ⟨ws,f1,f2⟩:=ld (P:=P) (xs:=x0::xr) cx hxx (by simp [kE,AV.rows]) (fun r hr=>Cf r (List.mem_append.2 (.inr hr)))
   rw [g3] at f1
   simp only [aj] at hs
   obtain ⟨base,hsx,hbase⟩:=hs
   have fin:∀(os:List Value),gj P w ei.size es.length (.slice base es.length es.length) os→ak β bx w (bt β bx w X) (es.flatten.map .d) os→dB G β bx w X ((execOp ρ ⟨dst,.call {callee:=.builtin .append,args:=args,argTypes:=ats},type,pos,after,guard⟩).run P w) (.d (.sl (es++x0::xr))) bx:=by
    intro os o1 o2
    obtain ⟨cap,rest,q1,q2,zs,q3,q4⟩:=jz h2 u2 DY g1 zh k2 hzl f1 o1 (by simp) (by omega) (by rw [←g4];exact Ce) type
    obtain ⟨r1,r2,r3⟩:=Jd (e:=e) (size:=te.size) (cap:=cap) (rows:=es++(x0::xr)) (zs:=zs) (vs:=os++ws) cx Cf (ak.flatten_append o2 f2) (by rw [List.length_append];exact q1)
    rw [List.length_append] at r3
    refine ⟨β,_,r1,r2,.inl ⟨_,?_,r3⟩⟩
    simp only [execOp,resolve,Sem.run_bind,Sem.run_pure,Result.andThen_ok,invoke,fH args ρ]
    have ea:ats=⟨[t,u]⟩:=Array.toList_inj.1 (by rw [Vl])
    rw [ha,List.map_cons,List.map_cons,List.map_nil,hsx,ea]
    exact bN _ q4
   cases es with
   |nil=>
    refine fin [] ⟨dn,by simp,fun w' _=>⟨dn,?_⟩⟩ (by simp [ak])
    cases base<;>simp [Builtin.firstCells,loadCells,loadCellsFrom]
   |cons e0 er=>
    obtain ⟨os,o1,o2⟩:=dS (P:=P) (β:=β) (bx:=bx) (cap:=(e0::er).length) (base:=base) (es:=e0::er) (ok:=bt β bx w X) (fun r hr=>Cf r (List.mem_append.2 (.inl hr))) (hbase.imp id fun ⟨blk,off,sz,a,_,c⟩=>⟨blk,off,sz,a,c⟩)
    rw [g3] at o1
    exact fin os o1 o2
  |_=>simp [hk,hku] at hr
 |_=>simp [hk] at hr
end
end Dem
end
