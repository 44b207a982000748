/- Parts of a proof, joined. -/
import Derived.Test.YtihohjnkkalgiaaGreatDoorV01
import Derived.WalkSpells
import Derived.Lib.LazyBuf
import Derived.Deep.LoopGhost
import Derived.Defers
import Derived.ChangeSame
import Derived.ChangeArms
import Derived.OpenShut
import Derived.WideShapes
import Derived.Deep.Slices
import Derived.Orders
set_option linter.all false
set_option maxRecDepth 100000
set_option maxHeartbeats 4000000
section
open Go
namespace Dem
section
variable {P:Program} {T:Nat→Option TI} {G:Nat→Option (List D)} {β:Nat→Nat} {bx:List az} {w:World} {X:Nat→Prop}
def mh (β:Nat→Nat) (bx:List az) (w:World) (ok:Nat→Prop):iU→Ending→Prop
 |.ret v,.returned u=>aj β bx w ok v u
 |.Mn v,.panicked ch=>∃u,ch=[{v:=u,recovered:=false}]∧aj β bx w ok v u
 |_,_=>False
def jB (P:Program) (f:Nat) (vs:Array Value) (w:World) (R:Ending→World→Prop):Prop:=
 ((callFunc f vs).run P w=.ok (.enter f vs) w∧Calls P f vs w R)∨∃v w',(callFunc f vs).run P w=.ok (.value v) w'∧R (.returned v) w'
theorem jB.mono {f:Nat} {vs:Array Value} {R R':Ending→World→Prop} (h:jB P f vs w R) (hr:∀e w',R e w'→R' e w'):jB P f vs w R':=by
 rcases h with ⟨h1,h2⟩|⟨v,w',h1,h2⟩
 ·exact .inl ⟨h1,Calls.mono h2 hr⟩
 exact .inr ⟨v,w',h1,hr _ _ h2⟩
def bA (P:Program) (G:Nat→Option (List D)) (f:Nat) (args:List AV) (bx:List az) (res:iU) (aR:List az):Prop:=
 ∀(β:Nat→Nat) (w:World) (vs:List Value) (X:Nat→Prop),cJ G β bx w X→ak β bx w (bg β bx w X) args vs→
  jB P f ⟨vs⟩ w fun e w'=>∃β',Ext β bx w β' aR w'∧cJ G β' aR w' X∧mh β' aR w' (bg β' aR w' X) res e
mutual
theorem p7 {β β':Nat→Nat} {bx aR:List az} {w:World} {ok ok':Nat→Prop} (h:∀blk,ok blk→ok' blk):∀(x:AV) (v:Value),x.shut=true→aj β bx w ok x v→aj β' aR w ok' x v
 |.any,_,_,_=>by simp [aj]
 |.d x,v,_,hv=>by simp only [aj] at hv ⊢;exact aL.mono (fun blk hb=>⟨h blk hb,rfl⟩) _ _ hv
 |.k c,v,_,hv=>by simpa [aj] using hv
 |.agg cs,v,hs,hv=>by
  simp only [aj] at hv ⊢;obtain ⟨vs,h1,h2⟩:=hv
  exact ⟨vs,h1,lQ h cs vs (by simpa [AV.shut] using hs) h2⟩
 |.dV cs,v,hs,hv=>by
  simp only [aj] at hv ⊢;obtain ⟨vs,h1,h2⟩:=hv
  exact ⟨vs,h1,lQ h cs vs (by simpa [AV.shut] using hs) h2⟩
 |.ptr _ _,_,hs,_=>by simp [AV.shut] at hs
 |.rp _ _ _ _,_,hs,_=>by simp [AV.shut] at hs
 |.ow _ _ _,_,hs,_=>by simp [AV.shut] at hs
 |.vw _ _ _ _ _ _,_,hs,_=>by simp [AV.shut] at hs
 |.ep ds,v,_,hv=>by
  simp only [aj] at hv ⊢;obtain ⟨blk,off,h1,h2,h3⟩:=hv
  exact ⟨blk,off,h1,h blk h2,aX.mono (fun blk hb=>⟨h blk hb,rfl⟩) blk (fun _=>rfl) _ _ h3⟩
 |.cl es,v,_,hv=>by
  simp only [aj] at hv ⊢;obtain ⟨base,h1,h2⟩:=hv
  refine ⟨base,h1,h2.imp id ?_⟩
  rintro ⟨blk,off,sz,e1,e2,e3⟩
  exact ⟨blk,off,sz,e1,h blk e2,ay.mono (fun blk hb=>⟨h blk hb,rfl⟩) blk sz (fun _=>rfl) _ _ e3⟩
 |.fn f cs,v,hs,hv=>by
  simp only [aj] at hv ⊢;obtain ⟨vs,h1,h2⟩:=hv
  exact ⟨vs,h1,lQ h cs vs (by simpa [AV.shut] using hs) h2⟩
 |.sj t x,v,hs,hv=>by
  simp only [aj] at hv ⊢;obtain ⟨u,h1,h2⟩:=hv
  exact ⟨u,h1,p7 h x u (by simpa [AV.shut] using hs) h2⟩
 |.cond p x,v,hs,hv=>by
  simp only [aj] at hv ⊢
  exact ⟨fun hp=>p7 h x v (by simpa [AV.shut] using hs) (hv.1 hp),hv.2⟩
theorem lQ {β β':Nat→Nat} {bx aR:List az} {w:World} {ok ok':Nat→Prop} (h:∀blk,ok blk→ok' blk):∀(xs:List AV) (vs:List Value),AV.shut.kY xs=true→ak β bx w ok xs vs→ak β' aR w ok' xs vs
 |[],vs,_,hv=>by simpa [ak] using hv
 |x::xs,vs,hs,hv=>by
  simp only [ak] at hv ⊢
  obtain ⟨u,us,h1,h2,h3⟩:=hv
  simp only [AV.shut.kY,Bool.and_eq_true] at hs
  exact ⟨u,us,h1,p7 h x u hs.1 h2,lQ h xs us hs.2 h3⟩
end
theorem rK {β β':Nat→Nat} {bx aR:List az} {w w':World} {ok ok':Nat→Prop}:∀(xs:List AV) (vs:List Value),AV.flat.zE xs=true→ak β bx w ok xs vs→ak β' aR w' ok' xs vs
 |[],vs,_,hv=>by simpa [ak] using hv
 |x::xs,vs,hs,hv=>by
  simp only [ak] at hv ⊢
  obtain ⟨u,us,h1,h2,h3⟩:=hv
  cases x with
  |d y=>cases y<;>simp [AV.flat.zE] at hs<;>exact ⟨u,us,h1,by simpa [aj,aL] using h2,rK xs us hs h3⟩
  |k c=>simp [AV.flat.zE] at hs;exact ⟨u,us,h1,by simpa [aj] using h2,rK xs us hs h3⟩
  |_=>simp [AV.flat.zE] at hs
theorem oH {β β':Nat→Nat} {bx aR:List az} {w w':World} {ok ok':Nat→Prop}:∀(xs:List AV) (vs:List Value),AV.flat.pR xs=true→ak β bx w ok xs vs→ak β' aR w' ok' xs vs
 |[],vs,_,hv=>by simpa [ak] using hv
 |x::xs,vs,hs,hv=>by
  simp only [ak] at hv ⊢
  obtain ⟨u,us,h1,h2,h3⟩:=hv
  cases x with
  |d y=>cases y<;>simp [AV.flat.pR] at hs<;>exact ⟨u,us,h1,by simpa [aj,aL] using h2,oH xs us hs h3⟩
  |k c=>simp [AV.flat.pR] at hs;exact ⟨u,us,h1,by simpa [aj] using h2,oH xs us hs h3⟩
  |agg cs=>
   simp [AV.flat.pR] at hs
   simp only [aj] at h2
   obtain ⟨v2,e1,e2⟩:=h2
   exact ⟨u,us,h1,by simp only [aj];exact ⟨v2,e1,rK cs v2 hs.1 e2⟩,oH xs us hs.2 h3⟩
  |_=>simp [AV.flat.pR] at hs
theorem FP {β β':Nat→Nat} {bx aR:List az} {w w':World} {ok ok':Nat→Prop} (x:AV) (v:Value) (hf:x.flat=true) (hv:aj β bx w ok x v):aj β' aR w' ok' x v:=by
 cases x with
 |d y=>cases y<;>simp [AV.flat] at hf<;>simpa [aj,aL] using hv
 |k c=>simpa [aj] using hv
 |agg cs=>simp only [aj] at hv ⊢;obtain ⟨vs,h1,h2⟩:=hv;exact ⟨vs,h1,rK cs vs (by simpa [AV.flat] using hf) h2⟩
 |dV cs=>simp only [aj] at hv ⊢;obtain ⟨vs,h1,h2⟩:=hv;exact ⟨vs,h1,oH cs vs (by simpa [AV.flat] using hf) h2⟩
 |_=>simp [AV.flat] at hf
theorem Mw {w w':World} {ok ok':Nat→Prop}:∀(x:D) (v:Value),x.flat=true→aL w ok x v→aL w' ok' x v:=by
 intro x v hf hv
 cases x<;>simp [D.flat] at hf<;>simpa [aL] using hv
theorem xR {w:World} {ok ok':Nat→Prop} {blk:Nat}:∀(xs:List D) (off:Nat),(∀x∈xs,x.flat=true)→aX w ok blk xs off→aX w ok' blk xs off
 |[],_,_,_=>by simp [aX]
 |x::xs,off,hf,hv=>by
  simp only [aX] at hv ⊢
  obtain ⟨⟨u,h1,h2⟩,h3⟩:=hv
  exact ⟨⟨u,h1,Mw x u (hf x (by simp)) h2⟩,xR xs _ (fun y hy=>hf y (by simp [hy])) h3⟩
theorem oI {w:World} {ok ok':Nat→Prop} {blk sz:Nat}:∀(rs:List (List D)) (off:Nat),(∀r∈rs,∀x∈r,x.flat=true)→ay w ok blk sz rs off→ay w ok' blk sz rs off
 |[],_,_,_=>by simp [ay]
 |r::rs,off,hf,hv=>by
  simp only [ay] at hv ⊢
  exact ⟨hv.1,xR r off (hf r (by simp)) hv.2.1,oI rs _ (fun s hs=>hf s (by simp [hs])) hv.2.2⟩
theorem uM (cx:cJ G β bx w X) {x y:AV} {u:Value} (hd:fz bx x=some y) (h:aj β bx w (bg β bx w X) x u):
 Ext β bx w β (x.cw bx) w∧cJ G β (x.cw bx) w X∧aj β (x.cw bx) w (bg β (x.cw bx) w X) y u:=by
 cases x with
 |cl es=>
  simp only [fz,osI] at hd;subst hd
  obtain ⟨g1,g2,g3⟩:=zM (y:=.sl es) cx rfl h
  exact ⟨g1,g2,by simpa [aj] using g3⟩
 |ow b sz n=>
  simp only [fz,Option.map_eq_some_iff] at hd
  obtain ⟨z,h1,rfl⟩:=hd
  obtain ⟨g1,g2,g3⟩:=zM cx h1 h
  exact ⟨g1,g2,by simpa [aj] using g3⟩
 |vw b sz off n c ex=>
  simp only [fz,Option.map_eq_some_iff] at hd
  obtain ⟨es,h1,rfl⟩:=hd
  obtain ⟨g1,g2,g3⟩:=j8 cx h1 h
  exact ⟨g1,g2,by simpa [aj,aL] using g3⟩
 |_=>simp only [fz,osI] at hd;subst hd;exact ⟨Ext.refl _ _ _,cx,h⟩
theorem FQ {x y z:AV} (h:fz bx x=some y):fz (z.cw bx) x=some y:=by
 cases x with
 |ow b sz n=>
  simp only [fz,Option.map_eq_some_iff] at h ⊢
  obtain ⟨q,h1,h2⟩:=h
  exact ⟨q,Cv h1,h2⟩
 |vw b sz off n c ex=>
  simp only [fz,Option.map_eq_some_iff] at h ⊢
  obtain ⟨q,h1,h2⟩:=h
  refine ⟨q,?_,h2⟩
  simp only [AV.rows] at h1 ⊢
  split at h1
  ·rename_i s es hb
   rcases uC (z:=z) (.inl hb) with g|g<;>simp [g,h1]
  ·rename_i s es hb
   rcases uC (z:=z) (.inr hb) with g|g<;>simp [g,h1]
  simp at h1
 |_=>exact h
theorem wF {z:AV}:∀{xs ys:List AV},Iw bx xs=some ys→Iw (z.cw bx) xs=some ys
 |[],ys,h=>h
 |x::xs,ys,h=>by
  simp only [Iw] at h ⊢
  split at h
  ·rename_i y ys' hy hys
   rw [FQ hy,wF hys];exact h
  simp at h
theorem IP {x y z:AV} (h:pQ bx x=some y):pQ (z.cw bx) x=some y:=by
 cases x with
 |agg cs=>
  simp only [pQ,Option.map_eq_some_iff] at h ⊢
  obtain ⟨q,h1,h2⟩:=h
  exact ⟨q,wF h1,h2⟩
 |_=>simp only [pQ] at h ⊢;exact FQ h
theorem tv {z:AV}:∀{xs ys:List AV},eZ bx xs=some ys→eZ (z.cw bx) xs=some ys
 |[],ys,h=>h
 |x::xs,ys,h=>by
  simp only [eZ] at h ⊢
  split at h
  ·rename_i y ys' hy hys
   rw [IP hy,tv hys];exact h
  simp at h
theorem xS {xs ys:List AV}:∀(zs:List AV) (bx:List az),eZ bx xs=some ys→eZ (eC bx zs) xs=some ys
 |[],_,h=>h
 |_::zs,_,h=>xS zs _ (tv h)
theorem FR {xs ys:List AV} {z:AV} (h:eZ bx xs=some ys):eZ (lV bx z) xs=some ys:=by
 cases z with
 |agg cs=>exact xS cs bx h
 |_=>simp only [lV];exact tv h
theorem FT:∀(xs:List AV) (bx:List az) (ys:List AV) (vs:List Value),cJ G β bx w X→Iw bx xs=some ys→ak β bx w (bg β bx w X) xs vs→
 Ext β bx w β (eC bx xs) w∧cJ G β (eC bx xs) w X∧ak β (eC bx xs) w (bg β (eC bx xs) w X) ys vs
 |[],bx,ys,vs,cx,hd,h=>by simp [Iw] at hd;subst hd;exact ⟨Ext.refl _ _ _,cx,by simpa [eC] using h⟩
 |x::xs,bx,ys,vs,cx,hd,h=>by
  simp only [Iw] at hd
  split at hd
  ·rename_i y ys' hy hys
   simp at hd;subst hd
   simp only [ak] at h
   obtain ⟨u,us,rfl,g1,g2⟩:=h
   obtain ⟨e1,c1,r1⟩:=uM cx hy g1
   obtain ⟨e2,c2,r2⟩:=FT xs (x.cw bx) ys' us c1 (wF hys) (ak.mono (e1.eY X) _ _ g2)
   refine ⟨e1.trans e2,c2,?_⟩
   simp only [eC,ak]
   exact ⟨u,us,rfl,aj.mono (e2.eY X) _ _ r1,r2⟩
  simp at hd
theorem Cy (cx:cJ G β bx w X) {x y:AV} {u:Value} (hd:pQ bx x=some y) (h:aj β bx w (bg β bx w X) x u):
 Ext β bx w β (lV bx x) w∧cJ G β (lV bx x) w X∧aj β (lV bx x) w (bg β (lV bx x) w X) y u:=by
 cases x with
 |agg cs=>
  simp only [pQ,Option.map_eq_some_iff] at hd
  obtain ⟨ys,h1,rfl⟩:=hd
  simp only [aj] at h
  obtain ⟨vs,rfl,hvs⟩:=h
  obtain ⟨g1,g2,g3⟩:=FT cs bx ys vs cx h1 hvs
  exact ⟨g1,g2,by simp only [aj];exact ⟨vs,rfl,g3⟩⟩
 |_=>simp only [pQ] at hd;simp only [lV];exact uM cx hd h
theorem lR:∀(xs:List AV) (bx:List az) (ys:List AV) (vs:List Value),cJ G β bx w X→eZ bx xs=some ys→ak β bx w (bg β bx w X) xs vs→
 Ext β bx w β (fw bx xs) w∧cJ G β (fw bx xs) w X∧ak β (fw bx xs) w (bg β (fw bx xs) w X) ys vs
 |[],bx,ys,vs,cx,hd,h=>by simp [eZ] at hd;subst hd;exact ⟨Ext.refl _ _ _,cx,by simpa [fw] using h⟩
 |x::xs,bx,ys,vs,cx,hd,h=>by
  simp only [eZ] at hd
  split at hd
  ·rename_i y ys' hy hys
   simp at hd;subst hd
   simp only [ak] at h
   obtain ⟨u,us,rfl,g1,g2⟩:=h
   obtain ⟨e1,c1,r1⟩:=Cy cx hy g1
   obtain ⟨e2,c2,r2⟩:=lR xs (lV bx x) ys' us c1 (FR hys) (ak.mono (e1.eY X) _ _ g2)
   refine ⟨e1.trans e2,c2,?_⟩
   simp only [fw,ak]
   exact ⟨u,us,rfl,aj.mono (e2.eY X) _ _ r1,r2⟩
  simp at hd
theorem Le {x y:AV} (h:fz [] x=some y) (bx:List az):x.cw bx=bx:=by
 cases x with
 |ow b sz n=>simp [fz,AV.rq] at h
 |vw b sz off n c ex=>simp [fz,AV.rows] at h
 |_=>rfl
theorem FU:∀{xs ys:List AV} (bx:List az),Iw [] xs=some ys→eC bx xs=bx
 |[],_,_,_=>rfl
 |x::xs,ys,bx,h=>by
  simp only [Iw] at h
  split at h
  ·rename_i y ys' hy hys
   simp only [eC,Le hy bx];exact FU bx hys
  simp at h
theorem j9:∀{xs ys:List AV} (bx:List az),eZ [] xs=some ys→fw bx xs=bx
 |[],_,_,_=>rfl
 |x::xs,ys,bx,h=>by
  simp only [eZ] at h
  split at h
  ·rename_i y ys' hy hys
   have:lV bx x=bx:=by
    cases x with
    |agg cs=>
     simp only [pQ,Option.map_eq_some_iff] at hy
     obtain ⟨q,h1,_⟩:=hy
     exact FU bx h1
    |_=>simp only [pQ] at hy;simp only [lV];exact Le hy bx
   simp only [fw,this];exact j9 bx hys
  simp at h
def p8 (β:Nat→Nat) (bx:List az) (X:Nat→Prop) (blk:Nat):Prop:=X blk∨∃i b,bx[i]?=some b∧b.live=true∧β i=blk
theorem FV (cx:cJ G β bx w X):cJ G β [] w (p8 β bx X):=by
 refine ⟨?_,?_,by simp,by simp,by simp⟩
 ·rintro blk (h|⟨i,b,h1,h2,rfl⟩)
  ·exact cx.xs blk h
  exact dj.fL (cx.box i b h1) h2
 intro g ds hg
 obtain ⟨h1,h2⟩:=cx.yM g ds hg
 have key:∀blk,bg β bx w X blk→bg β [] w (p8 β bx X) blk:=by
  rintro blk ⟨k1,k2,k3⟩
  refine ⟨k1,?_,by simp⟩
  rintro (h|⟨i,b,e1,e2,e3⟩)
  ·exact k2 h
  exact k3 i b e1 e2 e3
 exact ⟨key g h1,aX.mono (fun blk hb=>⟨key blk hb,rfl⟩) g (fun _=>rfl) _ _ h2⟩
theorem FW (blk:Nat) (h:bg β bx w X blk):bg β [] w (p8 β bx X) blk:=by
 obtain ⟨k1,k2,k3⟩:=h
 refine ⟨k1,?_,by simp⟩
 rintro (h|⟨i,b,e1,e2,e3⟩)
 ·exact k2 h
 exact k3 i b e1 e2 e3
theorem uN {β':Nat→Nat} {aR:List az} {w':World} (ex:Ext β [] w β' aR w'):Ext β bx w β bx w':=
 ⟨ex.os,ex.tape,ex.output,ex.size,fun k hk _=>ex.block k hk (by simp),ex.shape,fun i hi=>⟨rfl,hi⟩,fun i b h1 h2=>.inr ⟨i,b,h1,h2,rfl⟩⟩
theorem OU {β':Nat→Nat} {aR:List az} {w':World} (cx:cJ G β bx w X) (ex:Ext β [] w β' aR w'):cJ G β bx w' X:=
 cx.step (uN ex) (fun i b h=>.inl ⟨h,fun hl=>ex.block _ (dj.fL (cx.box i b h) hl) (by simp)⟩) cx.inj
theorem Sd {β':Nat→Nat} {w':World} {sz n:Nat} {es:List (List D)} {pS:List az} {u:Value} (cx:cJ G β bx w X) (ex:Ext β [] w β' [.row sz es] w') (mP:cJ G β' [.row sz es] w' (p8 β pS X))
 (hv:(∀r∈es,∀x∈r,x.flat=true)∨pS=bx) (hr:aj β' [.row sz es] w' (bg β' [.row sz es] w' (p8 β pS X)) (.ow 0 sz n) u):
 Ext β bx w (kZ β bx.length (β' 0)) (bx++[.row sz es]) w'∧cJ G (kZ β bx.length (β' 0)) (bx++[.row sz es]) w' X∧
  aj (kZ β bx.length (β' 0)) (bx++[.row sz es]) w' (bg (kZ β bx.length (β' 0)) (bx++[.row sz es]) w' X) (.ow bx.length sz n) u:=by
 have e0:=uN (bx:=bx) ex
 have hnew:az.live (.row sz es)=true→w.heap.size≤β' 0:=by
  intro hl
  rcases ex.live 0 (.row sz es) rfl hl with h|⟨j,b',h1,_⟩
  ·exact h
  simp at h1
 have hold:∀i b,bx[i]?=some b→kZ β bx.length (β' 0) i=β i:=by
  intro i b h
  exact dc _ _ (by have:=jw h;omega)
 have e1:Ext β bx w (kZ β bx.length (β' 0)) (bx++[.row sz es]) w':=by
  refine ⟨e0.os,e0.tape,e0.output,e0.size,e0.block,e0.shape,?_,?_⟩
  ·rintro i ⟨b,h1,h2⟩
   exact ⟨hold i b h1,b,eH h1,h2⟩
  intro i b h hl
  rcases bu h with ⟨h1,_⟩|⟨rfl,rfl⟩
  ·exact .inr ⟨i,b,h1,hl,(hold i b h1).symm⟩
  exact .inl (by rw [bq];exact hnew hl)
 have hlt:∀i b,bx[i]?=some b→b.live=true→β i<w.heap.size:=fun i b h hl=>dj.fL (cx.box i b h) hl
 have hok:pS=bx→∀blk,bg β' [.row sz es] w' (p8 β pS X) blk→bg (kZ β bx.length (β' 0)) (bx++[.row sz es]) w' X blk:=by
  rintro rfl blk ⟨k1,k2,k3⟩
  refine ⟨k1,fun hX=>k2 (.inl hX),?_⟩
  intro i b h hl
  rcases bu h with ⟨h1,_⟩|⟨rfl,rfl⟩
  ·rw [hold i b h1];exact fun he=>k2 (.inr ⟨i,b,h1,hl,he⟩)
  rw [bq];exact k3 0 _ rfl hl
 refine ⟨e1,cx.step e1 ?_ ?_,?_⟩
 ·intro i b h
  rcases bu h with ⟨h1,_⟩|⟨rfl,rfl⟩
  ·exact .inl ⟨h1,fun hl=>ex.block _ (hlt i b h1 hl) (by simp)⟩
  refine .inr ?_
  have:=mP.box 0 _ rfl
  rw [bq]
  simp only [dj] at this ⊢
  refine this.imp id ?_
  rintro ⟨c,e,h1,h2⟩
  refine ⟨c,e,h1,?_⟩
  rcases hv with hfl|hb
  ·exact oI _ _ hfl h2
  exact ay.mono (fun blk hb'=>⟨hok hb blk hb',rfl⟩) _ _ (fun _=>rfl) _ _ h2
 ·intro i j bi bj hi hj mQ oJ he
  rcases bu hi with ⟨h1,_⟩|⟨rfl,rfl⟩<;>rcases bu hj with ⟨h2,_⟩|⟨rfl,rfl⟩
  ·rw [hold i bi h1,hold j bj h2] at he
   exact cx.inj i j bi bj h1 h2 mQ oJ he
  ·rw [hold i bi h1,bq] at he
   have:=hlt i bi h1 mQ;have:=hnew oJ;omega
  ·rw [hold j bj h2,bq] at he
   have:=hlt j bj h2 oJ;have:=hnew mQ;omega
  rfl
 simp only [aj] at hr ⊢
 obtain ⟨_,h2⟩:=hr
 refine ⟨⟨_,by simp;rfl,rfl⟩,?_⟩
 rw [bq];exact h2
theorem IQ {f:Nat} {args:List AV} {vs:List Value} {K:AV→List az→Prop} (cx:cJ G β bx w X) (hx:ak β bx w (bg β bx w X) args vs)
 (h:Fp (bA P G) f args bx K):
 jB P f ⟨vs⟩ w fun e w'=>∃β' aR v u,e=.returned u∧Ext β bx w β' aR w'∧cJ G β' aR w' X∧aj β' aR w' (bg β' aR w' X) v u∧K v aR:=by
 obtain ⟨_,hz,hs,h⟩:=h
 obtain ⟨e1,c1,r1⟩:=lR args bx _ vs cx hz hx
 have cn:=FV c1
 have hn:ak β [] w (bg β [] w (p8 β (fw bx args) X)) _ vs:=lQ (fun blk hb=>FW blk hb) _ _ hs r1
 rcases h with ⟨v,hf,hv,hK⟩|⟨sz,n,es,hf,hv,hK⟩
 ·refine jB.mono (hf β w vs _ cn hn) ?_
  rintro e w' ⟨β',ex,mP,hr⟩
  cases e with
  |returned u=>
   refine ⟨β,bx,v,u,rfl,uN ex,OU cx ex,?_,hK⟩
   rcases hv with hfl|⟨OV,hsh⟩
   ·exact FP v u hfl hr
   rw [j9 bx OV] at hr
   refine p7 ?_ v u hsh hr
   rintro blk ⟨k1,k2,_⟩
   exact ⟨k1,fun hX=>k2 (.inl hX),fun i b hb hl he=>k2 (.inr ⟨i,b,hb,hl,he⟩)⟩
  |_=>exact hr.elim
 refine jB.mono (hf β w vs _ cn hn) ?_
 rintro e w' ⟨β',ex,mP,hr⟩
 cases e with
 |returned u=>
  simp only [mh] at hr
  obtain ⟨x1,x2,x3⟩:=Sd cx ex mP (by
   rcases hv with hfl|OV
   ·exact .inl hfl
   refine .inr ?_
   rw [j9 bx OV]) hr
  exact ⟨_,_,_,u,rfl,x1,x2,x3,hK⟩
 |_=>exact hr.elim
end
end Dem
end
section
open Go
namespace Dem
section
variable {P:Program} {G:Nat→Option (List D)} {β β':Nat→Nat} {bx aR:List az} {w w':World} {X:Nat→Prop}
theorem mj {i:Nat} (h:Oo bx i=true):bT bx i:=by
 unfold Oo at h
 split at h
 ·rename_i b hb;exact ⟨b,hb,h⟩
 cases h
mutual
theorem Cz {ok ok':Nat→Prop} {jO:List az} {dt:Bool} (h:∀b,bT jO b→β' b=β b∧bT aR b) (hd:dt=true→∀d v,aL w ok d v→aL w' ok' d v):∀(x:AV) (v:Value),x.loose dt=true→x.bM jO=true→aj β bx w ok x v→aj β' aR w' ok' x v
 |.any,_,_,_,_=>by simp [aj]
 |.d y,v,hs,_,hv=>by
  simp only [aj] at hv ⊢
  cases hdt:dt with
  |true=>exact hd hdt y v hv
  |false=>subst hdt;cases y<;>simp [AV.loose] at hs<;>simpa [aL] using hv
 |.k c,v,_,_,hv=>by simpa [aj] using hv
 |.agg cs,v,hs,hn,hv=>by
  simp only [aj] at hv ⊢;obtain ⟨vs,h1,h2⟩:=hv
  exact ⟨vs,h1,mo h hd cs vs (by simpa [AV.loose] using hs) (by simpa [AV.bM] using hn) h2⟩
 |.dV cs,v,hs,_,hv=>by simp [AV.loose] at hs
 |.ptr b off,v,_,hn,hv=>by
  have g:=mj (by simpa [AV.bM] using hn)
  simp only [aj] at hv ⊢;obtain ⟨e,_⟩:=hv;exact ⟨by rw [(h b g).1];exact e,(h b g).2⟩
 |.rp b sz i j,v,_,hn,hv=>by
  have g:=mj (by simpa [AV.bM] using hn)
  simp only [aj] at hv ⊢;obtain ⟨e,_⟩:=hv;exact ⟨by rw [(h b g).1];exact e,(h b g).2⟩
 |.ow _ _ _,_,hs,_,_=>by simp [AV.loose] at hs
 |.BR _,_,hs,_,_=>by simp [AV.loose] at hs
 |.vw _ _ _ _ _ _,_,hs,_,_=>by simp [AV.loose] at hs
 |.ep _,_,hs,_,_=>by simp [AV.loose] at hs
 |.cl _,_,hs,_,_=>by simp [AV.loose] at hs
 |.fn f cs,v,hs,hn,hv=>by
  simp only [aj] at hv ⊢;obtain ⟨vs,h1,h2⟩:=hv
  exact ⟨vs,h1,mo h hd cs vs (by simpa [AV.loose] using hs) (by simpa [AV.bM] using hn) h2⟩
 |.sj t x,v,hs,hn,hv=>by
  simp only [aj] at hv ⊢;obtain ⟨u,h1,h2⟩:=hv
  exact ⟨u,h1,Cz h hd x u (by simpa [AV.loose] using hs) (by simpa [AV.bM] using hn) h2⟩
 |.cond _ _,_,hs,_,_=>by simp [AV.loose] at hs
theorem mo {ok ok':Nat→Prop} {jO:List az} {dt:Bool} (h:∀b,bT jO b→β' b=β b∧bT aR b) (hd:dt=true→∀d v,aL w ok d v→aL w' ok' d v):∀(xs:List AV) (vs:List Value),AV.nA dt xs=true→AV.bM.dg jO xs=true→ak β bx w ok xs vs→ak β' aR w' ok' xs vs
 |[],vs,_,_,hv=>by simpa [ak] using hv
 |x::xs,vs,hs,hn,hv=>by
  simp only [ak] at hv ⊢
  obtain ⟨u,us,h1,h2,h3⟩:=hv
  simp only [AV.nA] at hs
  simp only [AV.bM.dg,Bool.and_eq_true] at hn
  cases hx:x.loose dt with
  |false=>simp [hx] at hs
  |true=>
   simp only [hx,cond_true] at hs
   exact ⟨u,us,h1,Cz h hd x u hx hn.1 h2,mo h hd xs us hs hn.2 h3⟩
end
mutual
theorem wG {ok ok':Nat→Prop} {jO:List az} (h:∀blk,ok blk→ok' blk):∀(x:AV) (v:Value),x.bM jO=true→aj β bx w ok x v→aj β jO w ok' x v
 |.any,_,_,_=>by simp [aj]
 |.d x,v,_,hv=>by simp only [aj] at hv ⊢;exact aL.mono (fun blk hb=>⟨h blk hb,rfl⟩) _ _ hv
 |.k c,v,_,hv=>by simpa [aj] using hv
 |.agg cs,v,hs,hv=>by
  simp only [aj] at hv ⊢;obtain ⟨vs,h1,h2⟩:=hv
  exact ⟨vs,h1,mq h cs vs (by simpa [AV.bM] using hs) h2⟩
 |.dV cs,v,hs,hv=>by
  simp only [aj] at hv ⊢;obtain ⟨vs,h1,h2⟩:=hv
  exact ⟨vs,h1,mq h cs vs (by simpa [AV.bM] using hs) h2⟩
 |.ptr b off,v,hs,hv=>by
  have g:=mj (by simpa [AV.bM] using hs)
  simp only [aj] at hv ⊢;exact ⟨hv.1,g⟩
 |.rp b sz i j,v,hs,hv=>by
  have g:=mj (by simpa [AV.bM] using hs)
  simp only [aj] at hv ⊢;exact ⟨hv.1,g⟩
 |.BR b,v,hs,hv=>by
  have g:=mj (by simpa [AV.bM] using hs)
  simp only [aj] at hv ⊢;exact ⟨hv.1,g⟩
 |.ow b sz m,v,hs,hv=>by
  have g:=mj (by simpa [AV.bM] using hs)
  simp only [aj] at hv ⊢;exact ⟨g,hv.2⟩
 |.vw b sz off m c ex,v,hs,hv=>by
  have g:=mj (by simpa [AV.bM] using hs)
  simp only [aj] at hv ⊢;exact ⟨g,hv.2⟩
 |.ep ds,v,_,hv=>by
  simp only [aj] at hv ⊢;obtain ⟨blk,off,h1,h2,h3⟩:=hv
  exact ⟨blk,off,h1,h blk h2,aX.mono (fun blk hb=>⟨h blk hb,rfl⟩) blk (fun _=>rfl) _ _ h3⟩
 |.cl es,v,_,hv=>by
  simp only [aj] at hv ⊢;obtain ⟨base,h1,h2⟩:=hv
  refine ⟨base,h1,h2.imp id ?_⟩
  rintro ⟨blk,off,sz,e1,e2,e3⟩
  exact ⟨blk,off,sz,e1,h blk e2,ay.mono (fun blk hb=>⟨h blk hb,rfl⟩) blk sz (fun _=>rfl) _ _ e3⟩
 |.fn f cs,v,hs,hv=>by
  simp only [aj] at hv ⊢;obtain ⟨vs,h1,h2⟩:=hv
  exact ⟨vs,h1,mq h cs vs (by simpa [AV.bM] using hs) h2⟩
 |.sj t x,v,hs,hv=>by
  simp only [aj] at hv ⊢;obtain ⟨u,h1,h2⟩:=hv
  exact ⟨u,h1,wG h x u (by simpa [AV.bM] using hs) h2⟩
 |.cond p x,v,hs,hv=>by
  simp only [aj] at hv ⊢
  exact ⟨fun hp=>wG h x v (by simpa [AV.bM] using hs) (hv.1 hp),hv.2⟩
theorem mq {ok ok':Nat→Prop} {jO:List az} (h:∀blk,ok blk→ok' blk):∀(xs:List AV) (vs:List Value),AV.bM.dg jO xs=true→ak β bx w ok xs vs→ak β jO w ok' xs vs
 |[],vs,_,hv=>by simpa [ak] using hv
 |x::xs,vs,hs,hv=>by
  simp only [ak] at hv ⊢
  obtain ⟨u,us,h1,h2,h3⟩:=hv
  simp only [AV.bM.dg,Bool.and_eq_true] at hs
  exact ⟨u,us,h1,wG h x u hs.1 h2,mq h xs us hs.2 h3⟩
end
theorem mr {dt:Bool} {jO:List az}:∀{bs:List az} {i:Nat} {b:az},dW dt jO bs=true→bs[i]?=some b→(∃cs,b=.var cs∧AV.nA dt cs=true∧AV.bM.dg jO cs=true)∨b=.dead∨b=.bt
 |[],i,b,_,hi=>by simp at hi
 |b0::bs,i,b,h,hi=>by
  have hr:dW dt jO bs=true∧((∃cs,b0=.var cs∧AV.nA dt cs=true∧AV.bM.dg jO cs=true)∨b0=.dead∨b0=.bt):=by
   cases b0 with
   |var cs=>
    simp only [dW] at h
    cases hc:(AV.nA dt cs&&AV.bM.dg jO cs) with
    |false=>simp [hc] at h
    |true=>simp only [hc,cond_true] at h;simp at hc;exact ⟨h,.inl ⟨cs,rfl,hc.1,hc.2⟩⟩
   |dead=>exact ⟨h,.inr (.inl rfl)⟩
   |bt=>exact ⟨h,.inr (.inr rfl)⟩
   |_=>simp [dW] at h
  cases i with
  |zero=>simp only [List.getElem?_cons_zero,osI] at hi;subst hi;exact hr.2
  |succ i=>simp only [List.getElem?_cons_succ] at hi;exact mr hr.1 hi
theorem zZ {x:AV} {i:Nat} {b:az} (h:(x.cw bx)[i]?=some b):bx[i]?=some b∨∃s es,bx[i]?=some (.row s es)∧b=.kC s es:=by
 have go:∀k:Nat,(match bx[k]? with|some (.row s es)=>bx.set k (.kC s es)|_=>bx)[i]?=some b→bx[i]?=some b∨∃s es,bx[i]?=some (.row s es)∧b=.kC s es:=by
  intro k h
  split at h
  ·rename_i s es hk
   rcases aM h with ⟨rfl,rfl,_⟩|⟨_,h2⟩
   ·exact .inr ⟨s,es,hk,rfl⟩
   exact .inl h2
  exact .inl h
 cases x with
 |ow k _ _=>exact go k h
 |vw k _ _ _ _ _=>exact go k h
 |_=>exact .inl h
theorem CA:∀{xs:List AV} {bx:List az} {i:Nat} {b:az},(eC bx xs)[i]?=some b→bx[i]?=some b∨∃s es,bx[i]?=some (.row s es)∧b=.kC s es
 |[],_,_,_,h=>.inl h
 |x::xs,bx,i,b,h=>by
  rcases CA (xs:=xs) (bx:=x.cw bx) h with h1|⟨s,es,h1,rfl⟩
  ·exact zZ h1
  rcases zZ h1 with h2|⟨_,_,_,h3⟩
  ·exact .inr ⟨s,es,h2,rfl⟩
  cases h3
theorem tw:∀{xs:List AV} {bx:List az} {i:Nat} {b:az},(fw bx xs)[i]?=some b→bx[i]?=some b∨∃s es,bx[i]?=some (.row s es)∧b=.kC s es
 |[],_,_,_,h=>.inl h
 |x::xs,bx,i,b,h=>by
  have one:∀{b:az},(lV bx x)[i]?=some b→bx[i]?=some b∨∃s es,bx[i]?=some (.row s es)∧b=.kC s es:=by
   intro b h
   cases x with
   |agg cs=>exact CA h
   |_=>simp only [lV] at h;exact zZ h
  rcases tw (xs:=xs) (bx:=lV bx x) h with h1|⟨s,es,h1,rfl⟩
  ·exact one h1
  rcases one h1 with h2|⟨_,_,_,h3⟩
  ·exact .inr ⟨s,es,h2,rfl⟩
  cases h3
theorem xT {f:Nat} {args:List AV} {vs:List Value} {v:AV} (cx:cJ G β bx w X) (hx:ak β bx w (bg β bx w X) args vs) (h:mX (bA P G) f args bx v):
 jB P f ⟨vs⟩ w fun e w'=>∃u,e=.returned u∧Ext β bx w β bx w'∧cJ G β bx w' X∧aj β bx w' (bg β bx w' X) v u:=by
 obtain ⟨nS,jO,hz,hnm,⟨dt,hl,hdt⟩,hin,hf,hv⟩:=h
 obtain ⟨e1,cxS,hargs⟩:=lR args bx nS vs cx hz hx
 have cz:∀(i:Nat) (b:az),jO[i]?=some b→b.live=true→bx[i]?=some b:=by
  intro i b hi hb
  obtain ⟨b',h1,h2,h3⟩:=hin i b hi (rG hb)
  rw [h3 hb] at h1;exact h1
 have dL:∀i,bT jO i→bT bx i:=by
  rintro i ⟨b,h1,h2⟩
  obtain ⟨b',h3,h4,_⟩:=hin i b h1 h2
  exact ⟨b',h3,h4⟩
 have WG:∀(i:Nat) (b:az),(fw bx args)[i]?=some b→b.live=true→bx[i]?=some b:=by
  intro i b hi hb
  rcases tw hi with h1|⟨s,es,_,rfl⟩
  ·exact h1
  simp [az.live] at hb
 have Uh:∀(i:Nat) (b:az),jO[i]?=some b→b.live=true→∃cs,b=.var cs∧AV.nA dt cs=true∧AV.bM.dg jO cs=true:=by
  intro i b hi hb
  rcases mr hl hi with h1|rfl|rfl
  ·exact h1
  ·simp [az.live] at hb
  simp [az.live] at hb
 let XV:Nat→Prop:=fun blk=>X blk∨∃(i:Nat) (b:az),(fw bx args)[i]?=some b∧b.live=true∧(∀b',jO[i]?=some b'→b'.live=false)∧β i=blk
 have hok:∀blk,bg β (fw bx args) w X blk→bg β jO w XV blk:=by
  rintro blk ⟨k1,k2,k3⟩
  refine ⟨k1,?_,?_⟩
  ·rintro (hX|⟨i,b,h1,h2,_,h3⟩)
   ·exact k2 hX
   exact k3 i b h1 h2 h3
  intro i b hi hb he
  obtain ⟨cs,rfl,_⟩:=Uh i b hi hb
  have rI:=cz i _ hi hb
  obtain ⟨_,b',hb',_⟩:=e1.born i ⟨_,rI,rfl⟩
  rcases tw hb' with h4|⟨s,es,h4,_⟩
  ·rw [rI] at h4;cases h4
   exact k3 i _ hb' rfl he
  rw [rI] at h4;cases h4
 have uO:∀{β1:Nat→Nat} {w':World},eZ [] args=some nS→Ext β jO w β1 jO w'→∀blk,bg β1 jO w' XV blk→bg β bx w' X blk:=by
  rintro β1 w' OV zU blk ⟨k1,k2,k3⟩
  refine ⟨k1,fun hX=>k2 (.inl hX),?_⟩
  intro i b hi hb he
  by_cases hk:∃b',jO[i]?=some b'∧b'.live=true
  ·obtain ⟨b',h1,h2⟩:=hk
   refine k3 i b' h1 h2 ?_
   rw [(zU.born i ⟨b',h1,rG h2⟩).1];exact he
  refine k2 (.inr ⟨i,b,by rw [j9 bx OV];exact hi,hb,?_,he⟩)
  intro b' hb'
  cases hq:b'.live with
  |false=>rfl
  |true=>exact absurd ⟨b',hb',hq⟩ hk
 have cxV:cJ G β jO w XV:=by
  refine ⟨?_,?_,?_,?_,?_⟩
  ·rintro blk (hX|⟨i,b,h1,h2,_,rfl⟩)
   ·exact cx.xs blk hX
   exact dj.fL (cx.box i b (WG i b h1 h2)) h2
  ·intro g ds hg
   obtain ⟨k1,k2⟩:=cxS.yM g ds hg
   exact ⟨hok g k1,aX.mono (fun blk hb=>⟨hok blk hb,rfl⟩) g (fun _=>rfl) _ _ k2⟩
  ·intro i j bi bj hi hj li lj
   exact cx.inj i j bi bj (cz i bi hi li) (cz j bj hj lj) li lj
  ·intro i b hi
   rcases mr hl hi with ⟨cs,rfl,hcs,fI⟩|rfl|rfl
   ·have hb:=cx.box i _ (cz i _ hi rfl)
    simp only [dj] at hb ⊢
    obtain ⟨c,e,g1,g2⟩:=hb
    exact ⟨c,e,g1,mo (jO:=jO) (fun b hb=>⟨rfl,hb⟩) (fun hd d v hv=>aL.mono (fun blk hb=>⟨hok blk (by rw [j9 bx (hdt hd)];exact hb),rfl⟩) d v hv) cs _ hcs fI g2⟩
   ·trivial
   trivial
  intro i b hi hb
  rintro (hX|⟨j,b2,h1,h2,h3,h4⟩)
  ·exact cx.apart i b (cz i b hi hb) hb hX
  have:j=i:=cx.inj j i b2 b (WG j b2 h1 h2) (cz i b hi hb) h2 hb h4
  subst this
  rw [h3 b hi] at hb;cases hb
 have U7:ak β jO w (bg β jO w XV) nS vs:=mq hok _ _ hnm hargs
 refine jB.mono (hf β w vs XV cxV U7) ?_
 rintro e w' ⟨β1,zU,R6,hres⟩
 have ex:Ext β bx w β bx w':=⟨zU.os,zU.tape,zU.output,zU.size,fun k hk hn=>zU.block k hk (fun i b hi hb=>hn i b (cz i b hi hb) hb),zU.shape,fun i hi=>⟨rfl,hi⟩,fun i b h1 h2=>.inr ⟨i,b,h1,h2,rfl⟩⟩
 cases e with
 |returned u=>
  refine ⟨u,rfl,ex,cx.step ex ?_ cx.inj,?_⟩
  ·intro i b hi
   by_cases hk:∃b',jO[i]?=some b'∧b'.live=true
   ·obtain ⟨b',h1,h2⟩:=hk
    have h3:=cz i b' h1 h2
    rw [hi] at h3;cases h3
    obtain ⟨cs,rfl,hcs,fI⟩:=Uh i b h1 h2
    refine .inr ?_
    have hb:=R6.box i _ h1
    simp only [dj] at hb ⊢
    obtain ⟨c,e,g1,g2⟩:=hb
    have xK:bT jO i:=⟨_,h1,rfl⟩
    rw [(zU.born i xK).1] at g1
    exact ⟨c,e,g1,mo (jO:=jO) (fun b hb=>⟨((zU.born b hb).1).symm,dL b hb⟩) (fun hd d v hv=>aL.mono (fun blk hb=>⟨uO (hdt hd) zU blk hb,rfl⟩) d v hv) cs _ hcs fI g2⟩
   refine .inl ⟨hi,fun hlv=>zU.block _ (dj.fL (cx.box i b hi) hlv) ?_⟩
   intro j b2 hj um he
   have:=cx.inj j i b2 b (cz j b2 hj um) hi um hlv he
   subst this
   exact hk ⟨b2,hj,um⟩
  rcases hv with hfl|⟨OV,hsh⟩
  ·exact FP v u hfl hres
  refine p7 ?_ v u hsh hres
  rintro blk ⟨k1,k2,k3⟩
  refine ⟨k1,fun hX=>k2 (.inl hX),?_⟩
  intro i b hi hb he
  by_cases hk:∃b',jO[i]?=some b'∧b'.live=true
  ·obtain ⟨b',h1,h2⟩:=hk
   refine k3 i b' h1 h2 ?_
   rw [(zU.born i ⟨b',h1,rG h2⟩).1];exact he
  refine k2 (.inr ⟨i,b,by rw [j9 bx OV];exact hi,hb,?_,he⟩)
  intro b' hb'
  cases hq:b'.live with
  |false=>rfl
  |true=>exact absurd ⟨b',hb',hq⟩ hk
 |panicked ch=>exact hres.elim
 |outgrown=>exact hres.elim
theorem lC {f:Nat} {args:List AV} {vs:List Value} {v:AV} {K:AV→List az→Prop} (cx:cJ G β bx w X) (hx:ak β bx w (bg β bx w X) args vs) (h:mX (bA P G) f args bx v) (hK:K v bx):
 jB P f ⟨vs⟩ w fun e w'=>∃β' aR v u,e=.returned u∧Ext β bx w β' aR w'∧cJ G β' aR w' X∧aj β' aR w' (bg β' aR w' X) v u∧K v aR:=
 jB.mono (xT cx hx h) fun _ _ ⟨u,h1,h2,h3,h4⟩=>⟨β,bx,v,u,h1,h2,h3,h4,hK⟩
end
end Dem
end
section
open Go
namespace Dem
section
variable {P:Program} {T:Nat→Option TI} {G:Nat→Option (List D)} {β:Nat→Nat} {bx:List az} {w:World} {X:Nat→Prop}
theorem OW {a b:D} (h:pp a b=true):a=b:=by
 cases a<;>cases b<;>simp [pp] at h
 ·rw [h.1,h.2]
 rw [h]
theorem FX {d:TypeDesc} {a b:D} {u v:Value} {ok:Nat→Prop} (ha:nM (cU d) a=true) (hb:nM (cU d) b=true) (hu:aL w ok a u) (hv:aL w ok b v):Instr.sameNow d u v=some (pp a b):=by
 cases d<;>cases a<;>simp [cU,nM] at ha<;>cases b<;>simp [cU,nM] at hb<;>simp only [aL] at hu hv<;>subst hu hv
 ·subst ha hb;simp only [Instr.sameNow,pp,if_true,beq_self_eq_true,Bool.true_and];congr 1
 rename_i a b
 have:(⟨a.toArray⟩:ByteArray)=⟨b.toArray⟩↔a=b:=by
  constructor
  ·intro h;simpa using h
  rintro rfl;rfl
 by_cases h:a=b
 ·subst h;simp only [Instr.sameNow,pp];congr 1;show (a.toArray==a.toArray)=decide True;simp
 have h2:¬((⟨a.toArray⟩:ByteArray)=⟨b.toArray⟩):=fun e=>h (this.1 e)
 simp only [Instr.sameNow,pp];congr 1;show (a.toArray==b.toArray)=decide (a=b);rw [show decide (a=b)=false by simp [h]];exact beq_eq_false_iff_ne.2 (fun e=>h (by simpa using e))
theorem Mx {kd:Kd} {a:D} {u v:Value} {ok:Nat→Prop} (ha:nM kd a=true) (hu:aL w ok a u) (hv:aL w ok a v):u=v:=by
 cases a<;>cases kd<;>simp [nM] at ha<;>simp only [aL] at hu hv<;>rw [hu,hv]
theorem p9 {d:TypeDesc} {ag:Bool} {n:Nat} {k:D} {kv:Value} {ok:Nat→Prop} (hk:nM (cU d) k=true) (hkv:aL w ok k kv):
 ∀(es:List (List D)) (ms:List MapEntry) (i:Nat),bp w ok ag es ms→(∀r∈es,rowIs (cU d) n r)→
  (wm es k=none∧Instr.findNow d kv ms i=some none∧∀v,sn es k v=es++[k::v])∨
  (∃(j:Nat) (m:MapEntry) (ds:List D),Instr.findNow d kv ms i=some (some (i+j,m.val))∧ms[j]?=some m∧wm es k=some ds∧ds.length=n∧m.key=kv∧gZ w ok ag (k::ds) m∧∀v,sn es k v=es.set j (k::v))
 |[],ms,i,h,_=>by
  simp only [bp] at h;subst h
  exact .inl ⟨rfl,rfl,fun _=>rfl⟩
 |r::rs,ms,i,h,hr=>by
  simp only [bp] at h
  obtain ⟨m,Fg,rfl,h1,h2⟩:=h
  obtain ⟨x,ds,rfl,hx,hl⟩:=hr r (by simp)
  have Lc:=h1
  simp only [gZ] at h1
  obtain ⟨g1,g2⟩:=h1
  have hs:=FX hk hx hkv g1
  simp only [wm,sn,Instr.findNow,hs]
  cases he:pp k x with
  |true=>
   obtain rfl:=OW he
   refine .inr ⟨0,m,ds,by simp,by simp,by simp,hl,Mx hk g1 hkv,Lc,fun v=>by simp⟩
  |false=>
   simp only [cond_false]
   rcases p9 hk hkv rs Fg (i+1) h2 (fun r hr'=>hr r (by simp [hr'])) with ⟨k1,k2,k3⟩|⟨j,m',ds',k1,k2,k3,k4,k5,k6,k7⟩
   ·exact .inl ⟨k1,k2,fun v=>by rw [k3];rfl⟩
   refine .inr ⟨j+1,m',ds',?_,by simpa using k2,k3,k4,k5,k6,fun v=>by rw [k7];rfl⟩
   rw [k1,show i+1+j=i+(j+1) by omega]
theorem run_checkKey {e:Bool} {t:Nat} {d:TypeDesc} {k:D} {kv:Value} {ok:Nat→Prop} (ht:P.underlying t=some d) (hk:nM (cU d) k=true) (hkv:aL w ok k kv):(Instr.checkKey e 10000 t kv).run P w=.ok () w:=by
 show (Instr.checkKey e (9999+1) t kv).run P w=.ok () w
 unfold Instr.checkKey
 cases d<;>cases k<;>simp [cU,nM] at hk<;>simp only [aL] at hkv<;>subst hkv<;>simp [aV ht]
theorem run_findKey {t:Nat} {d:TypeDesc} {kv:Value} {ms:List MapEntry} {r:Option (Nat×Value)} (ht:P.underlying t=some d) (h:Instr.findNow d kv ms 0=some r):(Instr.findKey t kv ms).run P w=.ok r w:=by
 unfold Instr.findKey
 simp [aV ht,h]
theorem bp.append {ag:Bool} {ok:Nat→Prop}:∀{es:List (List D)} {ms:List MapEntry} {fs:List (List D)} {ns:List MapEntry},bp w ok ag es ms→bp w ok ag fs ns→bp w ok ag (es++fs) (ms++ns)
 |[],ms,fs,ns,h,g=>by simp only [bp] at h;subst h;exact g
 |r::rs,ms,fs,ns,h,g=>by
  simp only [bp] at h
  obtain ⟨m,Fg,rfl,h1,h2⟩:=h
  simp only [List.cons_append,bp]
  exact ⟨m,_,rfl,h1,h2.append g⟩
theorem bp.set {ag:Bool} {ok:Nat→Prop} {r:List D} {m:MapEntry} (hm:gZ w ok ag r m):∀{es:List (List D)} {ms:List MapEntry} (j:Nat),bp w ok ag es ms→bp w ok ag (es.set j r) (ms.set j m)
 |[],ms,j,h=>by simp only [bp] at h;subst h;simp [bp]
 |x::xs,ms,0,h=>by
  simp only [bp] at h
  obtain ⟨m',Fg,rfl,h1,h2⟩:=h
  simp only [List.set_cons_zero,bp]
  exact ⟨m,Fg,rfl,hm,h2⟩
 |x::xs,ms,j+1,h=>by
  simp only [bp] at h
  obtain ⟨m',Fg,rfl,h1,h2⟩:=h
  simp only [List.set_cons_succ,bp]
  exact ⟨m',_,rfl,h1,bp.set hm j h2⟩
theorem cG.Xe {ok:Nat→Prop}:∀{ds:List D} {vs:List Value},cG w ok ds vs→ak β bx w ok (ds.map .d) vs
 |[],vs,h=>by simp only [cG] at h;subst h;simp [ak]
 |d::ds,vs,h=>by
  simp only [cG] at h
  obtain ⟨v,r,rfl,h1,h2⟩:=h
  simp only [List.map_cons,ak]
  exact ⟨v,r,rfl,by simpa [aj] using h1,h2.Xe⟩
theorem cG.length {ok:Nat→Prop}:∀{ds:List D} {vs:List Value},cG w ok ds vs→vs.length=ds.length
 |[],vs,h=>by simp only [cG] at h;subst h;rfl
 |d::ds,vs,h=>by
  simp only [cG] at h
  obtain ⟨v,r,rfl,_,h2⟩:=h
  simp [cG.length h2]
theorem gZ.val {ag:Bool} {ok:Nat→Prop} {k:D} {ds:List D} {m:MapEntry} (h:gZ w ok ag (k::ds) m) {n:Nat} (hn:ds.length=n) {v:AV} (hv:cM ag n (ds.map .d)=some v):aj β bx w ok v m.val:=by
 simp only [gZ] at h
 obtain ⟨_,cs,h2,h3,h4⟩:=h
 have hl:=h4.length
 have ha:=h4.Xe (β:=β) (bx:=bx)
 cases ag with
 |true=>
  simp only [cM,cond_true] at hv
  rw [cond_true] at h2
  have hle:Nat.ble n (ds.map AV.d).length=true:=by simp [hn]
  simp only [hle,cond_true,osI] at hv
  subst hv
  rw [h2];simp only [aj]
  refine ⟨cs,rfl,?_⟩
  rw [List.take_of_length_le (by simp [hn])];exact ha
 |false=>
  simp only [cM,cond_false] at hv
  rw [cond_false] at h2
  have h1:=h3 rfl
  obtain ⟨c,rfl⟩:∃c,cs=[c]:=by
   match cs,h1 with
   |[c],_=>exact ⟨c,rfl⟩
  cases ds with
  |nil=>simp at hl
  |cons d ds=>
   simp at hv;subst hv
   rw [h2]
   simp only [List.map_cons,ak] at ha
   obtain ⟨u,us,e,g,_⟩:=ha
   simp at e;obtain ⟨rfl,rfl⟩:=e
   simpa [aj] using g
theorem zb {r c:Nat} {es:Array MapEntry} (h:w.heap[r]?=some (.map es c)):(getObj r).run P w=.ok (.map es c) w:=by simp [getObj,Sem.run,h]
theorem run_setObj_map {r c:Nat} {es:Array MapEntry} (o:Obj) (h:w.heap[r]?=some (.map es c)):(setObj r o).run P w=.ok () {w with heap:=w.heap.setIfInBounds r o}:=by simp [setObj,Sem.run,h]
theorem CB (hT:kr P T) (cx:cJ G β bx w X) {ty:Nat} {m:AV} {u:Value} {tk te:TI} {ag:Bool} {es:List (List D)} (h:zG T ty m bx=some (tk,te,ag,es)) (hu:aj β bx w (bg β bx w X) m u):
 ∃(kt et:Nat) (dk:TypeDesc),P.underlying ty=some (.map kt et)∧P.underlying kt=some dk∧tk.kd=cU dk∧pJ P et=some te∧
  ((u=.map none∧es=[])∨∃r ms clock,u=.map (some r)∧w.heap[r]?=some (.map ms clock)∧lZ ms clock∧bp w (bg β bx w X) ag es ms.toList):=by
 unfold zG at h
 split at h
 ·rename_i ti ht
  obtain ⟨i,d,h1,h2,h3,h4,h5,h6⟩:=aK (hT.ti _ _ ht)
  split at h
  ·rename_i k e hk
   rw [h5] at hk
   cases d<;>simp [cU] at hk
   obtain ⟨wi,hk2⟩:=hk
   rw [wi,hk2] at h2
   have fin:∀{Lf U9:TI} {RI:Bool} {es':List (List D)},T k=some Lf→T e=some U9→(Lf,U9,RI,es')=(tk,te,ag,es)→
    ((u=.map none∧es=[])∨∃r ms clock,u=.map (some r)∧w.heap[r]?=some (.map ms clock)∧lZ ms clock∧bp w (bg β bx w X) ag es ms.toList)→∃(kt et:Nat) (dk:TypeDesc),P.underlying ty=some (.map kt et)∧P.underlying kt=some dk∧tk.kd=cU dk∧pJ P et=some te∧
    ((u=.map none∧es=[])∨∃r ms clock,u=.map (some r)∧w.heap[r]?=some (.map ms clock)∧lZ ms clock∧bp w (bg β bx w X) ag es ms.toList):=by
    intro Lf U9 RI es' a1 a2 a3 a4
    simp only [Prod.mk.injEq] at a3
    obtain ⟨rfl,rfl,rfl,rfl⟩:=a3
    obtain ⟨_,dk,_,b2,_,_,b5,_⟩:=aK (hT.ti _ _ a1)
    exact ⟨k,e,dk,h2,b2,b5,hT.ti _ _ a2,a4⟩
   split at h
   ·rename_i Lf U9 RI es' a1 a2
    simp only [osI] at h
    refine fin a1 a2 h ?_
    simp only [Prod.mk.injEq] at h
    obtain ⟨rfl,rfl,rfl,rfl⟩:=h
    simp only [aj,aL] at hu
    obtain ⟨r,ms,clock,g1,_,g2,g3,g4⟩:=hu
    exact .inr ⟨r,ms,clock,g1,g2,g3,g4⟩
   ·rename_i Lf U9 a1 a2
    simp only [osI] at h
    refine fin a1 a2 h ?_
    simp only [Prod.mk.injEq] at h
    obtain ⟨rfl,rfl,rfl,rfl⟩:=h
    simp only [aj,KC.val] at hu
    exact .inl ⟨hu,rfl⟩
   ·rename_i Lf U9 b a1 a2
    split at h
    ·rename_i RI es' hb
     simp only [osI] at h
     refine fin a1 a2 h ?_
     simp only [Prod.mk.injEq] at h
     obtain ⟨rfl,rfl,rfl,rfl⟩:=h
     simp only [aj] at hu
     obtain ⟨ms,clock,g2,g3,g4⟩:=cx.box b _ hb
     exact .inr ⟨β b,ms,clock,hu.1,g2,g3,g4⟩
    cases h
   cases h
  cases h
 cases h
theorem IS (hT:kr P T) (cx:cJ G β bx w X) {ty:Nat} {m:AV} {u kv:Value} {k:D} {tk te:TI} {ag BU:Bool} {es:List (List D)} (h:zG T ty m bx=some (tk,te,ag,es)) (hu:aj β bx w (bg β bx w X) m u)
 (hkv:aL w (bg β bx w X) k kv) (hf:wo tk te ag es k) {K:AV→Prop} (hK:oz te BU K (wm es k)):
 ∃v x,(Instr.lookup ty u kv BU).run P w=.ok x w∧aj β bx w (bg β bx w X) v x∧K v:=by
 obtain ⟨kt,et,dk,u1,u2,u3,u4,hu⟩:=CB hT cx h hu
 obtain ⟨f1,f2,f3⟩:=hf
 rw [u3] at f2 f3
 have none_:∀ms:Array MapEntry,(∃e:Bool,Instr.findNow dk kv ms.toList 0=some none)→wm es k=none→(u=.map none∧ms=#[]∨∃r clock,u=.map (some r)∧w.heap[r]?=some (.map ms clock))→
  ∃v x,(Instr.lookup ty u kv BU).run P w=.ok x w∧aj β bx w (bg β bx w X) v x∧K v:=by
  rintro ms ⟨_,hfn⟩ hg hms
  rw [hg] at hK
  simp only [oz] at hK
  split at hK
  ·rename_i z hz
   obtain ⟨zv,z1,z2⟩:=FK (β:=β) (bx:=bx) (w:=w) (ok:=bg β bx w X) u4 hz
   refine ⟨_,bif BU then .tuple #[zv,.bool false] else zv,?_,?_,hK⟩
   ·rcases hms with ⟨rfl,rfl⟩|⟨r,clock,rfl,hh⟩
    ·unfold Instr.lookup
     cases BU<;>simp [aV u1,run_checkKey u2 f2 hkv,run_findKey (w:=w) u2 hfn,z1]
    unfold Instr.lookup
    cases BU<;>simp [aV u1,zb hh,run_checkKey u2 f2 hkv,run_findKey (w:=w) u2 hfn,z1]
   cases BU with
   |true=>simp only [cond_true,aj,ak,aL];exact ⟨_,rfl,_,_,rfl,z2,_,_,rfl,rfl,rfl⟩
   |false=>exact z2
  exact hK.elim
 rcases hu with ⟨rfl,rfl⟩|⟨r,ms,clock,rfl,hh,hst,OX⟩
 ·exact none_ #[] ⟨true,rfl⟩ rfl (.inl ⟨rfl,rfl⟩)
 rcases p9 f2 hkv es ms.toList 0 OX f3 with ⟨k1,k2,_⟩|⟨j,e,ds,k1,k2,k3,k4,k5,k6,_⟩
 ·exact none_ ms ⟨true,k2⟩ k1 (.inr ⟨r,clock,rfl,hh⟩)
 rw [k3] at hK
 simp only [oz] at hK
 split at hK
 ·rename_i v hv
  have hvv:=k6.val (β:=β) (bx:=bx) k4 (by rw [←f1] at hv;exact hv)
  refine ⟨_,bif BU then .tuple #[e.val,.bool true] else e.val,?_,?_,hK⟩
  ·unfold Instr.lookup
   cases BU<;>simp [aV u1,zb hh,run_checkKey u2 f2 hkv,run_findKey (w:=w) u2 k1]
  cases BU with
  |true=>simp only [cond_true,aj,ak,aL];exact ⟨_,rfl,_,_,rfl,hvv,_,_,rfl,rfl,rfl⟩
  |false=>exact hvv
 exact hK.elim
theorem z6 {b:Nat} {B B':az} {o o':Obj} (hb:bx[b]?=some B) (hl:B.live=true) (hl':B'.live=true) (hh:w.heap[β b]?=some o) (ho:∀c e f,o≠.cells c e f):
 Ext β bx w β (bx.set b B') {w with heap:=w.heap.setIfInBounds (β b) o'}:=by
 refine ⟨rfl,rfl,rfl,by simp,?_,?_,fun i hi=>⟨rfl,iH (rG hl') hi⟩,?_⟩
 ·intro k hk hlk
  have hne:β b≠k:=hlk b _ hb hl
  simp [Array.getElem?_setIfInBounds_ne hne]
 ·intro k c e f hk
  have hne:β b≠k:=by rintro rfl;rw [hh] at hk;cases hk;exact ho c e f rfl
  exact ⟨c,by simp [Array.getElem?_setIfInBounds_ne hne,hk],rfl⟩
 intro i Bi hi mQ
 rcases aM hi with ⟨rfl,_,_⟩|⟨_,h⟩
 ·exact .inr ⟨i,_,hb,hl,rfl⟩
 exact .inr ⟨i,Bi,h,mQ,rfl⟩
theorem IT (cx:cJ G β bx w X) {b:Nat} {B B':az} {o o':Obj} (hb:bx[b]?=some B) (hl:B.live=true) (hl':B'.live=true) (hh:w.heap[β b]?=some o) (ho:∀c e f,o≠.cells c e f)
 (hB:dj β (bx.set b B') {w with heap:=w.heap.setIfInBounds (β b) o'} (bg β (bx.set b B') {w with heap:=w.heap.setIfInBounds (β b) o'} X) B' (β b)):
 cJ G β (bx.set b B') {w with heap:=w.heap.setIfInBounds (β b) o'} X:=by
 refine cx.step (z6 hb hl hl' hh ho) ?_ ?_
 ·intro i Bi hi
  rcases aM hi with ⟨rfl,rfl,_⟩|⟨hne,h⟩
  ·exact .inr hB
  refine .inl ⟨h,fun mQ=>?_⟩
  have OL:β b≠β i:=fun he=>hne (cx.inj b i _ Bi hb h hl mQ he).symm
  simp [Array.getElem?_setIfInBounds_ne OL]
 intro i j bi bj hi hj mQ oJ he
 rcases aM hi with ⟨rfl,rfl,_⟩|⟨h1,h2⟩<;>rcases aM hj with ⟨rfl,rfl,_⟩|⟨h3,h4⟩
 ·rfl
 ·exact cx.inj _ _ _ _ hb h4 hl oJ he
 ·exact cx.inj _ _ _ _ h2 hb mQ hl he
 exact cx.inj _ _ _ _ h2 h4 mQ oJ he
theorem Se {ok:Nat→Prop} {x:AV} {y:D} {u:Value} (hn:cF [x]=true) (h:x.rq bx=some y) (hx:aj β bx w ok x u):aL w ok y u:=by
 cases x with
 |d x=>simp only [AV.rq,osI] at h;subst h;simpa [aj] using hx
 |cl es=>
  simp only [AV.rq,osI] at h;subst h
  simp only [aj] at hx
  obtain ⟨base,rfl,g⟩:=hx
  simp only [aL];exact ⟨base,_,rfl,Nat.le_refl _,g⟩
 |ow b sz n=>simp [cF] at hn
 |fn f cs=>
  cases cs with
  |nil=>
   simp only [AV.rq,osI] at h;subst h
   simp only [aj,ak] at hx
   obtain ⟨vs,rfl,rfl⟩:=hx
   simp [aL,zI]
  |cons c cs=>simp [AV.rq] at h
 |_=>simp [AV.rq] at h
theorem DZ {x:AV} {xs:List AV} (h:cF (x::xs)=true):cF [x]=true∧cF xs=true:=by
 cases x<;>simp_all [cF]
theorem z7 {ok:Nat→Prop}:∀{xs:List AV} {ys:List D} {us:List Value},cF xs=true→iV bx xs=some ys→ak β bx w ok xs us→cG w ok ys us
 |[],ys,us,_,h,hx=>by simp [iV] at h;subst h;simp only [ak] at hx;subst hx;simp [cG]
 |x::xs,ys,us,hn,h,hx=>by
  simp only [iV] at h
  split at h
  ·rename_i y ys' h1 h2
   simp only [osI] at h;subst h
   simp only [ak] at hx
   obtain ⟨u,Ox,rfl,g1,g2⟩:=hx
   obtain ⟨n1,n2⟩:=DZ hn
   simp only [cG]
   exact ⟨u,Ox,rfl,Se n1 h1 g1,z7 n2 h2 g2⟩
  simp at h
theorem D1 {kd:Kd} {k:D} {kv:Value} {ok:Nat→Prop} (hk:nM kd k=true) (h:aL w ok k kv):Instr.sameBits 10000 kv kv=true:=by
 cases k<;>cases kd<;>simp [nM] at hk<;>simp only [aL] at h<;>subst h
 ·simp [Instr.sameBits]
 rename_i s
 show (s.toArray==s.toArray)=true
 simp
theorem tB {ms:Array MapEntry} {j:Nat} {m:MapEntry} (h:ms.toList[j]?=some m) (f:MapEntry→MapEntry):(ms.modify j f).toList=ms.toList.set j (f m):=by
 rw [Array.toList_modify]
 obtain ⟨hj,rfl⟩:=List.getElem?_eq_some_iff.1 h
 apply List.ext_getElem?
 intro i
 rw [List.getElem?_modify,List.getElem?_set]
 by_cases hi:j=i
 ·subst hi
  have hj2:j<ms.size:=by simpa using hj
  simp [hj2]
 simp [hi]
theorem OY {ok:Nat→Prop} {x:AV} {xv:Value} {vs:List AV} {ds:List D} {k:D} {e:MapEntry} {ag:Bool} (hc:x.cells?=some vs) (hx:aj β bx w ok x xv) (hn:cF vs=true) (hd:iV bx vs=some ds) (ha:x.isAgg=ag)
 (hk:aL w ok k e.key) (he:e.val=xv):gZ w ok ag (k::ds) e:=by
 simp only [gZ]
 refine ⟨hk,?_⟩
 rw [he]
 cases x with
 |agg cs=>
  simp only [AV.cells?] at hc
  cases hs:ur cs with
  |false=>simp [hs] at hc
  |true=>
   simp only [hs,cond_true,osI] at hc
   subst hc
   simp only [AV.isAgg] at ha;subst ha
   simp only [aj] at hx
   obtain ⟨us,rfl,g⟩:=hx
   exact ⟨us,rfl,fun h=>(by cases h),z7 hn hd g⟩
 |any=>simp [AV.cells?] at hc
 |vw _ _ _ _ _ _=>simp [AV.cells?] at hc
 |dV _=>simp [AV.cells?] at hc
 |cond _ _=>simp [AV.cells?] at hc
 |_=>
  simp only [AV.cells?,osI] at hc
  subst hc
  simp only [AV.isAgg] at ha;subst ha
  exact ⟨[xv],rfl,fun _=>rfl,z7 hn hd (by simp only [ak];exact ⟨xv,[],rfl,hx,rfl⟩)⟩
theorem FY (hT:kr P T) (cx:cJ G β bx w X) {ty b:Nat} {m x:AV} {u kv xv:Value} {k:D} {tk te:TI} {ag:Bool} {es:List (List D)} {vs:List AV} {ds:List D} (h:DN T ty m bx=some (b,tk,te,ag,es)) (hu:aj β bx w (bg β bx w X) m u)
 (hkv:aL w (bg β bx w X) k kv) (Fh:aj β bx w (bg β bx w X) x xv) (hc:x.cells?=some vs) (hn:cF vs=true) (hd:iV bx vs=some ds) (hf:wo tk te ag es k) (ha:x.isAgg=ag):
 ∃w',(Instr.mapUpdate ty u kv xv).run P w=.ok () w'∧Ext β bx w β (bx.set b (.mp ag (sn es k ds))) w'∧cJ G β (bx.set b (.mp ag (sn es k ds))) w' X:=by
 unfold DN at h
 split at h
 case h_2=>cases h
 rename_i b' Lf U9 RI es' hm
 simp only [osI,Prod.mk.injEq] at h
 obtain ⟨rfl,rfl,rfl,rfl,rfl⟩:=h
 obtain ⟨kt,et,dk,u1,u2,u3,u4,_⟩:=CB hT cx hm hu
 obtain ⟨f1,f2,f3⟩:=hf
 rw [u3] at f2 f3
 have hb:bx[b']?=some (.mp RI es'):=by
  unfold zG at hm
  split at hm
  ·split at hm
   ·split at hm
    ·rename_i _ _ h0;cases h0
    ·rename_i _ _ h0;cases h0
    ·rename_i _ _ h0
     cases h0
     split at hm
     ·rename_i hb
      simp only [osI,Prod.mk.injEq] at hm
      obtain ⟨_,_,rfl,rfl⟩:=hm
      exact hb
     cases hm
    cases hm
   cases hm
  cases hm
 simp only [aj] at hu
 obtain ⟨rfl,_⟩:=hu
 obtain ⟨ms,clock,hh,⟨Va,st2⟩,OX⟩:=cx.box b' _ hb
 have main:∀(Fg:Array MapEntry) (clock':Nat),lZ Fg clock'→bp w (bg β bx w X) RI (sn es' k ds) Fg.toList→
  (Instr.mapUpdate ty (.map (some (β b'))) kv xv).run P w=.ok () {w with heap:=w.heap.setIfInBounds (β b') (.map Fg clock')}→
  ∃w',(Instr.mapUpdate ty (.map (some (β b'))) kv xv).run P w=.ok () w'∧Ext β bx w β (bx.set b' (.mp RI (sn es' k ds))) w'∧cJ G β (bx.set b' (.mp RI (sn es' k ds))) w' X:=by
  intro Fg clock' g1 g2 g3
  have ex:Ext β bx w β (bx.set b' (.mp RI (sn es' k ds))) {w with heap:=w.heap.setIfInBounds (β b') (.map Fg clock')}:=z6 hb rfl rfl hh (fun c e f=>by simp)
  refine ⟨_,g3,ex,IT cx hb rfl rfl hh (fun c e f=>by simp) ?_⟩
  exact ⟨Fg,clock',by simp [ff hh],g1,bp.mono (ex.keeps X) _ _ _ g2⟩
 rcases p9 f2 hkv es' ms.toList 0 OX f3 with ⟨k1,k2,k3⟩|⟨j,e,ds',k1,k2,k3,k4,k5,k6,k7⟩
 ·refine main (ms.push {key:=kv,val:=xv,born:=clock}) (clock+1) ⟨?_,?_⟩ ?_ ?_
  ·rw [Array.all_push]
   simp only [Bool.and_eq_true,decide_eq_true_eq]
   refine ⟨?_,by omega⟩
   rw [Array.all_eq_true] at Va ⊢
   intro i hi
   have:=Va i hi
   simp only [decide_eq_true_eq] at this ⊢
   omega
  ·rw [Array.toList_push,List.map_append,List.nodup_append]
   refine ⟨st2,by simp,?_⟩
   intro a Ui c BW
   simp at BW
   obtain ⟨m',hm',rfl⟩:=List.mem_map.1 Ui
   have:m'.born<clock:=by
    rw [Array.all_eq_true_iff_forall_mem] at Va
    simpa using Va m' (by simpa using hm')
   omega
  ·rw [k3,Array.toList_push]
   refine OX.append ?_
   simp only [bp]
   exact ⟨_,[],rfl,OY hc Fh hn hd ha hkv rfl,rfl⟩
  unfold Instr.mapUpdate
  simp [aV u1,zb hh,run_checkKey u2 f2 hkv,run_findKey (w:=w) u2 k2,run_setObj_map _ hh]
 have ZD:=D1 f2 hkv
 refine main (ms.modify j fun e=>{e with key:=kv,val:=xv}) clock ⟨?_,?_⟩ ?_ ?_
 ·rw [Array.all_eq_true_iff_forall_mem] at Va ⊢
  intro y hy
  have OZ:y∈(ms.modify j fun e=>{e with key:=kv,val:=xv}).toList:=Array.mem_def.1 hy
  rw [tB k2] at OZ
  rcases List.mem_or_eq_of_mem_set OZ with h1|h1
  ·exact Va y (by simpa using h1)
  subst h1
  exact Va e (by simpa using List.mem_of_getElem? k2)
 ·rw [tB k2,List.map_set]
  have:(ms.toList.map (·.born)).set j ({e with key:=kv,val:=xv}:MapEntry).born=ms.toList.map (·.born):=by
   apply List.ext_getElem?
   intro i
   rw [List.getElem?_set]
   by_cases hi:j=i
   ·subst hi
    have:=(List.getElem?_eq_some_iff.1 k2).1
    simp [k2] at this ⊢
    simp [this]
   simp [hi]
  rw [this];exact st2
 ·rw [k7,tB k2]
  exact bp.set (OY hc Fh hn hd ha hkv rfl) j OX
 unfold Instr.mapUpdate
 simp only [Nat.zero_add] at k1
 have k2':ms[j]?=some e:=by simpa using k2
 simp [aV u1,zb hh,run_checkKey u2 f2 hkv,run_findKey (w:=w) u2 k1,run_setObj_map _ hh,Instr.keyThatStays,k2',k5,ZD]
end
end Dem
end
section
open Go
namespace Dem
section
variable {P:Program} {T:Nat→Option TI} {G:Nat→Option (List D)} {β:Nat→Nat} {bx:List az} {w:World} {X:Nat→Prop}
theorem IU (cx:cJ G β bx w X) {e size cap:Nat} {rows:List (List D)} {vs zs:List Value} (hl:∀r∈rows,r.length=size) (hv:ak β bx w (bg β bx w X) (rows.flatten.map .d) vs)
 (hlen:rows.length≤cap):
 let w':World:={w with drawn:=w.drawn+1,heap:=w.heap.push (.cells ⟨vs++zs⟩ e)}
 Ext β bx w β bx w'∧cJ G β bx w' X∧aj β bx w' (bg β bx w' X) (.d (.sl rows)) (.slice (some ⟨w.heap.size,0,none⟩) rows.length cap):=by
 intro w'
 have R6:=pV cx (fy w)
 have zU:Ext β bx w β bx {w with drawn:=w.drawn+1}:=jg (fy w)
 have W9:Ext β bx {w with drawn:=w.drawn+1} β bx w':=uz (w:={w with drawn:=w.drawn+1}) (.cells ⟨vs++zs⟩ e)
 have hnew:w'.heap[w.heap.size]?=some (.cells ⟨vs++zs⟩ e):=jk {w with drawn:=w.drawn+1} _
 refine ⟨zU.trans W9,Fv (w:={w with drawn:=w.drawn+1}) R6 _,?_⟩
 simp only [aj,aL]
 refine ⟨_,_,rfl,hlen,.inr ⟨w.heap.size,0,size,rfl,⟨ff hnew,fun hX=>?_,fun i b hb hlv=>?_⟩,?_⟩⟩
 ·exact Nat.lt_irrefl _ (cx.xs _ hX)
 ·have:=(cx.box i b hb).fL hlv;omega
 refine mY (β:=β) (bx:=bx) rows 0 vs hl ?_ (ak.mono ((zU.trans W9).eY X) _ _ hv)
 intro k u hk
 have hk':k<vs.length:=by
  rcases Nat.lt_or_ge k vs.length with h|h
  ·exact h
  simp [List.getElem?_eq_none h] at hk
 show World.cell? w' ⟨w.heap.size,0+k,none⟩=some u
 simp only [World.cell?,hnew]
 simp [List.getElem?_append_left hk',hk]
theorem CC (hT:kr P T) (cx:cJ G β bx w X) {ev:Operand→AV} {ρ:Operand→Value} {o:Oper} (hρ:∀x∈o.op.operands.toList,aj β bx w (bg β bx w X) (ev x) (ρ x))
 {c:Prop} {es:List (List D)} (hr:BY T ev o.op=some (c,es)) (hc:c):dz G β bx w X ((execOp ρ o).run P w) (.d (.sl es)) bx:=by
 obtain ⟨dst,op,type,pos,after,guard⟩:=o
 simp only at hρ hr
 unfold BY at hr
 split at hr
 case h_2=>cases hr
 rename_i b args ats
 split at hr
 case h_2=>cases hr
 rename_i x y t u ha U6
 cases ht:T t with
 |none=>simp [ht] at hr
 |some ti=>
 cases hu:T u with
 |none=>simp [ht,hu] at hr
 |some tu=>
 simp only [ht,hu] at hr
 obtain ⟨i,d,h1,h2,h3,h4,h5,h6⟩:=aK (hT.ti _ _ ht)
 obtain ⟨ui,ud,u1,u2,u3,u4,u5,u6⟩:=aK (hT.ti _ _ hu)
 cases hk:ti.kd with
 |slice e=>
  cases hku:tu.kd with
  |slice e2=>
   rw [hk] at hr h5
   rw [hku] at hr u5
   have DT:∀k,ud≠.int k:=by rintro k rfl;cases u5
   cases d<;>simp [cU] at h5
   subst h5
   cases hte:T e with
   |none=>simp [hte] at hr
   |some te=>
   obtain ⟨ei,ed,g1,g2,g3,g4,g5,g6⟩:=aK (hT.ti _ _ hte)
   simp only [hte] at hr
   cases hz:eN te with
   |false=>simp [hz] at hr
   |true=>
   obtain ⟨z,hz1,RF,Y0,Y1⟩:=mg hz
   obtain ⟨zv,zc,k1,k2,k3,_⟩:=uG (β:=β) (bx:=bx) (w:=w) (ok:=bg β bx w X) (hT.ti _ _ hte) hz1
   have hzl:zc.length=ei.size:=by rw [ak.length k3,RF,g3]
   have yZ:ei.zero=some zv:=by
    cases hq:ei.zero with
    |none=>rw [g6,hq] at hz1;simp [AV.cells?] at hz1
    |some q=>have:=gL (P:=P) (w:=w) g1 hq;rw [k1] at this;simp at this;rw [this]
   simp only [hz,cond_true] at hr
   split at hr
   case h_2=>cases hr
   rename_i es x0 xr hx hy
   simp only [osI,Prod.mk.injEq] at hr
   obtain ⟨rfl,rfl⟩:=hr
   obtain ⟨BW,BX⟩:=hc
   have mx:x∈args.toList:=by rw [ha];simp
   have my:y∈args.toList:=by rw [ha];simp
   have hs:=hρ x (by simp [Op.operands,Call.operands];exact by simpa using mx)
   have hxx:=hρ y (by simp [Op.operands,Call.operands];exact by simpa using my)
   rw [hx] at hs
   rw [hy] at hxx
   obtain ⟨ws,f1,f2⟩:=lz (P:=P) (xs:=x0::xr) cx hxx (by simp [kD,AV.rows]) (fun r hr=>BX r (List.mem_append.2 (.inr hr)))
   rw [g3] at f1
   simp only [aj] at hs
   obtain ⟨base,hsx,hbase⟩:=hs
   have fin:∀(os:List Value),gx P w ei.size es.length (.slice base es.length es.length) os→ak β bx w (bg β bx w X) (es.flatten.map .d) os→dz G β bx w X ((execOp ρ ⟨dst,.call {callee:=.builtin .append,args:=args,argTypes:=ats},type,pos,after,guard⟩).run P w) (.d (.sl (es++x0::xr))) bx:=by
    intro os o1 o2
    obtain ⟨cap,rest,q1,q2,zs,q3,q4⟩:=jA h2 u2 DT g1 yZ k2 hzl f1 o1 (by simp) (by omega) (by rw [←g4];exact BW) type
    obtain ⟨r1,r2,r3⟩:=IU (e:=e) (size:=te.size) (cap:=cap) (rows:=es++(x0::xr)) (zs:=zs) (vs:=os++ws) cx BX (ak.flatten_append o2 f2) (by rw [List.length_append];exact q1)
    rw [List.length_append] at r3
    refine ⟨β,_,r1,r2,.inl ⟨_,?_,r3⟩⟩
    simp only [execOp,resolve,Sem.run_bind,Sem.run_pure,Result.andThen_ok,invoke,fP args ρ]
    have ea:ats=⟨[t,u]⟩:=Array.toList_inj.1 (by rw [U6])
    rw [ha,List.map_cons,List.map_cons,List.map_nil,hsx,ea]
    exact bJ _ q4
   cases es with
   |nil=>
    refine fin [] ⟨dn,by simp,fun w' _=>⟨dn,?_⟩⟩ (by simp [ak])
    cases base<;>simp [Builtin.firstCells,loadCells,loadCellsFrom]
   |cons e0 er=>
    obtain ⟨os,o1,o2⟩:=dN (P:=P) (β:=β) (bx:=bx) (cap:=(e0::er).length) (base:=base) (es:=e0::er) (ok:=bg β bx w X) (fun r hr=>BX r (List.mem_append.2 (.inl hr))) (hbase.imp id fun ⟨blk,off,sz,a,_,c⟩=>⟨blk,off,sz,a,c⟩)
    rw [g3] at o1
    exact fin os o1 o2
  |_=>simp [hk,hku] at hr
 |_=>simp [hk] at hr
end
end Dem
end
section
open Go
namespace Dem
section
variable {P:Program} {T:Nat→Option TI} {G:Nat→Option (List D)} {N:Nat} {ds:List Deferred} {β:Nat→Nat} {bx:List az} {w:World} {X:Nat→Prop}
structure Fr (G:Nat→Option (List D)) (N:Nat) (ds:List Deferred) (β:Nat→Nat) (w:World) (X:Nat→Prop) (s:St) (a:Act):Prop where
 cx:cJ G β s.bx w X
 defers:a.defers=ds
 size:a.tmps.size=N
 ze:∀t,aj β s.bx w (bg β s.bx w X) (gK t s.sl) (a.tmps.getD t undef)
theorem WI {n m:Nat} (h:n≠m):Nat.beq n m=false:=by
 cases hb:Nat.beq n m with
 |false=>rfl
 |true=>exact absurd (Nat.eq_of_beq_eq_true hb) h
theorem oK (t u:Nat) (v:AV):∀sl:List (Nat×AV),gK t (put u v sl)=if t=u then v else gK t sl
 |[]=>by
  simp only [put,gK]
  by_cases h:t=u
  ·simp [h]
  have:Nat.beq t u=false:=WI h
  simp [this,h]
 |(k,x)::r=>by
  simp only [put]
  by_cases hk:u=k
  ·subst hk
   have hb:Nat.beq u u=true:=by simp
   simp only [hb,cond_true,gK]
   by_cases h:t=u
   ·simp [h]
   have:Nat.beq t u=false:=WI h
   simp [this,h]
  have hb:Nat.beq u k=false:=WI hk
  simp only [hb,cond_false,gK,oK t u v r]
  by_cases h:t=k
  ·subst h
   have:t≠u:=fun e=>hk e.symm
   simp [this]
  have:Nat.beq t k=false:=WI h
  simp [this]
variable {s:St} {a:Act}
theorem Fr.eval (hF:Fr G N ds β w X s a) (x:Operand):aj β s.bx w (bg β s.bx w X) (bW G s.sl x) (a.eval x):=by
 cases x with
 |tmp t=>exact hF.ze t
 |const v=>exact zN v
 |global g=>
  simp only [bW]
  split
  ·rename_i ds hg
   obtain ⟨h1,h2⟩:=hF.cx.yM g ds hg
   simp only [aj];exact ⟨g,0,rfl,h1,h2⟩
  simp [aj]
 |func f=>simp only [bW,aj];exact ⟨[],rfl,by simp [ak]⟩
theorem ke {ok:Nat→Prop} {x:AV} {v:Value} (h:aj β bx w ok x v) (hk:x.ok):aj β bx w ok x.aS v:=by
 cases x with
 |cond p y=>simp only [aj] at h;exact h.1 hk
 |_=>exact h
theorem dx {sl:List (Nat×AV)}:∀{xs:List Operand},dA (fX G sl xs)→∀x∈xs,(bW G sl x).ok
 |[],_,x,hx=>by simp at hx
 |y::ys,h,x,hx=>by
  simp only [fX,List.map_cons,dA] at h
  rcases List.mem_cons.1 hx with rfl|hx
  ·exact h.1
  exact dx h.2 x hx
theorem Fr.put (hF:Fr G N ds β w X s a) {β':Nat→Nat} {aR:List az} {w':World} (ex:Ext β s.bx w β' aR w') (mP:cJ G β' aR w' X) {dst:Option Nat} (hd:gY N dst=true)
 {v:AV} {u:Value} (hv:aj β' aR w' (bg β' aR w' X) v u):Fr G N ds β' w' X ⟨eJ dst v s.sl,aR⟩ (a.put dst u):=by
 cases dst with
 |none=>exact ⟨mP,hF.defers,hF.size,fun t=>aj.mono (ex.eY X) _ _ (hF.ze t)⟩
 |some d=>
  have Vb:d<N:=by simpa [gY,Nat.blt_eq] using hd
  refine ⟨mP,hF.defers,by simp [Act.put,hF.size],?_⟩
  intro t
  simp only [eJ,oK,Act.put]
  by_cases h:t=d
  ·subst h
   simp [Array.getD,hF.size,Vb,hv]
  rw [if_neg h]
  have:(a.tmps.setIfInBounds d u).getD t undef=a.tmps.getD t undef:=by
   simp [Array.getD_eq_getD_getElem?,Array.getElem?_setIfInBounds_ne (Ne.symm h)]
  rw [this]
  exact aj.mono (ex.eY X) _ _ (hF.ze t)
def z8 (G:Nat→Option (List D)) (β:Nat→Nat) (bx:List az) (w:World) (X:Nat→Prop) (a:Act) (dst:Option Nat) (K:AV→List az→Prop) (next:Act→World→Prop):Prop:=
 ∀β' aR w' v u,Ext β bx w β' aR w'→cJ G β' aR w' X→aj β' aR w' (bg β' aR w' X) v u→K v aR→next (a.put dst u) w'
def O0 (G:Nat→Option (List D)) (β:Nat→Nat) (bx:List az) (w:World) (X:Nat→Prop) (a:Act) (K:AV→List az→Prop) (Qc:Exit→Act→World→Prop):Prop:=
 ∀β' aR w' v u,Ext β bx w β' aR w'→cJ G β' aR w' X→aj β' aR w' (bg β' aR w' X) v u→K v aR→Qc (.panic [{v:=u,recovered:=false}]) a w'
theorem cQ {o:Oper} {next:Act→World→Prop} {Qc:Exit→Act→World→Prop} {r:Result Next} {v:AV} {aR:List az} {K:AV→List az→Prop} (h:dz G β bx w X r v aR) (hK:K v aR)
 (hn:z8 G β bx w X a o.dst K next):o.upon P a next Qc r:=by
 obtain ⟨β',w',ex,cx,⟨u,rfl,hv⟩|⟨rfl,rfl⟩⟩:=h
 ·exact hn β' aR w' v u ex cx hv hK
 exact hn β' aR w' .any undef ex cx (by simp [aj]) hK
theorem gM {o:Oper} {next:Act→World→Prop} {Qc:Exit→Act→World→Prop} {f:Nat} {vs:Array Value} {R:Ending→World→Prop} (h:jB P f vs w R)
 (hr:∀v w',R (.returned v) w'→next (a.put o.dst v) w') (hp:∀ch w',R (.panicked ch) w'→Qc (.panic ch) a w') (ho:∀w',R .outgrown w'→False):
 o.upon P a next Qc ((callFunc f vs).run P w):=by
 rcases h with ⟨h1,h2⟩|⟨v,w',h1,h2⟩
 ·rw [h1,Oper.upon_enter]
  refine Calls.mono h2 ?_
  intro e w' he
  cases e with
  |returned v=>exact hr v w' he
  |panicked ch=>exact hp ch w' he
  |outgrown=>exact (ho w' he).elim
 rw [h1];exact hr v w' h2
theorem kG {o:Oper} {f:Operand} {args:Array Operand} {ats:Array TypeId} (ho:o.op=.call {callee:=.value f,args:=args,argTypes:=ats}) {i:Nat} {fs cs:List Value} (hf:a.eval f=.func (.func i) ⟨fs⟩ ⟨cs⟩):
 (execOp a.eval o).run P w=(callFunc i ⟨fs++args.toList.map a.eval++cs⟩).run P w:=by
 have e:(⟨fs⟩:Array Value)++args.map a.eval++⟨cs⟩=(⟨fs++args.toList.map a.eval++cs⟩:Array Value):=by apply Array.ext';simp
 rw [←e]
 simp [execOp,ho,resolve,hf,Deferred.ofValue,invoke]
theorem xU (hT:kr P T) {o:Oper} {r:Operand} {nm:String} {args:Array Operand} {ats:Array TypeId} (ho:o.op=.call {callee:=.invoke r nm,args:=args,argTypes:=ats}) {t:Nat} {ti:TI} {f:Nat} {x:Value}
 (ht:T t=some ti) (hi:ti.inv=some (nm,f)) (hr:a.eval r=.iface t x):
 (execOp a.eval o).run P w=(callFunc f ⟨x::args.toList.map a.eval⟩).run P w:=by
 obtain ⟨i,d,h1,h2,h3,⟨mn,ms,mp,mf⟩,h4,h5,h6⟩:=Mq (hT.ti _ _ ht) hi
 simp only at h5 h6
 have hp:mp.isEmpty=true:=by rw [Array.isEmpty_iff];exact Array.ext' (by simpa using h5)
 have hm:(Go.method (P.types.size+99+1) t x nm).run P w=.ok (f,x) w:=by
  unfold Go.method
  simp only [Sem.run_bind,l5 h1,Result.andThen_ok,h4,h5,follow,h6,hp,if_true]
  cases d<;>first|exact absurd rfl (h3 _)|simp [receiverAt,aV h2,Place.get,Result.andThen_ok]
 have e:(⟨x::args.toList.map a.eval⟩:Array Value)=#[x]++args.map a.eval:=by apply Array.ext';simp
 rw [e]
 have e0:(#[Value.iface t x]++args.map a.eval)[0]?=some (Value.iface t x):=by rw [Array.getElem?_append_left (by simp)];rfl
 have e1:(#[Value.iface t x]++args.map a.eval).extract 1 (#[Value.iface t x]++args.map a.eval).size=args.map a.eval:=by apply Array.ext';simp [List.take_of_length_le]
 have e2:P.types.size+Made.depth=P.types.size+99+1:=rfl
 simp only [execOp,ho,resolve,hr,pure_bind,invoke,e0,e1,callMethod,Sem.run_bind,run_program,Result.andThen_ok,e2,hm]
theorem CD (hT:kr P T) {ok:Nat→Prop} {x:AV} {nm:String} {args gJ:List AV} {i:Nat} {v:Value} {vs:List Value} (h:Cq T x nm args=some (i,gJ)) (hx:aj β bx w ok x v) (hv:ak β bx w ok args vs):
 ∃t ti u,T t=some ti∧ti.inv=some (nm,i)∧v=.iface t u∧ak β bx w ok gJ (u::vs):=by
 unfold Cq at h
 split at h
 ·split at h
  ·rename_i ti ht
   split at h
   ·rename_i n j hi
    split at h
    ·rename_i hn
     simp only [osI,Prod.mk.injEq] at h
     obtain ⟨rfl,rfl⟩:=h
     subst hn
     simp only [aj] at hx
     obtain ⟨u,rfl,hu⟩:=hx
     exact ⟨_,ti,u,ht,hi,rfl,by simp only [ak];exact ⟨_,_,rfl,hu,hv⟩⟩
    cases h
   cases h
  cases h
 cases h
theorem CE {f:Nat} {args:List AV} {vs:List Value} {K Kp:AV→List az→Prop} (cx:cJ G β bx w X) (hx:ak β bx w (bg β bx w X) args vs)
 (h:KZ (bA P G) f args bx K Kp):
 jB P f ⟨vs⟩ w fun e w'=>∃β' aR v u,Ext β bx w β' aR w'∧cJ G β' aR w' X∧aj β' aR w' (bg β' aR w' X) v u∧
  ((e=.returned u∧K v aR)∨(e=.panicked [{v:=u,recovered:=false}]∧Kp v aR)):=by
 obtain ⟨args',pS,res,pT,hz,hf,hK⟩:=h
 obtain ⟨e1,c1,r1⟩:Ext β bx w β pS w∧cJ G β pS w X∧ak β pS w (bg β pS w X) args' vs:=by
  rcases hz with ⟨rfl,rfl⟩|⟨hz,rfl⟩
  ·exact ⟨Ext.refl _ _ _,cx,hx⟩
  exact lR args bx args' vs cx hz hx
 refine jB.mono (hf β w vs X c1 r1) ?_
 rintro e w' ⟨β',ex,mP,hr⟩
 cases e with
 |returned u=>
  cases res with
  |ret v=>exact ⟨β',pT,v,u,e1.trans ex,mP,hr,.inl ⟨rfl,hK⟩⟩
  |Mn v=>exact hr.elim
 |panicked ch=>
  cases res with
  |ret v=>exact hr.elim
  |Mn v=>
   obtain ⟨u,rfl,hu⟩:=hr
   exact ⟨β',pT,v,u,e1.trans ex,mP,hu,.inr ⟨rfl,hK⟩⟩
 |outgrown=>cases res<;>exact hr.elim
theorem mu {ok:Nat→Prop} {x:AV} {args gJ:List AV} {i:Nat} {v:Value} {vs:List Value} (h:lW x args=some (i,gJ)) (hx:aj β bx w ok x v) (hv:ak β bx w ok args vs):
 ∃fs cs,v=.func (.func i) ⟨fs⟩ ⟨cs⟩∧ak β bx w ok gJ (fs++vs++cs):=by
 unfold lW at h
 split at h
 ·simp only [osI,Prod.mk.injEq] at h
  obtain ⟨rfl,rfl⟩:=h
  simp only [aj] at hx
  obtain ⟨us,rfl,hc⟩:=hx
  simp only [ak,aj] at hc
  obtain ⟨_,cs,rfl,⟨fs,rfl,hf⟩,hc⟩:=hc
  exact ⟨fs,cs,rfl,ak.append (ak.append hf hv) hc⟩
 ·rename_i jQ _
  cases hp:jY jQ with
  |false=>simp [hp] at h
  |true=>
  simp only [hp,cond_true,osI,Prod.mk.injEq] at h
  obtain ⟨rfl,rfl⟩:=h
  simp only [aj] at hx
  obtain ⟨cs,rfl,hc⟩:=hx
  exact ⟨[],cs,xP hp hc _,ak.append hv hc⟩
 ·simp only [osI,Prod.mk.injEq] at h
  obtain ⟨rfl,rfl⟩:=h
  simp only [aj,aL] at hx
  exact ⟨[],[],hx,by simpa using hv⟩
 cases h
theorem Aa (hT:kr P T) (_cx:cJ G β bx w X) {t:Nat} {x i:AV} {u z:Value} {c:Prop} {ds:List D} (hr:zF T t x i=some (c,ds)) (hc:c)
 (hx:aj β bx w (bg β bx w X) x u) (hi:aj β bx w (bg β bx w X) i z):
 ∃r,(Instr.indexAt t u z).run P w=.ok r w∧aj β bx w (bg β bx w X) (.ep ds) r:=by
 have fin:∀(e:Nat) (te:TI) (k:IntKind) (n:Int) (es:List (List D)) (base:Option Addr) (cap:Nat),P.underlying t=some (.slice e)→T e=some te→z=.int k n→u=.slice base es.length cap→
  (es=[]∨∃blk off sz,base=some ⟨blk,off,none⟩∧bg β bx w X blk∧ay w (bg β bx w X) blk sz es off)→
  (0≤n∧n<es.length∧(∀r∈es,r.length=te.size))→ds=es.getD n.toNat []→∃r,(Instr.indexAt t u z).run P w=.ok r w∧aj β bx w (bg β bx w X) (.ep ds) r:=by
  rintro e te k n es base cap hu hte rfl rfl aD ⟨h1,h2,h3⟩ rfl
  obtain ⟨ei,ed,g1,g2,g3,g4,g5,g6⟩:=aK (hT.ti _ _ hte)
  rcases aD with rfl|⟨blk,off,sz,rfl,hb,hrows⟩
  ·simp at h2;omega
  have hn:n.toNat<es.length:=by omega
  obtain ⟨l1,l2⟩:=ay.get n.toNat es off hrows hn
  have hsz:te.size=sz:=by
   rw [←l1]
   have hm:es.getD n.toNat []∈es:=by
    simp only [List.getD_eq_getElem?_getD,List.getElem?_eq_getElem hn,Option.getD_some]
    exact List.getElem_mem hn
   exact (h3 _ hm).symm
  refine ⟨.pointer (some ⟨blk,off+n.toNat*sz,none⟩),?_,?_⟩
  ·simp [Instr.indexAt,asIntOf,aV hu,h1,h2,bP g1,fO,←g3,hsz]
  simp only [aj];exact ⟨blk,_,rfl,hb,l2⟩
 unfold zF at hr
 cases ht:T t with
 |none=>simp [ht] at hr
 |some ti=>
 obtain ⟨ii,d,h1,h2,h3,h4,h5,h6⟩:=aK (hT.ti _ _ ht)
 simp only [ht,h5] at hr
 split at hr
 ·rename_i e es k n hk
  cases d<;>simp [cU] at hk
  subst hk
  split at hr
  ·rename_i te hte
   simp only [osI,Prod.mk.injEq] at hr
   obtain ⟨rfl,rfl⟩:=hr
   simp only [aj,aL] at hx hi
   obtain ⟨base,cap,e1,_,e2⟩:=hx
   exact fin _ te k n es base cap h2 hte hi e1 e2 hc rfl
  simp at hr
 ·rename_i e es k n hk
  cases d<;>simp [cU] at hk
  subst hk
  split at hr
  ·rename_i te hte
   simp only [osI,Prod.mk.injEq] at hr
   obtain ⟨rfl,rfl⟩:=hr
   simp only [aj,aL] at hx hi
   obtain ⟨base,e1,e2⟩:=hx
   exact fin _ te k n es base _ h2 hte hi e1 e2 hc rfl
  simp at hr
 simp at hr
theorem Ab {ok:Nat→Prop} {p:Bool} {x y:AV} {u v:Value} (hx:p=true→aj β bx w ok x u) (hy:p=false→aj β bx w ok y v):aj β bx w ok (zC p x y) (if p then u else v):=by
 unfold zC
 split
 ·cases p
  ·simpa [aj,aL] using hy rfl
  simpa [aj,aL] using hx rfl
 ·cases p
  ·simpa [aj,aL] using hy rfl
  simp [aj]
 simp [aj]
theorem CF {b:Nat} {str:List UInt8} {pos pos':Nat} (hb:bx[b]?=some (.it str pos)) (hh:w.heap[β b]?=some (.stringIter ⟨str.toArray⟩ pos)):
 Ext β bx w β (bx.set b (.it str pos')) {w with heap:=w.heap.setIfInBounds (β b) (.stringIter ⟨str.toArray⟩ pos')}:=by
 have hlt:=ff hh
 refine ⟨rfl,rfl,rfl,by simp,?_,?_,fun i hi=>⟨rfl,iH rfl hi⟩,?_⟩
 ·intro k hk hl
  have hne:β b≠k:=hl b _ hb rfl
  simp [Array.getElem?_setIfInBounds_ne hne]
 ·intro k c e f hk
  have hne:β b≠k:=by rintro rfl;rw [hh] at hk;cases hk
  exact ⟨c,by simp [Array.getElem?_setIfInBounds_ne hne,hk],rfl⟩
 intro i B hi hl
 rcases aM hi with ⟨rfl,_,_⟩|⟨_,h⟩
 ·exact .inr ⟨i,_,hb,rfl,rfl⟩
 exact .inr ⟨i,B,h,hl,rfl⟩
theorem My (cx:cJ G β bx w X) {b:Nat} {str:List UInt8} {pos pos':Nat} (hb:bx[b]?=some (.it str pos)) (hh:w.heap[β b]?=some (.stringIter ⟨str.toArray⟩ pos)):
 cJ G β (bx.set b (.it str pos')) {w with heap:=w.heap.setIfInBounds (β b) (.stringIter ⟨str.toArray⟩ pos')} X:=by
 refine cx.step (CF hb hh) ?_ ?_
 ·intro i B hi
  rcases aM hi with ⟨rfl,rfl,_⟩|⟨hne,h⟩
  ·refine .inr ?_
   simp only [dj]
   simp [ff hh]
  refine .inl ⟨h,fun hl=>?_⟩
  have OL:β b≠β i:=fun he=>hne (cx.inj b i _ B hb h rfl hl he).symm
  simp [Array.getElem?_setIfInBounds_ne OL]
 intro i j bi bj hi hj mQ oJ he
 rcases aM hi with ⟨rfl,rfl,_⟩|⟨h1,h2⟩<;>rcases aM hj with ⟨rfl,rfl,_⟩|⟨h3,h4⟩
 ·rfl
 ·exact cx.inj _ _ _ _ hb h4 rfl oJ he
 ·exact cx.inj _ _ _ _ h2 hb mQ rfl he
 exact cx.inj _ _ _ _ h2 h4 mQ oJ he
theorem FZ {ok:Nat→Prop} {x:AV} {Ix:Prop} {u:Value} (h:Mo x=some Ix) (hx:aj β bx w ok x u):∃a n c,u=.slice a n c∧(a.isNone=true→Ix):=by
 unfold Mo at h
 split at h
 ·simp only [osI] at h;subst h
  simp only [aj,aL] at hx
  obtain ⟨base,cap,rfl,_,h3⟩:=hx
  refine ⟨_,_,_,rfl,fun hb=>?_⟩
  rcases h3 with h3|⟨_,_,_,rfl,_⟩
  ·exact h3
  simp at hb
 ·simp only [osI] at h;subst h
  simp only [aj] at hx
  obtain ⟨base,rfl,h3⟩:=hx
  refine ⟨_,_,_,rfl,fun hb=>?_⟩
  rcases h3 with h3|⟨_,_,_,rfl,_⟩
  ·exact h3
  simp at hb
 ·simp only [osI] at h;subst h
  simp only [aj] at hx
  obtain ⟨_,⟨h1,base,rfl⟩|⟨h1,cap,c,e,f,rfl,_⟩⟩:=hx
  ·exact ⟨_,_,_,rfl,fun _=>h1⟩
  exact ⟨_,_,_,rfl,fun hb=>by simp at hb⟩
 simp at h
theorem IV (t e:TypeId) (a:Option Addr) (n c:Nat) (h:P.underlying t=some (.slice e)):(Go.binOp .eql t (.slice a n c) (.slice none 0 0)).run P w=.ok (.bool a.isNone) w:=by
 simp only [Go.binOp]
 simp [Op.equal,Op.maxDepth,Lib.run_equalIn_slice_nil w 9999 t e a n c 0 0 h]
theorem IW (t e:TypeId) (a:Option Addr) (n c:Nat) (h:P.underlying t=some (.slice e)):(Go.binOp .neq t (.slice a n c) (.slice none 0 0)).run P w=.ok (.bool (!a.isNone)) w:=by
 simp only [Go.binOp]
 simp [Op.equal,Op.maxDepth,Lib.run_equalIn_slice_nil w 9999 t e a n c 0 0 h]
theorem m0 (hT:kr P T) (hF:Fr G N ds β w X s a) {o:Oper} {K:AV→List az→Prop} {Q:Ex→St→Prop} {next:Act→World→Prop} {Qc:Exit→Act→World→Prop}
 (h:pU (bA P G) T G o s K Q) (hn:z8 G β s.bx w X a o.dst K next) (hp:O0 G β s.bx w X a (fun v bx=>Q (.panic v) ⟨[],bx⟩) Qc):o.wp P a w next Qc:=by
 have iJ:∀x,(bW G s.sl x).ok→aj β s.bx w (bg β s.bx w X) (bW G s.sl x).aS (a.eval x):=fun x hx=>ke (hF.eval x) hx
 unfold pU at h
 unfold Oper.wp
 split at h
 ·
  rename_i c x y ho
  split at h
  ·rename_i p hc
   obtain ⟨⟨h1,h2,h3⟩,hK⟩:=h
   have wh:=iJ c h1
   rw [hc] at wh;simp only [aj,aL] at wh
   refine cQ (v:=_) (aR:=s.bx) (dz.pure (u:=if p then a.eval x else a.eval y) hF.cx ?_ (Ab (fun hp=>iJ x (h2 hp)) (fun hp=>iJ y (h3 hp)))) hK hn
   simp [execOp,ho,wh,asBool]
  exact h.elim
 ·
  rename_i f args ats ho
  split at h
  ·rename_i i gJ F0
   obtain ⟨⟨h1,h2⟩,h⟩:=h
   obtain ⟨fs,cs,e1,e2⟩:=mu F0 (iJ f h1) (iC args.toList (fun y hy=>iJ y (dx h2 y hy)))
   rw [kG ho e1]
   rcases h with h|h
   ·refine gM (IQ hF.cx e2 h) ?_ ?_ ?_
    ·rintro v w' ⟨β',aR,v',u,e,ex,cx,hv,hK⟩
     cases e
     exact hn β' aR w' v' v ex cx hv hK
    ·rintro ch w' ⟨_,_,_,_,e,_⟩;cases e
    rintro w' ⟨_,_,_,_,e,_⟩;cases e
   refine gM (CE hF.cx e2 h) ?_ ?_ ?_
   ·rintro v w' ⟨β',aR,v',u,ex,cx,hv,⟨e,hK⟩|⟨e,_⟩⟩
    ·cases e;exact hn β' aR w' v' v ex cx hv hK
    cases e
   ·rintro ch w' ⟨β',aR,v',u,ex,cx,hv,⟨e,_⟩|⟨e,hK⟩⟩
    ·cases e
    cases e;exact hp β' aR w' v' u ex cx hv hK
   rintro w' ⟨_,_,_,_,_,_,_,⟨e,_⟩|⟨e,_⟩⟩<;>cases e
  exact h.elim
 ·
  rename_i x ho
  split at h
  ·rename_i t v hx
   obtain ⟨h1,h2⟩:=h
   have hx':=iJ x h1
   rw [hx] at hx'
   have Oh:=hx'
   simp only [aj] at Oh
   obtain ⟨u,e,_⟩:=Oh
   have hr:(execOp a.eval o).run P w=.halt (.panic (a.eval x)) w:=by
    simp [execOp,ho,e,Instr.panic,goPanic,Sem.run]
   rw [hr,Oper.upon_panic]
   exact hp β s.bx w _ _ (Ext.refl _ _ _) hF.cx hx' h2
  exact h.elim
 ·
  rename_i t x ho
  cases ht:T t with
  |none=>simp [ht] at h
  |some ti=>
  obtain ⟨i,d,h1,h2,h3,h4,h5,h6⟩:=aK (hT.ti _ _ ht)
  simp only [ht,h5] at h
  split at h
  ·rename_i str hk hx
   obtain ⟨k1,k2⟩:=h
   cases d<;>simp [cU] at hk
   have hx':=iJ x k1
   rw [hx] at hx';simp only [aj,aL] at hx'
   refine cQ (v:=.ptr s.bx.length 0) (aR:=s.bx++[.it str 0]) ⟨kZ β s.bx.length w.heap.size,{w with heap:=w.heap.push (.stringIter ⟨str.toArray⟩ 0)},gk _ _,kF hF.cx (.stringIter ⟨str.toArray⟩ 0) (.it str 0) (by simp only [dj];exact jk _ _),.inl ⟨.pointer (some ⟨w.heap.size,0,none⟩),?_,?_⟩⟩ k2 hn
   ·simp only [execOp,ho]
    exact bJ _ (by rw [hx'];simp [Instr.range,aV h2,newObj,Sem.run])
   simp only [aj,bq];exact ⟨trv,.it str 0,by simp,rfl⟩
  exact h.elim
 ·rename_i it ho
  split at h
  ·rename_i b hx
   split at h
   ·rename_i str pos hb
    obtain ⟨k1,⟨k2,k3⟩⟩:=h
    have hx':=iJ it k1
    rw [hx] at hx';simp only [aj] at hx'
    obtain ⟨hx',_⟩:=hx'
    have F1:=hF.cx.box b _ hb
    simp only [dj] at F1
    have hsz:(⟨str.toArray⟩:ByteArray).size=str.length:=by show str.toArray.size=_;simp
    by_cases hp:pos<str.length
    ·refine cQ (v:=_) (aR:=_) ⟨β,{w with heap:=w.heap.setIfInBounds (β b) (.stringIter ⟨str.toArray⟩ (pos+(Utf8.decode ⟨str.toArray⟩ pos).2))},?_,?_,.inl ⟨.tuple #[.bool true,.int .i64 pos,.int .i32 (Utf8.decode ⟨str.toArray⟩ pos).1],?_,?_⟩⟩ (k2 hp) hn
     ·exact CF hb F1
     ·exact My hF.cx hb F1
     ·simp only [execOp,ho]
      exact bJ _ (by rw [hx'];simp [Instr.next,getObj,setObj,Sem.run,F1,hsz,hp,goInt])
     simp only [aj,ak,aL];exact ⟨_,rfl,_,_,rfl,rfl,_,_,rfl,rfl,_,_,rfl,rfl,rfl⟩
    refine cQ (v:=_) (aR:=s.bx) (dz.pure (u:=.tuple #[.bool false]) hF.cx ?_ ?_) (k3 hp) hn
    ·simp only [execOp,ho]
     exact bJ _ (by rw [hx'];simp [Instr.next,getObj,Sem.run,F1,hsz,hp])
    simp only [aj,ak,aL];exact ⟨_,rfl,_,_,rfl,rfl,rfl⟩
   exact h.elim
  exact h.elim
 ·
  rename_i ty x t2 ho
  split at h
  ·rename_i ti Ix ht he
   split at h
   ·rename_i e hk
    obtain ⟨i,d,h1,h2,h3,h4,h5,h6⟩:=aK (hT.ti _ _ ht)
    obtain ⟨k1,⟨k2⟩⟩:=h
    rw [h5] at hk;cases d<;>simp [cU] at hk
    obtain ⟨a',n,c,hu,DV⟩:=FZ he (iJ x k1)
    refine cQ (v:=.d (.bool a'.isNone)) (aR:=s.bx) (dz.pure (u:=.bool a'.isNone) hF.cx ?_ (by simp only [aj,aL])) (k2 _ DV) hn
    simp only [execOp,ho]
    exact bJ _ (by simp [hu,eqGuard,show a.eval (Operand.const (Value.slice none 0 0))=Value.slice none 0 0 from rfl,IV (w:=w) _ _ _ _ _ h2])
   exact h.elim
  exact h.elim
 ·rename_i ty x t2 ho
  split at h
  ·rename_i ti Ix ht he
   split at h
   ·rename_i e hk
    obtain ⟨i,d,h1,h2,h3,h4,h5,h6⟩:=aK (hT.ti _ _ ht)
    obtain ⟨k1,⟨k2⟩⟩:=h
    rw [h5] at hk;cases d<;>simp [cU] at hk
    obtain ⟨a',n,c,hu,DV⟩:=FZ he (iJ x k1)
    refine cQ (v:=.d (.bool (!a'.isNone))) (aR:=s.bx) (dz.pure (u:=.bool (!a'.isNone)) hF.cx ?_ (by simp only [aj,aL])) (k2 _ DV) hn
    simp only [execOp,ho]
    exact bJ _ (by simp [hu,eqGuard,show a.eval (Operand.const (Value.slice none 0 0))=Value.slice none 0 0 from rfl,IW (w:=w) _ _ _ _ _ h2])
   exact h.elim
  exact h.elim
 ·
  rename_i ty ho
  split at h
  ·rename_i ti ht
   split at h
   ·rename_i mk me hk
    split at h
    ·rename_i te hte
     refine cQ (v:=.BR s.bx.length) (aR:=s.bx++[.mp te.kd.isAgg []]) ⟨kZ β s.bx.length w.heap.size,{w with heap:=w.heap.push (.map #[] 0)},gk _ _,kF hF.cx (.map #[] 0) (.mp te.kd.isAgg []) ⟨#[],0,jk _ _,⟨by simp,by simp⟩,by simp [bp]⟩,.inl ⟨.map (some w.heap.size),?_,?_⟩⟩ h hn
     ·simp only [execOp,ho]
      exact bJ _ (by simp [Instr.makeMap,newObj,Sem.run])
     simp only [aj,bq];exact ⟨trv,.mp te.kd.isAgg [],by simp,rfl⟩
    exact h.elim
   exact h.elim
  exact h.elim
 ·
  rename_i ty m k BU ho
  split at h
  ·rename_i tk te ag es kd hm hk
   obtain ⟨o',hg,hK⟩:=h
   obtain ⟨⟨⟨k1,k2⟩,hf⟩,rfl⟩:=hg rfl
   have hkv:=iJ k k2
   rw [hk] at hkv;simp only [aj] at hkv
   obtain ⟨v,x,g1,g2,g3⟩:=IS hT hF.cx hm (iJ m k1) hkv hf hK
   refine cQ (v:=v) (aR:=s.bx) (dz.pure (u:=x) hF.cx ?_ g2) g3 hn
   simp only [execOp,ho]
   exact bJ _ g1
  exact h.elim
 ·
  rename_i ty m k x ho
  split at h
  ·rename_i b tk te ag es kd vs hm hk hc
   split at h
   ·rename_i dsv Ac Xf
    obtain ⟨⟨⟨k1,k2,k3⟩,hf,_,ha⟩,hK⟩:=h
    have hkv:=iJ k k2
    rw [hk] at hkv;simp only [aj] at hkv
    obtain ⟨w',g1,g2,g3⟩:=FY hT hF.cx hm (iJ m k1) hkv (iJ x k3) hc Ac Xf hf ha
    refine cQ (v:=.any) (aR:=_) ⟨β,w',g2,g3,.inr ⟨?_,rfl⟩⟩ hK hn
    simp only [execOp,ho]
    simp [g1]
   exact h.elim
  exact h.elim
 rename_i op e1 e2 e3 e4 e5 e6 e7 e8 e9 e10
 split at h
 ·rename_i c ds hi
  obtain ⟨ds',hg,hK⟩:=h
  obtain ⟨⟨hk,hc⟩,rfl⟩:=hg rfl
  split at hi
  ·rename_i t x i ho
   have ex:=dx hk
   rw [ho] at ex
   obtain ⟨r,k1,k2⟩:=Aa (P:=P) (w:=w) hT hF.cx hi hc (iJ x (ex x (by simp [Op.operands]))) (iJ i (ex i (by simp [Op.operands])))
   refine cQ (v:=_) (aR:=s.bx) (dz.pure hF.cx ?_ k2) hK hn
   simp only [execOp,ho]
   exact bJ _ k1
  simp at hi
 split at h
 ·rename_i c v b hr
  obtain ⟨⟨h1,hc⟩,hK⟩:=h
  exact cQ (zY (P:=P) hT hF.cx (ρ:=a.eval) (fun x hx=>iJ x (dx h1 x hx)) hr hc) hK hn
 exact h.elim
theorem xV (hT:kr P T) (hF:Fr G N ds β w X s a) {o:Oper} {K:AV→Prop} {next:Act→World→Prop} {Qc:Exit→Act→World→Prop}
 (h:stepG (bA P G) T G true o s K) (hn:z8 G β s.bx w X a o.dst (fun v bx=>K v∧bx=s.bx) next):o.wp P a w next Qc:=by
 have iJ:∀x,(bW G s.sl x).ok→aj β s.bx w (bg β s.bx w X) (bW G s.sl x).aS (a.eval x):=fun x hx=>ke (hF.eval x) hx
 have h:=h.resolve_left (fun hh=>by simp at hh)
 rcases h with h|⟨c,es,hr,hg,hK⟩
 rotate_left
 ·obtain ⟨h1,hc⟩:=hg rfl
  unfold Oper.wp
  exact cQ (CC (P:=P) hT hF.cx (ρ:=a.eval) (fun x hx=>iJ x (dx h1 x hx)) hr hc) ⟨hK,rfl⟩ hn
 unfold wq at h
 unfold Oper.wp
 split at h
 ·
  rename_i c x y ho
  split at h
  ·rename_i p hc
   obtain ⟨hg,hK⟩:=h
   obtain ⟨h1,h2,h3⟩:=hg rfl
   have wh:=iJ c h1
   rw [hc] at wh;simp only [aj,aL] at wh
   refine cQ (v:=_) (aR:=s.bx) (dz.pure (u:=if p then a.eval x else a.eval y) hF.cx ?_ (Ab (fun hp=>iJ x (h2 hp)) (fun hp=>iJ y (h3 hp)))) ⟨hK,rfl⟩ hn
   simp [execOp,ho,wh,asBool]
  exact h.elim
 ·
  rename_i f args ats ho
  split at h
  ·rename_i i gJ F0
   obtain ⟨v,hg,hK⟩:=h
   obtain ⟨⟨h1,h2⟩,hq⟩:=hg rfl
   obtain ⟨fs,cs,e1,e2⟩:=mu F0 (iJ f h1) (iC args.toList (fun y hy=>iJ y (dx h2 y hy)))
   rw [kG ho e1]
   refine gM (lC (K:=fun v bx=>K v∧bx=s.bx) hF.cx e2 hq ⟨hK,rfl⟩) ?_ ?_ ?_
   ·rintro v w' ⟨β',aR,v',u,e,ex,cx,hv,hK⟩
    cases e
    exact hn β' aR w' v' v ex cx hv hK
   ·rintro ch w' ⟨_,_,_,_,e,_⟩;cases e
   rintro w' ⟨_,_,_,_,e,_⟩;cases e
  exact h.elim
 ·
  rename_i f nm args ats ho
  split at h
  ·rename_i i gJ F0
   obtain ⟨v,hg,hK⟩:=h
   obtain ⟨⟨h1,h2⟩,hq⟩:=hg rfl
   obtain ⟨t,ti,u,k1,k2,k3,e2⟩:=CD hT F0 (iJ f h1) (iC args.toList (fun y hy=>iJ y (dx h2 y hy)))
   rw [xU hT ho k1 k2 k3]
   refine gM (lC (K:=fun v bx=>K v∧bx=s.bx) hF.cx e2 hq ⟨hK,rfl⟩) ?_ ?_ ?_
   ·rintro v w' ⟨β',aR,v',u,e,ex,cx,hv,hK⟩
    cases e
    exact hn β' aR w' v' v ex cx hv hK
   ·rintro ch w' ⟨_,_,_,_,e,_⟩;cases e
   rintro w' ⟨_,_,_,_,e,_⟩;cases e
  exact h.elim
 rename_i op e1 e2 e3
 split at h
 ·rename_i c ds hi
  obtain ⟨ds',hg,hK⟩:=h
  obtain ⟨⟨hk,hc⟩,rfl⟩:=hg rfl
  split at hi
  ·rename_i t x i ho
   have ex:=dx hk
   rw [ho] at ex
   obtain ⟨r,k1,k2⟩:=Aa (P:=P) (w:=w) hT hF.cx hi hc (iJ x (ex x (by simp [Op.operands]))) (iJ i (ex i (by simp [Op.operands])))
   refine cQ (v:=_) (aR:=s.bx) (dz.pure hF.cx ?_ k2) ⟨hK,rfl⟩ hn
   simp only [execOp,ho]
   exact bJ _ k1
  simp at hi
 split at h
 ·rename_i c v hr
  obtain ⟨hg,hK⟩:=h
  obtain ⟨h1,hc⟩:=hg rfl
  exact cQ (zY (P:=P) hT hF.cx (ρ:=a.eval) (fun x hx=>iJ x (dx h1 x hx)) hr hc) ⟨hK,rfl⟩ hn
 exact h.elim
theorem Ad {o:Oper} {K:AV→Prop} (h:stepG (bA P G) T G false o s K):∃v,K v:=by
 rcases h with ⟨_,h⟩|h|⟨_,_,_,_,hK⟩
 ·exact h
 rotate_left
 ·exact ⟨_,hK⟩
 unfold wq at h
 split at h
 ·split at h
  ·exact ⟨_,h.2⟩
  exact h.elim
 ·split at h
  ·obtain ⟨v,_,hK⟩:=h;exact ⟨v,hK⟩
  exact h.elim
 ·split at h
  ·obtain ⟨v,_,hK⟩:=h;exact ⟨v,hK⟩
  exact h.elim
 split at h
 ·obtain ⟨ds,_,hK⟩:=h;exact ⟨_,hK⟩
 split at h
 ·exact ⟨_,h.2⟩
 exact h.elim
theorem lD (hF:Fr G N ds β w X s a) {ops:Array Oper} {j:Nat} {want g:Bool} (h:guardOf s.sl ops.toList j want=some g):(yielded ops a.tmps j==some want)=g:=by
 unfold guardOf at h
 have hj:ops.toList[j]?=ops[j]?:=by simp
 rw [hj] at h
 split at h
 ·rename_i o ho
  split at h
  ·rename_i t hd
   have hr:=hF.ze t
   have hy:∀v:Value,a.tmps.getD t undef=v→v≠undef→a.tmps[t]?=some v:=by
    intro v hv hu
    rw [Array.getD_eq_getD_getElem?] at hv
    cases hq:a.tmps[t]? with
    |none=>rw [hq] at hv;simp at hv;exact absurd hv.symm hu
    |some u=>rw [hq] at hv;simp at hv;rw [hv]
   unfold yielded
   rw [ho]
   simp only [Option.bind_some,hd]
   split at h
   ·rename_i q hq
    rw [hq] at hr;simp only [aj,aL] at hr
    simp only [osI] at h;subst h
    rw [hy _ hr (by simp [undef])]
    cases q<;>cases want<;>rfl
   ·rename_i p q hq
    rw [hq] at hr;simp only [aj,aL] at hr
    simp only [osI] at h;subst h
    cases p with
    |true=>
     rw [hy _ (hr.1 rfl) (by simp [undef])]
     cases q<;>cases want<;>rfl
    |false=>
     have hu:=hr.2 rfl
     cases hq2:a.tmps[t]? with
     |none=>simp
     |some u=>
      have:u=undef:=by rw [Array.getD_eq_getD_getElem?,hq2] at hu;simpa using hu
      subst this
      simp [undef]
   simp at h
  simp at h
 simp at h
end
end Dem
end
section
open Go
namespace Dem
section
variable {P:Program} {T:Nat→Option TI} {G:Nat→Option (List D)} {N:Nat} {ds:List Deferred} {X:Nat→Prop}
def gG (G:Nat→Option (List D)) (N:Nat) (ds:List Deferred) (X:Nat→Prop) (β0:Nat→Nat) (bC:List az) (w0:World) (Q:Ex→St→Prop):Exit→Act→World→Prop
 |.normal,a,w=>∃β s,Ext β0 bC w0 β s.bx w∧Fr G N ds β w X s a∧Q .normal s
 |.exit id,a,w=>∃β s,Ext β0 bC w0 β s.bx w∧Fr G N ds β w X s a∧Q (.exit id) s
 |.ret,a,w=>∃β s,Ext β0 bC w0 β s.bx w∧Fr G N ds β w X s a∧Q .ret s
 |.panic ch,a,w=>∃β bx v u,ch=[{v:=u,recovered:=false}]∧Ext β0 bC w0 β bx w∧cJ G β bx w X∧aj β bx w (bg β bx w X) v u∧a.defers=ds∧Q (.panic v) ⟨[],bx⟩
 |_,_,_=>False
variable {β0:Nat→Nat} {bC:List az} {w0:World}
theorem gG.imp {Q Q':Ex→St→Prop} {e:Exit} {a:Act} {w:World} (h:∀e s,Q e s→Q' e s) (hl:gG G N ds X β0 bC w0 Q e a w):gG G N ds X β0 bC w0 Q' e a w:=by
 cases e<;>simp only [gG] at hl ⊢
 ·obtain ⟨β,s,h1,h2,h3⟩:=hl;exact ⟨β,s,h1,h2,h _ _ h3⟩
 ·obtain ⟨β,s,h1,h2,h3⟩:=hl;exact ⟨β,s,h1,h2,h _ _ h3⟩
 ·obtain ⟨β,s,h1,h2,h3⟩:=hl;exact ⟨β,s,h1,h2,h _ _ h3⟩
 obtain ⟨β,bx,v,u,h1,h2,h3,h4,h5,h6⟩:=hl;exact ⟨β,bx,v,u,h1,h2,h3,h4,h5,h _ _ h6⟩
theorem D2 {β:Nat→Nat} {w:World} {s:St} {a:Act} (hF:Fr G N ds β w X s a) {o:Oper} {K:AV→Prop} {next:Act→World→Prop} {Qc:Exit→Act→World→Prop}
 (h:sZ (bA P G) G true o s K) (hn:z8 G β s.bx w X a o.dst (fun v bx=>K v∧bx=s.bx) next):o.wp P a w next Qc:=by
 have iJ:∀x,(bW G s.sl x).ok→aj β s.bx w (bg β s.bx w X) (bW G s.sl x).aS (a.eval x):=fun x hx=>ke (hF.eval x) hx
 unfold sZ at h
 unfold Oper.wp
 split at h
 ·rename_i f args ats ho
  split at h
  ·rename_i i gJ F0
   obtain ⟨v,hg,hK⟩:=h
   obtain ⟨⟨h1,h2⟩,hc⟩:=hg rfl
   obtain ⟨fs,cs,e1,e2⟩:=mu F0 (iJ f h1) (iC args.toList (fun y hy=>iJ y (dx h2 y hy)))
   rw [kG ho e1]
   refine gM (CE (K:=fun v bx=>K v∧bx=s.bx) (Kp:=fun _ _=>False) hF.cx e2 ⟨⟨gJ,s.bx,.ret v,s.bx,.inl ⟨rfl,rfl⟩,hc,hK,rfl⟩⟩) ?_ ?_ ?_
   ·rintro v w' ⟨β',aR,v',u,ex,cx,hv,⟨e,hK⟩|⟨e,_⟩⟩
    ·cases e;exact hn β' aR w' v' v ex cx hv hK
    cases e
   ·rintro ch w' ⟨β',aR,v',u,ex,cx,hv,⟨e,_⟩|⟨e,hK⟩⟩
    ·cases e
    exact hK.elim
   rintro w' ⟨_,_,_,_,_,_,_,⟨e,_⟩|⟨e,_⟩⟩<;>cases e
  exact h.elim
 exact h.elim
theorem F2 {FC:Nat→List AV→List az→iU→List az→Prop} {g:Bool} {o:Oper} {s:St} {K:AV→Prop} (h:sZ FC G g o s K):∃v,K v:=by
 unfold sZ at h
 split at h
 ·split at h
  ·obtain ⟨v,_,hK⟩:=h;exact ⟨v,hK⟩
  exact h.elim
 exact h.elim
theorem mw (hT:kr P T) {ops:Array Oper} {Q:Ex→St→Prop}:∀(l:List Oper) (β:Nat→Nat) (w:World) (s:St) (a:Act),Ext β0 bC w0 β s.bx w→Fr G N ds β w X s a→
 Fq (bA P G) T G N ops.toList l Q s→wpList P ops (gG G N ds X β0 bC w0 Q) l a w
 |[],β,w,s,a,ex,hF,h=>⟨β,s,ex,hF,h⟩
 |o::l,β,w,s,a,ex,hF,h=>by
  unfold Fq at h
  cases hd:gY N o.dst with
  |false=>simp [hd] at h
  |true=>
  simp only [hd,cond_true] at h
  refine wpList_step fun KK Y2=>?_
  split at h
  ·rename_i hg
   rw [if_pos (by simp [Region.wanted,hg])]
   refine m0 hT hF h ?_ ?_
   ·intro β' aR w' v u sK mP hv hK
    exact Y2 _ _ (mw hT l β' w' ⟨eJ o.dst v s.sl,aR⟩ _ (ex.trans sK) (hF.put sK mP hd hv) hK)
   intro β' aR w' v u sK mP hv hK
   exact ⟨β',aR,v,u,rfl,ex.trans sK,mP,hv,hF.defers,hK⟩
  rename_i j want hg
  split at h
  ·rename_i g Iy
   have hy:=lD hF Iy
   cases g with
   |true=>
    rw [if_pos (by simp only [Region.wanted,hg];exact hy)]
    rcases h with h|h
    case inr=>
     refine D2 hF h ?_
     rintro β' aR w' v u sK mP hv ⟨hK,rfl⟩
     refine Y2 _ _ (mw hT l β' w' ⟨eJ o.dst (.cond true v) s.sl,s.bx⟩ _ (ex.trans sK) (hF.put sK mP hd ?_) hK)
     simp only [aj];exact ⟨fun _=>hv,by simp⟩
    refine xV hT hF h ?_
    rintro β' aR w' v u sK mP hv ⟨hK,rfl⟩
    refine Y2 _ _ (mw hT l β' w' ⟨eJ o.dst (.cond true v) s.sl,s.bx⟩ _ (ex.trans sK) (hF.put sK mP hd ?_) hK)
    simp only [aj];exact ⟨fun _=>hv,by simp⟩
   |false=>
    rw [if_neg (by simp only [Region.wanted,hg];rw [hy];simp)]
    obtain ⟨v,hK⟩:∃v,Fq (bA P G) T G N ops.toList l Q ⟨eJ o.dst (.cond false v) s.sl,s.bx⟩:=by
     rcases h with h|h
     ·exact Ad h
     exact F2 h
    refine Y2 _ _ (mw hT l β w ⟨eJ o.dst (.cond false v) s.sl,s.bx⟩ _ ex (hF.put (Ext.refl _ _ _) hF.cx hd ?_) hK)
    simp only [aj];simp
  exact h.elim
def qb (P:Program) (T:Nat→Option TI) (G:Nat→Option (List D)):Prop:=
 ∀(N:Nat) (ds:List Deferred) (X:Nat→Prop) (β0:Nat→Nat) (bC:List az) (w0:World) (id:Nat) (ops:Array Oper) (Q:Ex→St→Prop) (β:Nat→Nat) (w:World) (s:St) (a:Act),
  Ext β0 bC w0 β s.bx w→Fr G N ds β w X s a→Ov (bA P G) T G N ops.toList Q s→(Code.region id ops true).wp P (gG G N ds X β0 bC w0 Q) a w
end
end Dem
end
section
open Go
namespace Dem
section
variable {P:Program} {T:Nat→Option TI} {G:Nat→Option (List D)} {β:Nat→Nat} {bx:List az} {w:World} {X:Nat→Prop}
theorem fh {n i:Nat} {b:az} (h:(bx.take n)[i]?=some b):bx[i]?=some b∧i<n:=by
 rw [List.getElem?_take] at h
 split at h
 ·exact ⟨h,by assumption⟩
 simp at h
theorem F3 (n:Nat) (blk:Nat) (h:bg β bx w X blk):bg β (bx.take n) w X blk:=
 ⟨h.1,h.2.1,fun i b hb hl=>h.2.2 i b (fh hb).1 hl⟩
mutual
theorem oL {n:Nat} {ok ok':Nat→Prop} (h:∀blk,ok blk→ok' blk):∀(x:AV) (v:Value),x.within n=true→aj β bx w ok x v→aj β (bx.take n) w ok' x v
 |.any,_,_,_=>by simp [aj]
 |.d x,v,_,hv=>by simp only [aj] at hv ⊢;exact aL.mono (fun blk hb=>⟨h blk hb,rfl⟩) _ _ hv
 |.k c,v,_,hv=>by simpa [aj] using hv
 |.agg cs,v,hs,hv=>by
  simp only [aj] at hv ⊢;obtain ⟨vs,h1,h2⟩:=hv
  exact ⟨vs,h1,iP h cs vs (by simpa [AV.within] using hs) h2⟩
 |.dV cs,v,hs,hv=>by
  simp only [aj] at hv ⊢;obtain ⟨vs,h1,h2⟩:=hv
  exact ⟨vs,h1,iP h cs vs (by simpa [AV.within] using hs) h2⟩
 |.ptr b off,v,hs,hv=>by
  simp only [aj] at hv ⊢
  have hb:b<n:=by simpa [AV.within,Nat.blt_eq] using hs
  obtain ⟨h1,B,h2,h3⟩:=hv
  exact ⟨h1,B,by rw [List.getElem?_take,if_pos hb];exact h2,h3⟩
 |.BR b,v,hs,hv=>by
  simp only [aj] at hv ⊢
  have hb:b<n:=by simpa [AV.within,Nat.blt_eq] using hs
  obtain ⟨h1,B,h2,h3⟩:=hv
  exact ⟨h1,B,by rw [List.getElem?_take,if_pos hb];exact h2,h3⟩
 |.rp b sz i j,v,hs,hv=>by
  simp only [aj] at hv ⊢
  have hb:b<n:=by simpa [AV.within,Nat.blt_eq] using hs
  obtain ⟨h1,B,h2,h3⟩:=hv
  exact ⟨h1,B,by rw [List.getElem?_take,if_pos hb];exact h2,h3⟩
 |.ow b sz m,v,hs,hv=>by
  simp only [aj] at hv ⊢
  have hb:b<n:=by simpa [AV.within,Nat.blt_eq] using hs
  obtain ⟨⟨B,h2,h3⟩,h1⟩:=hv
  exact ⟨⟨B,by rw [List.getElem?_take,if_pos hb];exact h2,h3⟩,h1⟩
 |.vw b sz off m c ex,v,hs,hv=>by
  simp only [aj] at hv ⊢
  have hb:b<n:=by simpa [AV.within,Nat.blt_eq] using hs
  obtain ⟨⟨B,h2,h3⟩,h1⟩:=hv
  exact ⟨⟨B,by rw [List.getElem?_take,if_pos hb];exact h2,h3⟩,h1⟩
 |.ep ds,v,_,hv=>by
  simp only [aj] at hv ⊢;obtain ⟨blk,off,h1,h2,h3⟩:=hv
  exact ⟨blk,off,h1,h blk h2,aX.mono (fun blk hb=>⟨h blk hb,rfl⟩) blk (fun _=>rfl) _ _ h3⟩
 |.cl es,v,_,hv=>by
  simp only [aj] at hv ⊢;obtain ⟨base,h1,h2⟩:=hv
  refine ⟨base,h1,h2.imp id ?_⟩
  rintro ⟨blk,off,sz,e1,e2,e3⟩
  exact ⟨blk,off,sz,e1,h blk e2,ay.mono (fun blk hb=>⟨h blk hb,rfl⟩) blk sz (fun _=>rfl) _ _ e3⟩
 |.fn f cs,v,hs,hv=>by
  simp only [aj] at hv ⊢;obtain ⟨vs,h1,h2⟩:=hv
  exact ⟨vs,h1,iP h cs vs (by simpa [AV.within] using hs) h2⟩
 |.sj t x,v,hs,hv=>by
  simp only [aj] at hv ⊢;obtain ⟨u,h1,h2⟩:=hv
  exact ⟨u,h1,oL h x u (by simpa [AV.within] using hs) h2⟩
 |.cond p x,v,hs,hv=>by
  simp only [aj] at hv ⊢
  exact ⟨fun hp=>oL h x v (by simpa [AV.within] using hs) (hv.1 hp),hv.2⟩
theorem iP {n:Nat} {ok ok':Nat→Prop} (h:∀blk,ok blk→ok' blk):∀(xs:List AV) (vs:List Value),AV.within.rF n xs=true→ak β bx w ok xs vs→ak β (bx.take n) w ok' xs vs
 |[],vs,_,hv=>by simpa [ak] using hv
 |x::xs,vs,hs,hv=>by
  simp only [ak] at hv ⊢
  obtain ⟨u,us,h1,h2,h3⟩:=hv
  simp only [AV.within.rF,Bool.and_eq_true] at hs
  exact ⟨u,us,h1,oL h x u hs.1 h2,iP h xs us hs.2 h3⟩
end
theorem kR {n:Nat}:∀{bs:List az} {i:Nat} {cs:List AV},bZ n bs=true→bs[i]?=some (.var cs)→AV.within.rF n cs=true
 |[],i,cs,_,hi=>by simp at hi
 |b::bs,0,cs,h,hi=>by
  simp at hi;subst hi
  simp only [bZ,Bool.and_eq_true] at h
  exact h.1
 |b::bs,i+1,cs,h,hi=>by
  simp at hi
  refine kR (i:=i) ?_ hi
  cases b<;>simp [bZ] at h<;>first|exact h|exact h.2
theorem F4 (cx:cJ G β bx w X) {n:Nat} (hw:bZ n (bx.take n)=true):cJ G β (bx.take n) w X:=by
 have hk:∀blk,bg β bx w X blk→bg β (bx.take n) w X blk:=fun blk h=>F3 n blk h
 have hkeep:je w w (bg β bx w X) (bg β (bx.take n) w X):=fun blk hb=>⟨hk blk hb,rfl⟩
 refine ⟨cx.xs,?_,?_,?_,?_⟩
 ·intro g ds hg
  obtain ⟨h1,h2⟩:=cx.yM g ds hg
  exact ⟨hk g h1,aX.mono hkeep g (fun _=>rfl) _ _ h2⟩
 ·intro i j bi bj hi hj
  exact cx.inj i j bi bj (fh hi).1 (fh hj).1
 ·intro i b hb
  have h:=cx.box i b (fh hb).1
  cases b with
  |var cs=>
   obtain ⟨c,e,h1,h2⟩:=h
   exact ⟨c,e,h1,iP hk cs _ (kR hw hb) h2⟩
  |row sz es=>
   refine h.imp id ?_
   rintro ⟨c,e,h1,h2⟩
   exact ⟨c,e,h1,ay.mono hkeep _ _ (fun _=>rfl) _ _ h2⟩
  |kC sz es=>
   refine h.imp id ?_
   rintro ⟨h1,h2⟩
   exact ⟨hk _ h1,ay.mono hkeep _ _ (fun _=>rfl) _ _ h2⟩
  |it s p=>exact h
  |mp ag es=>obtain ⟨ms,clock,h1,h2,h3⟩:=h;exact ⟨ms,clock,h1,h2,bp.mono hkeep _ _ _ h3⟩
  |dead=>trivial
  |bt=>trivial
 intro i b hb hl
 exact cx.apart i b (fh hb).1 hl
theorem F5 {β0:Nat→Nat} {bC:List az} {w0:World} (ex:Ext β0 bC w0 β bx w):Ext β0 bC w0 β (bx.take bC.length) w:=by
 refine ⟨ex.os,ex.tape,ex.output,ex.size,ex.block,ex.shape,?_,?_⟩
 ·rintro i ⟨b,hb,dL⟩
  obtain ⟨h1,B,h2,h3⟩:=ex.born i ⟨b,hb,dL⟩
  exact ⟨h1,B,by rw [List.getElem?_take,if_pos (jw hb)];exact h2,h3⟩
 intro i b hb hl
 exact ex.live i b (fh hb).1 hl
theorem Mz (cx:cJ G β bx w X) {x y:AV} {u:Value} (hd:IC bx x=some y) (h:aj β bx w (bg β bx w X) x u):
 Ext β bx w β (sC bx x) w∧cJ G β (sC bx x) w X∧aj β (sC bx x) w (bg β (sC bx x) w X) y u:=by
 cases x with
 |dV cs=>
  simp only [IC,Option.map_eq_some_iff] at hd
  obtain ⟨ys,h1,rfl⟩:=hd
  simp only [aj] at h
  obtain ⟨vs,rfl,hvs⟩:=h
  obtain ⟨g1,g2,g3⟩:=lR cs bx ys vs cx h1 hvs
  exact ⟨g1,g2,by simp only [aj];exact ⟨vs,rfl,g3⟩⟩
 |_=>simp only [IC] at hd;simp only [sC];exact Cy cx hd h
theorem Lg {β0:Nat→Nat} {bC:List az} {w0:World} (cx:cJ G β bx w X) (ex:Ext β0 bC w0 β bx w) {k sz m:Nat} {es:List (List D)} (hn:bC.length≤bx.length) (hw:bZ bC.length (bx.take bC.length)=true)
 (hk:(es=[]∧m=0)∨(bC.length≤k∧bx[k]?=some (.row sz es))) {u:Value} (hu:es=[]∧m=0∧(∃base,u=.slice base 0 0)∨aj β bx w (bg β bx w X) (.ow k sz m) u):
 ∃β',Ext β0 bC w0 β' (bx.take bC.length++[.row sz es]) w∧cJ G β' (bx.take bC.length++[.row sz es]) w X∧
  aj β' (bx.take bC.length++[.row sz es]) w (bg β' (bx.take bC.length++[.row sz es]) w X) (.ow bC.length sz m) u:=by
 have hlen:(bx.take bC.length).length=bC.length:=by simp;omega
 have e1:=F5 ex
 have c1:=F4 cx hw
 have hrow:es≠[]→bC.length≤k∧bx[k]?=some (.row sz es):=fun hne=>hk.resolve_left (fun h=>hne h.1)
 have cz:az.live (.row sz es)=true→es≠[]:=by intro hl;cases es<;>simp [az.live] at hl ⊢
 have hold:∀i b,(bx.take bC.length)[i]?=some b→kZ β bC.length (β k) i=β i:=by
  intro i b h
  exact dc _ _ (by have:=(fh h).2;omega)
 have hinv:∀{i b},(bx.take bC.length++[.row sz es])[i]?=some b→((bx.take bC.length)[i]?=some b)∨(i=bC.length∧b=.row sz es):=by
  intro i b h
  rcases bu h with ⟨h1,_⟩|⟨h1,h2⟩
  ·exact .inl h1
  exact .inr ⟨by omega,h2⟩
 have e2:Ext β0 bC w0 (kZ β bC.length (β k)) (bx.take bC.length++[.row sz es]) w:=by
  refine ⟨ex.os,ex.tape,ex.output,ex.size,ex.block,ex.shape,?_,?_⟩
  ·intro i hi
   obtain ⟨h1,b,h2,h3⟩:=e1.born i hi
   exact ⟨by rw [hold i b h2];exact h1,b,eH h2,h3⟩
  intro i b h hl
  rcases hinv h with h1|⟨rfl,rfl⟩
  ·rw [hold i b h1];exact e1.live i b h1 hl
  rw [bq];exact ex.live k _ (hrow (cz hl)).2 hl
 have hok:∀blk,bg β bx w X blk→bg (kZ β bC.length (β k)) (bx.take bC.length++[.row sz es]) w X blk:=by
  rintro blk ⟨k1,k2,k3⟩
  refine ⟨k1,k2,?_⟩
  intro i b h hl
  rcases hinv h with h1|⟨rfl,rfl⟩
  ·rw [hold i b h1];exact k3 i b (fh h1).1 hl
  rw [bq];exact k3 k _ (hrow (cz hl)).2 hl
 have hkeep:je w w (bg β bx w X) (bg (kZ β bC.length (β k)) (bx.take bC.length++[.row sz es]) w X):=fun blk hb=>⟨hok blk hb,rfl⟩
 have qc:sD β (bx.take bC.length) w (bg β bx w X) (kZ β bC.length (β k)) (bx.take bC.length++[.row sz es]) w (bg (kZ β bC.length (β k)) (bx.take bC.length++[.row sz es]) w X):=by
  refine ⟨hkeep,?_,fun _ c _ _ h=>⟨c,h,rfl⟩⟩
  rintro i ⟨b,hb,h3⟩
  exact ⟨hold i b hb,b,eH hb,h3⟩
 refine ⟨_,e2,⟨cx.xs,?_,?_,?_,?_⟩,?_⟩
 ·intro g ds hg
  obtain ⟨h1,h2⟩:=cx.yM g ds hg
  exact ⟨hok g h1,aX.mono hkeep g (fun _=>rfl) _ _ h2⟩
 ·intro i j bi bj hi hj mQ oJ he
  rcases hinv hi with h1|⟨rfl,rfl⟩<;>rcases hinv hj with h2|⟨rfl,rfl⟩
  ·rw [hold i bi h1,hold j bj h2] at he
   exact c1.inj i j bi bj h1 h2 mQ oJ he
  ·rw [hold i bi h1,bq] at he
   obtain ⟨r1,r2⟩:=hrow (cz oJ)
   have:=cx.inj i k bi _ (fh h1).1 r2 mQ oJ he
   have:=(fh h1).2;omega
  ·rw [hold j bj h2,bq] at he
   obtain ⟨r1,r2⟩:=hrow (cz mQ)
   have:=cx.inj k j _ bj r2 (fh h2).1 mQ oJ he
   have:=(fh h2).2;omega
  rfl
 ·intro i b hb
  rcases hinv hb with h1|⟨rfl,rfl⟩
  ·rw [hold i b h1]
   have h:=cx.box i b (fh h1).1
   cases b with
   |var cs=>
    obtain ⟨c,e,g1,g2⟩:=h
    exact ⟨c,e,g1,ak.mono qc _ _ (iP (fun _ hb=>hb) cs _ (kR hw h1) g2)⟩
   |row sz es=>
    refine h.imp id ?_
    rintro ⟨c,e,g1,g2⟩
    exact ⟨c,e,g1,ay.mono hkeep _ _ (fun _=>rfl) _ _ g2⟩
   |kC sz es=>
    refine h.imp id ?_
    rintro ⟨g1,g2⟩
    exact ⟨hok _ g1,ay.mono hkeep _ _ (fun _=>rfl) _ _ g2⟩
   |it s p=>exact h
   |mp ag es=>obtain ⟨ms,clock,h1,h2,h3⟩:=h;exact ⟨ms,clock,h1,h2,bp.mono hkeep _ _ _ h3⟩
   |dead=>trivial
   |bt=>trivial
  rw [bq]
  by_cases hne:es=[]
  ·exact .inl hne
  have h:=cx.box k _ (hrow hne).2
  refine h.imp id ?_
  rintro ⟨c,e,g1,g2⟩
  exact ⟨c,e,g1,ay.mono hkeep _ _ (fun _=>rfl) _ _ g2⟩
 ·intro i b hb hl
  rcases hinv hb with h1|⟨rfl,rfl⟩
  ·rw [hold i b h1];exact cx.apart i b (fh h1).1 hl
  rw [bq];exact cx.apart k _ (hrow (cz hl)).2 hl
 simp only [aj]
 refine ⟨⟨.row sz es,by rw [List.getElem?_append_right (by omega)];simp [hlen],rfl⟩,?_⟩
 rw [bq]
 rcases hu with ⟨_,rfl,base,rfl⟩|hu
 ·exact .inl ⟨rfl,base,rfl⟩
 simp only [aj] at hu
 exact hu.2
theorem mz:∀(ks:List Bool) (bs:List az) (i:Nat) (b':az),(kill ks bs)[i]?=some b'→∃b,bs[i]?=some b∧(b'=b∨(b'=.dead∧b.born=true))
 |[],bs,i,b',h=>⟨b',by simpa [kill] using h,.inl rfl⟩
 |_::_,[],i,b',h=>by simp [kill] at h
 |k::ks,b::bs,0,b',h=>by
  simp only [kill,List.getElem?_cons_zero,osI] at h
  refine ⟨b,rfl,?_⟩
  cases hk:(k&&b.born) with
  |false=>rw [hk] at h;exact .inl h.symm
  |true=>rw [hk] at h;simp at hk;exact .inr ⟨h.symm,hk.2⟩
 |k::ks,b::bs,i+1,b',h=>by
  simp only [kill,List.getElem?_cons_succ] at h
  obtain ⟨b0,h1,h2⟩:=mz ks bs i b' h
  exact ⟨b0,by simpa using h1,h2⟩
theorem F6:∀(ks:List Bool) (bs:List az) (i:Nat) (b:az),bs[i]?=some b→∃b',(kill ks bs)[i]?=some b'∧(b'=b∨(b'=.dead∧b.born=true))
 |[],bs,i,b,h=>⟨b,by simpa [kill] using h,.inl rfl⟩
 |_::_,[],i,b,h=>by simp at h
 |k::ks,b0::bs,0,b,h=>by
  simp only [List.getElem?_cons_zero,osI] at h
  subst h
  refine ⟨_,by simp only [kill,List.getElem?_cons_zero];rfl,?_⟩
  cases hk:(k&&b0.born) with
  |false=>exact .inl rfl
  |true=>simp at hk;exact .inr ⟨rfl,hk.2⟩
 |k::ks,b0::bs,i+1,b,h=>by
  simp only [List.getElem?_cons_succ] at h
  obtain ⟨b',h1,h2⟩:=F6 ks bs i b h
  exact ⟨b',by simpa only [kill,List.getElem?_cons_succ] using h1,h2⟩
theorem Sf (ks:List Bool) (cx:cJ G β bx w X):Ext β bx w β (kill ks bx) w∧cJ G β (kill ks bx) w X:=by
 have ex:Ext β bx w β (kill ks bx) w:=by
  refine ⟨rfl,rfl,rfl,Nat.le_refl _,fun _ _ _=>rfl,fun k c e f h=>⟨c,h,rfl⟩,?_,?_⟩
  ·rintro i ⟨b,h1,h2⟩
   obtain ⟨b',h3,h4⟩:=F6 ks bx i b h1
   refine ⟨rfl,b',h3,?_⟩
   rcases h4 with rfl|⟨rfl,_⟩
   ·exact h2
   rfl
  intro i b h1 h2
  obtain ⟨b0,h3,h4⟩:=mz ks bx i b h1
  rcases h4 with rfl|⟨rfl,_⟩
  ·exact .inr ⟨i,b,h3,h2,rfl⟩
  simp [az.live] at h2
 refine ⟨ex,cx.step ex ?_ ?_⟩
 ·intro i b h1
  obtain ⟨b0,h3,h4⟩:=mz ks bx i b h1
  rcases h4 with rfl|⟨rfl,_⟩
  ·exact .inl ⟨h3,fun _=>rfl⟩
  exact .inr trv
 intro i j bi bj h1 h2 l1 l2 he
 obtain ⟨b1,h3,h4⟩:=mz ks bx i bi h1
 obtain ⟨b2,h5,h6⟩:=mz ks bx j bj h2
 rcases h4 with rfl|⟨rfl,_⟩
 ·rcases h6 with rfl|⟨rfl,_⟩
  ·exact cx.inj i j _ _ h3 h5 l1 l2 he
  simp [az.live] at l2
 simp [az.live] at l1
def D3 (tmps:Array Value) (r:ResultVar):Sem Value:=
 match r with
 |.tmp t=>pure (tmps.getD t undef)
 |.cell a t=>do loadVar t (←asAddr (tmps.getD a undef))
theorem IX (fn:Func) (tmps:Array Value):results fn tmps=(do let vs ←fn.results.mapM (D3 tmps);pure (if h:vs.size=1 then vs[0] else .tuple vs)):=rfl
theorem Ae (hT:kr P T) {N:Nat} {ds:List Deferred} {s:St} {a:Act} (hF:Fr G N ds β w X s a):∀(rs:List ResultVar) {c:Prop} {vs:List AV},B4 T s.sl s.bx rs=some (c,vs)→c→
 ∃us:List Value,(rs.mapM (D3 a.tmps)).run P w=.ok us w∧ak β s.bx w (bg β s.bx w X) vs us
 |[],c,vs,h,_=>by
  simp [B4] at h
  obtain ⟨_,rfl⟩:=h
  exact ⟨[],by simp,by simp [ak]⟩
 |.tmp t::r,c,vs,h,hc=>by
  simp only [B4] at h
  split at h
  ·rename_i c' vs' h'
   simp only [osI,Prod.mk.injEq] at h
   obtain ⟨rfl,rfl⟩:=h
   obtain ⟨us,g1,g2⟩:=Ae hT hF r h' hc.2
   refine ⟨a.tmps.getD t undef::us,?_,?_⟩
   ·rw [List.mapM_cons]
    simp only [Sem.run_bind,g1,D3,Sem.run_pure,Result.andThen_ok]
   simp only [ak];exact ⟨_,_,rfl,ke (hF.ze t) hc.1,g2⟩
  simp at h
 |.cell t ty::r,c,vs,h,hc=>by
  simp only [B4] at h
  split at h
  ·rename_i ti c' vs' ZE h'
   split at h
   ·rename_i b o hl
    split at h
    ·rename_i c2 v b2 hld
     simp only [osI,Prod.mk.injEq] at h
     obtain ⟨rfl,rfl⟩:=h
     obtain ⟨us,g1,g2⟩:=Ae hT hF r h' hc.2
     have hp:=hF.ze t
     rw [hl] at hp
     obtain ⟨_,x,k1,k2⟩:=zJ (P:=P) hT hF.cx ZE hp hld hc.1
     simp only [aj] at hp
     rw [hp.1] at k1
     refine ⟨x::us,?_,?_⟩
     ·rw [List.mapM_cons]
      have:(loadVar ty ⟨β b,o,none⟩).run P w=.ok x w:=by simpa [Instr.loadAt,Instr.sureAddr] using k1
      simp only [Sem.run_bind,D3,hp.1,asAddr,Sem.run_pure,Result.andThen_ok,this,g1]
     simp only [ak];exact ⟨_,_,rfl,k2,g2⟩
    simp at h
   simp at h
  simp at h
theorem F7 (hT:kr P T) {N:Nat} {ds:List Deferred} {s:St} {a:Act} (hF:Fr G N ds β w X s a) {fn:Func} {c:Prop} {vs:List AV} (h:B4 T s.sl s.bx fn.results.toList=some (c,vs)) (hc:c):
 ∃u,(results fn a.tmps).run P w=.ok u w∧aj β s.bx w (bg β s.bx w X) (Cs vs) u:=by
 obtain ⟨us,g1,g2⟩:=Ae hT hF _ h hc
 have hlen:=ak.length g2
 rw [IX,Array.mapM_eq_mapM_toList]
 simp [g1]
 split
 ·rename_i h1
  match us,vs,h1,hlen,g2 with
  |[u],[v],_,_,g2=>
   simp only [ak,List.cons.injEq] at g2
   obtain ⟨_,_,⟨rfl,rfl⟩,h,_⟩:=g2
   exact h
 rename_i h1
 have:Cs vs=.dV vs:=by
  match vs,hlen with
  |[],_=>rfl
  |[v],hl=>exact absurd hl h1
  |_::_::_,_=>rfl
 rw [this];simp only [aj];exact ⟨us,rfl,g2⟩
theorem F8:∀(args:List AV) (i t:Nat),gK t (pu i args)=if i≤t then args.getD (t-i) .any else .any
 |[],i,t=>by simp [pu,gK]
 |x::xs,i,t=>by
  simp only [pu,gK,F8 xs (i+1) t]
  by_cases h:t=i
  ·subst h;simp
  rw [WI h]
  simp only [cond_false]
  by_cases h2:i≤t
  ·rw [if_pos (by omega),if_pos h2,show t-i=(t-(i+1))+1 by omega];simp
  rw [if_neg (by omega),if_neg h2]
theorem IY (hT:kr P T) {f N:Nat} {fn:Func} {c:Code} {args:List AV} {bC aR:List az} {res:iU}
 (hN:fn.ntmps=N) (hlen:Nat.ble args.length N=true)
 (h:∀(β:Nat→Nat) (w:World) (X:Nat→Prop) (a:Act),Fr G N [] β w X ⟨pu 0 args,bC⟩ a→c.wp P (gG G N [] X β bC w (K4 T fn.results.toList bC.length res aR)) a w)
 (β:Nat→Nat) (w:World) (vs:List Value) (X:Nat→Prop) (cx:cJ G β bC w X) (hx:ak β bC w (bg β bC w X) args vs):
 c.wp P (bodyPost P fn fun e w'=>∃β',Ext β bC w β' aR w'∧cJ G β' aR w' X∧mh β' aR w' (bg β' aR w' X) res e) {tmps:=(⟨vs⟩:Array Value)++Array.replicate (fn.ntmps-(⟨vs⟩:Array Value).size) undef,defers:=[]} w:=by
 have hl:=ak.length hx
 have hle:args.length≤N:=Nat.le_of_ble_eq_true hlen
 refine wp_mono (h β w X _ ⟨cx,rfl,?_,?_⟩) ?_
 ·simp [hN,hl];omega
 ·intro t
  rw [F8]
  simp only [Nat.zero_le,if_true,Nat.sub_zero]
  by_cases ht:t<args.length
  ·obtain ⟨v,k1,k2⟩:=ak.get t args[t] hx (by simp [ht])
   have e1:args.getD t .any=args[t]:=by simp [List.getD_eq_getElem?_getD,ht]
   rw [e1]
   have hv:t<vs.length:=by omega
   have e2:vs[t]=v:=by rw [List.getElem?_eq_getElem hv] at k1;simpa using k1
   have e3:(({toList:=vs}:Array Value)++Array.replicate (fn.ntmps-(⟨vs⟩:Array Value).size) undef).getD t undef=v:=by
    simp [Array.getD_eq_getD_getElem?,Array.getElem?_append,hv,e2]
   rw [e3];exact k2
  simp [List.getD_eq_getElem?_getD,List.getElem?_eq_none (Nat.le_of_not_lt ht),aj]
 intro e a' w' Sg
 have fin:∀β' s,Ext β bC w β' s.bx w'→Fr G N [] β' w' X s a'→(match B4 T s.sl s.bx fn.results.toList with
  |some (c,vs)=>Ub bC.length c (Cs vs) s.bx res aR
  |none=>False)→a'.defers=[]∧∃v,(results fn a'.tmps).run P w'=.ok v w'∧∃β',Ext β bC w β' aR w'∧cJ G β' aR w' X∧mh β' aR w' (bg β' aR w' X) res (.returned v):=by
  intro β' s ex hF hq
  split at hq
  ·rename_i c vs' hres
   obtain ⟨hc,hq⟩:=hq
   obtain ⟨u,k1,k2⟩:=F7 hT hF hres hc
   refine ⟨hF.defers,u,k1,?_⟩
   rcases hq with ⟨rfl,rfl⟩|⟨ks,y,q1,q2,rfl,q3,rfl⟩|⟨k,sz,m,es,q0,q1,q2,q3,q4,rfl,rfl⟩|⟨sz,q0,q1,q2,rfl,rfl⟩
   ·exact ⟨β',ex,hF.cx,k2⟩
   ·obtain ⟨e1,c1,r1⟩:=Mz hF.cx q1 k2
    obtain ⟨e2,c2⟩:=Sf ks c1
    exact ⟨β',F5 ((ex.trans e1).trans e2),F4 c2 q3,oL (fun blk hb=>F3 _ blk hb) y u q2 (aj.mono (e2.eY X) _ _ r1)⟩
   ·rw [q0] at k2
    exact Lg hF.cx ex q3 q4 (.inr ⟨q2,q1⟩) (.inr k2)
   rw [q0] at k2
   simp only [aj,List.length_nil] at k2
   obtain ⟨base,k2,_⟩:=k2
   exact Lg (k:=0) hF.cx ex q1 q2 (.inl ⟨rfl,rfl⟩) (.inl ⟨rfl,rfl,base,k2⟩)
  exact hq.elim
 cases e<;>simp only [gG,bodyPost] at Sg ⊢
 ·obtain ⟨β',s,h1,h2,h3⟩:=Sg;exact fin β' s h1 h2 h3
 ·obtain ⟨β',s,h1,h2,h3⟩:=Sg;exact h3.elim
 ·obtain ⟨β',s,h1,h2,h3⟩:=Sg;exact fin β' s h1 h2 h3
 obtain ⟨β',pT,v,u,h1,h2,h3,h4,h5,h6⟩:=Sg
 obtain ⟨rfl,rfl⟩:=h6.ok
 exact ⟨h5,β',h2,h3,u,h1,h4⟩
theorem uP (hT:kr P T) {f N:Nat} {fn:Func} {c:Code} {args:List AV} {bC aR:List az} {res:iU} (hf:P.funcs[f]?=some fn) (hb:fn.body=some c)
 (hname:(fn.name== "runtime.NumGoroutine")=false) (hN:fn.ntmps=N) (hlen:Nat.ble args.length N=true)
 (h:∀(β:Nat→Nat) (w:World) (X:Nat→Prop) (a:Act),Fr G N [] β w X ⟨pu 0 args,bC⟩ a→c.wp P (gG G N [] X β bC w (K4 T fn.results.toList bC.length res aR)) a w):bA P G f args bC res aR:=by
 intro β w vs X cx hx
 refine .inl ⟨?_,calls_of_wp hf hb (IY (f:=f) hT hN hlen h β w vs X cx hx)⟩
 simp [callFunc,run_program,hf,hb]
 simpa using hname
end
end Dem
end
section
open Go Go.Deep
namespace Dem
inductive PT where
 |bool
 |int (k:IntKind)
 |str
 |sl (es:List PT)
def O1 (r:TypeId→Option (List PT)) (sz:TypeId→Nat):List Field→Nat→Option (List PT)
 |[],_=>some []
 |f::fs,off=>if f.offset=off then match r f.type,O1 r sz fs (off+sz f.type) with
  |some a,some b=>if a.length=sz f.type then some (a++b) else none
  |_,_=>none else none
def F9 (P:Program):Nat→TypeId→Option (List PT)
 |0,_=>none
 |n+1,t=>match P.underlying t with
  |some .bool=>some [.bool]
  |some (.int k)=>some [.int k]
  |some .string=>some [.str]
  |some (.slice e)=>match F9 P n e with
   |some ps=>if ps.length=P.cellsOf e∧0<ps.length then some [.sl ps] else none
   |none=>none
  |some (.struct fs)=>match O1 (F9 P n) P.cellsOf fs.toList 0 with
   |some ps=>if ps.length=P.cellsOf t then some ps else none
   |none=>none
  |some (.array k e)=>match F9 P n e with
   |some ps=>if ps.length=P.cellsOf e∧k*ps.length=P.cellsOf t then some (List.replicate k ps).flatten else none
   |none=>none
  |_=>none
mutual
def xW:PT→D→Prop
 |.bool,d=>∃b,d=.bool b
 |.int k,d=>∃n,d=.int k n∧(Lit.int k n).wf=true
 |.str,d=>∃s:List UInt8,d=.str s∧s.length≤maxLen
 |.sl ps,d=>∃es:List (List D),d=.sl es∧es.length≤maxLen∧∀r∈es,de ps r
def de:List PT→List D→Prop
 |[],ds=>ds=[]
 |p::ps,ds=>∃d r,ds=d::r∧xW p d∧de ps r
end
theorem de.length:∀{ps:List PT} {ds:List D},de ps ds→ds.length=ps.length
 |[],ds,h=>by simp only [de] at h;subst h;rfl
 |p::ps,ds,h=>by
  simp only [de] at h
  obtain ⟨d,r,rfl,_,h2⟩:=h
  simp [de.length h2]
theorem de.append:∀{ps qs:List PT} {ds es:List D},de ps ds→de qs es→de (ps++qs) (ds++es)
 |[],qs,ds,es,h,g=>by simp only [de] at h;subst h;exact g
 |p::ps,qs,ds,es,h,g=>by
  simp only [de] at h
  obtain ⟨d,r,rfl,h1,h2⟩:=h
  simp only [List.cons_append,de]
  exact ⟨d,r++es,rfl,h1,h2.append g⟩
theorem cG.append {w:World} {ok:Nat→Prop}:∀{ds es:List D} {vs us:List Value},cG w ok ds vs→cG w ok es us→cG w ok (ds++es) (vs++us)
 |[],es,vs,us,h,g=>by simp only [cG] at h;subst h;exact g
 |d::ds,es,vs,us,h,g=>by
  simp only [cG] at h
  obtain ⟨v,r,rfl,h1,h2⟩:=h
  simp only [List.cons_append,cG]
  exact ⟨v,r++us,rfl,h1,h2.append g⟩
theorem cG.row {w:World} {ok:Nat→Prop} {blk:Nat}:∀{ds:List D} {vs:List Value} {off:Nat},cG w ok ds vs→(∀i,i<vs.length→w.cell? ⟨blk,off+i,none⟩=vs[i]?)→aX w ok blk ds off
 |[],_,_,_,_=>by simp [aX]
 |d::ds,vs,off,h,hc=>by
  simp only [cG] at h
  obtain ⟨v,r,rfl,h1,h2⟩:=h
  simp only [aX]
  refine ⟨⟨v,by simpa using hc 0 (by simp),h1⟩,h2.row fun i hi=>?_⟩
  have:=hc (i+1) (by simp;omega)
  simpa [Nat.add_assoc,Nat.add_comm 1 i] using this
mutual
def gm {H:Type}:DataW H→List D
 |.lit (.bool b)=>[.bool b]
 |.lit (.int k n)=>[.int k n]
 |.lit (.string s)=>[.str s]
 |.nil=>[.sl []]
 |.slice elems _=>[.sl (uQ elems)]
 |.agg parts=>iD parts
 |_=>[]
def uQ {H:Type}:List (DataW H)→List (List D)
 |[]=>[]
 |d::r=>gm d::uQ r
def iD {H:Type}:List (DataW H)→List D
 |[]=>[]
 |d::r=>gm d++iD r
end
theorem uR {H:Type}:∀l:List (DataW H),uQ l=l.map gm
 |[]=>rfl
 |d::r=>by simp [uQ,uR r]
theorem CG {w:World} {ok:Nat→Prop} {blk sz:Nat}:∀(n off:Nat) (f:Nat→List D),(∀i,i<n→aX w ok blk (f i) (off+i*sz)∧(f i).length=sz)→ay w ok blk sz ((List.range n).map f) off
 |0,off,_,_=>by simp [ay]
 |n+1,off,f,h=>by
  obtain ⟨h1,h2⟩:=h 0 (by omega)
  rw [List.range_succ_eq_map,List.map_cons,List.map_map]
  simp only [ay]
  refine ⟨h2,by simpa using h1,CG n (off+sz) _ fun i hi=>?_⟩
  obtain ⟨k1,k2⟩:=h (i+1) (by omega)
  rw [show off+sz+i*sz=off+(i+1)*sz by rw [Nat.succ_mul];omega]
  exact ⟨k1,k2⟩
theorem MA {w:World} {a:Addr} {v:Value} (h:w.cell? a=some v):a.spot=none:=by
 unfold World.cell? at h
 split at h
 ·split at h
  ·cases h
  rename_i hs;simpa using hs
 cases h
theorem add_eq {a:Addr} (h:a.spot=none) (n:Nat):a.add n=⟨a.block,a.off+n,none⟩:=by
 unfold Addr.add
 split
 ·rename_i h0;subst h0;cases a;simp_all
 rfl
theorem Af {α:Type} (cs:List α) (off a b:Nat):(cs.drop off).take (a+b)=(cs.drop off).take a++(cs.drop (off+a)).take b:=by
 rw [List.take_add,List.drop_drop]
section
variable {H:Type} {enc:TypeId×Value→H} {P:Program} {w:World} {spare:Nat→Bool} {held:Bool} {ok:Nat→Prop}
theorem Ag {r:TypeId→Option (List PT)} {n:Nat} {cs:List Value} (hr:∀t cs x ps,DataW.trod enc P w 0 spare held n t cs=some x→r t=some ps→cG w ok (gm x.1) cs∧de ps (gm x.1)):
 ∀(fs:List Field) (xs:List (DataW H×List MemPlace)) (off:Nat) (ps:List PT),O1 r P.cellsOf fs off=some ps→xs.length=fs.length→
  (∀(i:Nat) (f:Field),fs[i]?=some f→DataW.trod enc P w 0 spare held n f.type ((cs.drop f.offset).take (P.cellsOf f.type))=xs[i]?)→
  cG w ok (iD (xs.map (·.1))) ((cs.drop off).take ps.length)∧de ps (iD (xs.map (·.1)))
 |[],xs,off,ps,h,hl,_=>by
  simp only [O1,osI] at h;subst h
  obtain rfl:xs=[]:=by simpa using hl
  exact ⟨by simp [cG,iD],by simp [de,iD]⟩
 |f::fs,[],off,ps,h,hl,hx=>by simp at hl
 |f::fs,x::xs,off,ps,h,hl,hx=>by
  simp only [O1] at h
  split at h
  ·rename_i ho
   split at h
   ·rename_i a b ha hb
    split at h
    ·rename_i hla
     simp only [osI] at h;subst h
     have hx0:=hx 0 f rfl
     obtain ⟨g1,g2⟩:=hr _ _ _ _ (by simpa using hx0) ha
     obtain ⟨k1,k2⟩:=Ag hr fs xs _ b hb (by simpa using hl) (fun i f hf=>by simpa using hx (i+1) f (by simpa using hf))
     rw [List.length_append,Af]
     rw [ho,←hla] at g1
     rw [←hla] at k1
     simp only [List.map_cons,iD]
     exact ⟨g1.append k1,g2.append k2⟩
    cases h
   cases h
  cases h
theorem CH {r:List PT} {cs:List Value}:∀(k off:Nat) (xs:List (DataW H×List MemPlace)),xs.length=k→(∀i x,xs[i]?=some x→cG w ok (gm x.1) ((cs.drop (off+i*r.length)).take r.length)∧de r (gm x.1))→
 cG w ok (iD (xs.map (·.1))) ((cs.drop off).take (k*r.length))∧de (List.replicate k r).flatten (iD (xs.map (·.1)))
 |0,off,xs,hl,_=>by
  obtain rfl:xs=[]:=by simpa using hl
  exact ⟨by simp [cG,iD],by simp [de,iD]⟩
 |k+1,off,[],hl,h=>by simp at hl
 |k+1,off,x::xs,hl,h=>by
  obtain ⟨g1,g2⟩:=h 0 x rfl
  obtain ⟨k1,k2⟩:=CH (r:=r) (cs:=cs) k (off+r.length) xs (by simpa using hl) (fun i x hx=>by
   obtain ⟨k1,k2⟩:=h (i+1) x (by simpa using hx)
   rw [show off+r.length+i*r.length=off+(i+1)*r.length by rw [Nat.succ_mul];omega]
   exact ⟨k1,k2⟩)
  rw [show (k+1)*r.length=r.length+k*r.length by rw [Nat.succ_mul];omega,Af,List.replicate_succ,List.flatten_cons]
  simp only [List.map_cons,iD]
  exact ⟨cG.append (by simpa using g1) k1,g2.append k2⟩
theorem uS (hok:∀blk,blk<w.heap.size→ok blk):
 ∀(n m:Nat) (t:TypeId) (cs:List Value) (x:DataW H×List MemPlace) (ps:List PT),DataW.trod enc P w 0 spare held m t cs=some x→F9 P n t=some ps→cG w ok (gm x.1) cs∧de ps (gm x.1)
 |0,_,_,_,_,_,_,h=>by simp [F9] at h
 |n+1,m,t,cs,x,ps,h,hp=>by
  have ih:=uS hok n
  rw [F9] at hp
  cases hu:P.underlying t with
  |none=>simp [hu] at hp
  |some d=>
   simp only [hu] at hp
   cases d<;>(try (cases hp;done))<;>simp only at hp
   case bool=>
    simp only [osI] at hp;subst hp
    obtain ⟨b,rfl,rfl⟩:=DataW.trod_bool hu h
    exact ⟨by simp [cG,aL,gm],by simp [de,xW,gm]⟩
   case int k=>
    simp only [osI] at hp;subst hp
    obtain ⟨z,rfl,rfl,hw⟩:=DataW.trod_int hu h
    exact ⟨by simp [cG,aL,gm],by simpa [de,xW,gm] using hw⟩
   case string=>
    simp only [osI] at hp;subst hp
    obtain ⟨s,rfl,rfl,hs⟩:=DataW.trod_string hu h
    refine ⟨by simp [cG,aL,gm],?_⟩
    simp only [de,xW,gm]
    exact ⟨_,_,rfl,⟨_,rfl,by rw [Array.length_toList];exact hs⟩,rfl⟩
   case slice e=>
    split at hp
    ·rename_i qs hq
     split at hp
     ·rename_i hl
      simp only [osI] at hp;subst hp
      rcases open_slice hu h with ⟨rfl,rfl⟩|⟨a,len,cap,mm,n',Dd,Pl,rfl,hb,hlc,hm,ZF,rfl,hx⟩
      ·exact ⟨by simp [cG,aL,gm],by simp [de,xW,gm]⟩
      have hlen:len≤mm:=by rw [ZF];split<;>omega
      have hel:∀i,i<len→∃cs',w.cells? 0 (a.add (i*P.cellsOf e)) (P.cellsOf e)=some cs'∧cG w ok (gm (Dd i)) cs'∧de qs (gm (Dd i)):=by
       intro i hi
       obtain ⟨cs',hc,htr⟩:=hx i (by omega)
       exact ⟨cs',hc,ih _ _ _ _ _ htr hq⟩
      have hfl:gm (.slice ((List.range len).map Dd) ((List.range (mm-len)).map fun j=>Dd (len+j)))=[.sl ((List.range len).map fun i=>gm (Dd i))]:=by
       simp [gm,uR,List.map_map,Function.comp_def]
      simp only [hfl]
      have ZE:de [.sl qs] [.sl ((List.range len).map fun i=>gm (Dd i))]:=by
       simp only [de,xW]
       refine ⟨_,_,rfl,⟨_,rfl,by simp;omega,?_⟩,rfl⟩
       intro r hr
       obtain ⟨i,hi,rfl⟩:=List.mem_map.1 hr
       obtain ⟨cs',_,_,g⟩:=hel i (by simpa using hi)
       exact g
      refine ⟨?_,ZE⟩
      cases len with
      |zero=>simp [cG,aL]
      |succ len=>
       have hsp:a.spot=none:=by
        obtain ⟨cs',hc,htr⟩:=hel 0 (by omega)
        obtain ⟨_,hl',hcell⟩:=World.cells?_some hc
        have h0:=hcell 0 (by omega)
        rw [List.getElem?_eq_getElem (by omega)] at h0
        have:=MA h0
        simpa [Addr.add] using this
       have ZG:a.block<w.heap.size:=by
        obtain ⟨cs',hc,htr⟩:=hel 0 (by omega)
        have:=World.cells?_block hc (by omega)
        simpa [Addr.add] using this
       have g:=CG (w:=w) (ok:=ok) (blk:=a.block) (sz:=P.cellsOf e) (len+1) a.off (fun i=>gm (Dd i)) (fun i hi=>by
        obtain ⟨cs',hc,g1,g2⟩:=hel i hi
        obtain ⟨_,hl',hcell⟩:=World.cells?_some hc
        refine ⟨g1.row (fun j hj=>?_),by rw [g2.length];exact hl.1⟩
        have:=hcell j (by omega)
        rw [add_eq hsp,add_eq rfl] at this
        exact this)
       simp only [cG,aL]
       exact ⟨_,_,rfl,⟨some a,cap,by simp,by simp;omega,.inr ⟨a.block,a.off,P.cellsOf e,by cases a;simp_all,hok _ ZG,g⟩⟩,rfl⟩
     cases hp
    cases hp
   case struct fs=>
    split at hp
    ·rename_i qs hq
     split at hp
     ·rename_i hl
      simp only [osI] at hp;subst hp
      obtain ⟨xs,m',hm,rfl,RY,hxl,hxs⟩:=DataW.trod_struct hu h
      have hf:∀(i:Nat) (f:Field),fs.toList[i]?=some f→DataW.trod enc P w 0 spare held m' f.type ((cs.drop f.offset).take (P.cellsOf f.type))=xs[i]?:=by
       intro i f hf
       exact hxs i f (by simpa using hf)
      obtain ⟨g1,g2⟩:=Ag (ok:=ok) (fun t cs x ps=>ih m' t cs x ps) fs.toList xs 0 _ hq (by simpa using hxl) hf
      simp only [gm]
      refine ⟨?_,g2⟩
      have e:(cs.drop 0).take qs.length=cs:=by rw [List.drop_zero,hl,←RY,List.take_length]
      rwa [e] at g1
     cases hp
    cases hp
   case array k e=>
    split at hp
    ·rename_i qs hq
     split at hp
     ·rename_i hl
      simp only [osI] at hp;subst hp
      obtain ⟨xs,m',hm,rfl,RY,hxl,hxs⟩:=DataW.trod_array hu h
      obtain ⟨g1,g2⟩:=CH (w:=w) (ok:=ok) (r:=qs) (cs:=cs) k 0 xs hxl (fun i x hi=>by
       have hi3:i<xs.length:=(List.getElem?_eq_some_iff.1 hi).1
       have:=hxs i (by omega)
       rw [hl.1,Nat.zero_add]
       rw [hi] at this
       exact ih _ _ _ _ _ this hq)
      simp only [gm]
      refine ⟨?_,g2⟩
      have e:(cs.drop 0).take (k*qs.length)=cs:=by rw [List.drop_zero,hl.2,←RY,List.take_length]
      rwa [e] at g1
     cases hp
    cases hp
end
end Dem
end
section
open Go
namespace Dem
section
variable {T:Nat→Option TI} {G:Nat→Option (List D)} {bx aR:List az}
def lE (bx aR:List az):Prop:=∀(i:Nat) (b:az),bx[i]?=some b→b.born=true→aR[i]?=some b
theorem lE.refl (bx:List az):lE bx bx:=fun _ _ h _=>h
theorem O2 (h:lE bx aR) {x:AV} {y:D} (hx:x.rq bx=some y):x.rq aR=some y:=by
 cases x with
 |ow b sz n=>
  simp only [AV.rq] at hx ⊢
  split at hx
  ·rename_i s es hb
   rw [h _ _ hb rfl];exact hx
  ·rename_i s es hb
   rw [h _ _ hb rfl];exact hx
  simp at hx
 |fn f cs=>cases cs with
  |nil=>exact hx
  |cons c cs=>exact hx
 |_=>exact hx
theorem Lh (h:lE bx aR):∀{xs:List AV} {ys:List D},iV bx xs=some ys→iV aR xs=some ys
 |[],ys,hx=>hx
 |x::xs,ys,hx=>by
  simp only [iV] at hx ⊢
  split at hx
  ·rename_i y ys' hy hys
   rw [O2 h hy,Lh h hys];exact hx
  simp at hx
theorem rL (h:lE bx aR) {x:AV} {es:List (List D)} (hx:x.rows bx=some es):x.rows aR=some es:=by
 cases x with
 |d y=>cases y<;>exact hx
 |ow b sz n=>
  simp only [AV.rows] at hx ⊢
  split at hx
  ·rename_i s es hb
   rw [h _ _ hb rfl];exact hx
  ·rename_i s es hb
   rw [h _ _ hb rfl];exact hx
  simp at hx
 |vw b sz off n c ex=>
  simp only [AV.rows] at hx ⊢
  split at hx
  ·rename_i s es hb
   rw [h _ _ hb rfl];exact hx
  ·rename_i s es hb
   rw [h _ _ hb rfl];exact hx
  simp at hx
 |_=>exact hx
theorem Uj (h:lE bx aR) {x y:AV} (hx:fz bx x=some y):fz aR x=some y:=by
 cases x with
 |ow b sz n=>
  simp only [fz,Option.map_eq_some_iff] at hx ⊢
  obtain ⟨q,h1,h2⟩:=hx
  exact ⟨q,O2 h h1,h2⟩
 |vw b sz off n c ex=>
  simp only [fz,Option.map_eq_some_iff] at hx ⊢
  obtain ⟨q,h1,h2⟩:=hx
  exact ⟨q,rL h h1,h2⟩
 |_=>exact hx
theorem O3 (h:lE bx aR):∀{xs ys:List AV},Iw bx xs=some ys→Iw aR xs=some ys
 |[],ys,hx=>hx
 |x::xs,ys,hx=>by
  simp only [Iw] at hx ⊢
  split at hx
  ·rename_i y ys' hy hys
   rw [Uj h hy,O3 h hys];exact hx
  simp at hx
theorem D4 (h:lE bx aR):∀{xs ys:List AV},eZ bx xs=some ys→eZ aR xs=some ys
 |[],ys,hx=>hx
 |x::xs,ys,hx=>by
  simp only [eZ] at hx ⊢
  split at hx
  ·rename_i y ys' hy hys
   have:pQ aR x=some y:=by
    cases x with
    |agg cs=>
     simp only [pQ,Option.map_eq_some_iff] at hy ⊢
     obtain ⟨q,h1,h2⟩:=hy
     exact ⟨q,O3 h h1,h2⟩
    |_=>simp only [pQ] at hy ⊢;exact Uj h hy
   rw [this,D4 h hys];exact hx
  simp at hx
theorem O4 (h:lE bx aR) {ti:TI} {a:AV} {r:R} (hx:pn ti a bx=some r):pn ti a aR=some r:=by
 cases a with
 |ptr b off=>
  simp only [pn] at hx ⊢
  split at hx
  ·rename_i cs hb
   rw [h _ _ hb rfl];exact hx
  simp at hx
 |rp b sz i j=>
  simp only [pn] at hx ⊢
  split at hx
  ·rename_i s es hb
   rw [h _ _ hb rfl];exact hx
  ·rename_i s es hb
   rw [h _ _ hb rfl];exact hx
  simp at hx
 |_=>exact hx
theorem Sh (h:lE bx aR) {x v:AV} (hx:zD x bx=some v):zD x aR=some v:=by
 cases x with
 |d y=>cases y<;>exact hx
 |ow b sz n=>
  simp only [zD] at hx ⊢
  split at hx
  ·rename_i es hr
   rw [rL h hr];exact hx
  simp at hx
 |vw b sz off n c ex=>
  simp only [zD] at hx ⊢
  split at hx
  ·rename_i es hr
   rw [rL h hr];exact hx
  simp at hx
 |_=>exact hx
theorem CI (h:lE bx aR) {size:Nat}:∀{ps:List (Nat×AV)} {rs:List (List D)},rowsOf bx size ps=some rs→rowsOf aR size ps=some rs
 |[],rs,hx=>hx
 |(i,v)::r,rs,hx=>by
  simp only [rowsOf] at hx ⊢
  split at hx
  ·rename_i vs hv
   split at hx
   ·rename_i ds W6 hd hr
    simp only [Lh h hd,CI h hr];exact hx
   simp at hx
  simp at hx
theorem MB (h:lE bx aR) {t:Nat} {x:AV} {lo hi mx:Option Int} {c:Prop} {v:AV} (hx:pP T t x lo hi mx bx=some ⟨c,v,none⟩):pP T t x lo hi mx aR=some ⟨c,v,none⟩:=by
 unfold pP at hx ⊢
 split at hx
 ·split at hx
  ·exact hx
  ·split at hx
   ·rename_i es te hr hte
    simp only [rL h hr,hte]
    simp only [osI,R.mk.injEq] at hx ⊢
    refine ⟨hx.1,hx.2.1,?_⟩
    have h3:=hx.2.2
    generalize cF _=q at h3 ⊢
    cases q<;>simp at h3 ⊢
   simp at hx
  ·split at hx
   ·have hr:=‹AV.rows bx _=some _›
    have hte:=‹T _=some _›
    simp only [rL h hr,hte]
    simp only [osI,R.mk.injEq] at hx ⊢
    refine ⟨hx.1,hx.2.1,?_⟩
    have h3:=hx.2.2
    generalize cF _=q at h3 ⊢
    cases q<;>simp at h3 ⊢
   simp at hx
  ·exact hx
  ·split at hx
   ·split at hx
    ·simp at hx
    simp at hx
   simp at hx
  simp at hx
 simp at hx
theorem Ah (h:lE bx aR) {t n:Nat} {ps:List (Nat×AV)} {c:Prop} {v:AV} (hx:gj T t n ps bx=some ⟨c,v,none⟩):gj T t n ps aR=some ⟨c,v,none⟩:=by
 unfold gj at hx ⊢
 split at hx
 ·split at hx
  ·split at hx
   ·rename_i te hte
    generalize (Nat.beq ps.length n&&mU 0 ps&&Nat.ble (n*te.size) 16777216&&te.zero.cells?.isSome)=q at hx ⊢
    cases q with
    |false=>simp at hx
    |true=>
     simp only [cond_true] at hx ⊢
     split at hx
     ·rename_i rs hr
      simp only [CI h hr]
      simp only [osI,R.mk.injEq] at hx ⊢
      refine ⟨hx.1,hx.2.1,?_⟩
      have h3:=hx.2.2
      generalize Fm _=q at h3 ⊢
      cases q<;>simp at h3 ⊢
     simp at hx
   simp at hx
  simp at hx
 simp at hx
theorem O5 (h:lE bx aR) {s d:Nat} {x:AV} {r:R} (hx:xH T s d x bx=some r):xH T s d x aR=some r:=by
 unfold xH at hx ⊢
 split at hx
 ·split at hx
  ·exact hx
  ·split at hx
   ·rename_i te es hte hr
    simp only [rL h hr,hte];exact hx
   simp at hx
  ·exact hx
  simp at hx
 simp at hx
theorem uT {t:Nat} {s x:AV} {r:R} (hx:lq T t s x bx=some r):r.bx≠none:=by
 unfold lq at hx
 split at hx
 ·split at hx
  ·split at hx
   ·rename_i te hte
    cases hz:eN te with
    |false=>simp [hz] at hx
    |true=>
    simp only [hz,cond_true] at hx
    split at hx
    ·split at hx
     ·simp only [osI] at hx;subst hx;simp
     ·split at hx
      ·simp at hx
      simp only [osI] at hx;subst hx;simp
     ·split at hx
      ·rename_i b _ _ _ _ _ _
       generalize sameBox _ x=q at hx
       cases q with
       |true=>simp at hx
       |false=>simp only [cond_false,osI] at hx;subst hx;simp
      simp at hx
     simp at hx
    simp at hx
   simp at hx
  simp at hx
 simp at hx
theorem Ga {ti:TI} {a v:AV} {r:R} (hx:sY ti a v bx=some r):r.bx≠none:=by
 unfold sY at hx
 split at hx
 ·simp at hx
 generalize Nat.beq _ _=q at hx
 cases q with
 |false=>simp at hx
 |true=>
 simp only [cond_true] at hx
 split at hx
 ·split at hx
  ·generalize Nat.ble _ _=q at hx
   cases q with
   |false=>simp at hx
   |true=>simp only [cond_true,osI] at hx;subst hx;simp
  simp at hx
 ·split at hx
  ·split at hx
   ·simp only [osI] at hx;subst hx;simp
   simp at hx
  simp at hx
 simp at hx
theorem Gb (h:lE bx aR) {b:Builtin} {args:List AV} {ats:List Nat} {c:Prop} {v:AV} (hx:iY T b args ats bx=some ⟨c,v,none⟩):iY T b args ats aR=some ⟨c,v,none⟩:=by
 unfold iY at hx ⊢
 split at hx
 ·split at hx
  ·split at hx
   ·exact hx
   ·exact hx
   ·split at hx
    ·rename_i v' hl
     simp only [Sh h hl];exact hx
    simp at hx
   simp at hx
  simp at hx
 ·exact hx
 ·exact hx
 ·split at hx
  ·split at hx
   ·simp at hx
   exact absurd rfl (uT hx)
  simp at hx
 simp at hx
theorem IZ {te:TI} {n m:Int} {bx:List az} {c:Prop} {v:AV} {b:Option (List az)} (h:Fo te n m bx=some ⟨c,v,b⟩):b≠none:=by
 unfold Fo at h
 split at h
 ·cases hz:eN te with
  |false=>simp [hz] at h
  |true=>simp only [hz,cond_true,osI,R.mk.injEq] at h;obtain ⟨_,_,rfl⟩:=h;simp
 simp at h
theorem O6 (h:lE bx aR) {ev:Operand→AV} {op:Op} {c:Prop} {v:AV} (hx:mW T ev op bx=some ⟨c,v,none⟩):mW T ev op aR=some ⟨c,v,none⟩:=by
 unfold mW at hx ⊢
 split at hx
 ·exact hx
 ·exact hx
 ·split at hx
  ·exact absurd rfl (IZ hx)
  simp at hx
 ·split at hx
  ·exact hx
  ·exact hx
  ·split at hx
   ·simp only [Cp] at hx
    split at hx
    ·split at hx
     ·generalize (Nat.beq _ _&&Nat.beq _ _)=q at hx
      cases q<;>simp at hx
     simp at hx
    simp at hx
   simp at hx
  ·split at hx
   ·simp only [DM] at hx
    split at hx
    ·split at hx
     ·rename_i te _ _ _ _ _ _ _ _ _ _ _ _ _ _ _
      cases hq:(Nat.beq _ _&&Nat.beq _ _&&eN _:Bool)<;>rw [hq] at hx<;>simp at hx
     simp at hx
    simp at hx
   simp at hx
  ·split at hx
   ·split at hx
    ·simp only [KY] at hx
     split at hx
     ·generalize (Nat.beq _ _&&Nat.beq _ _&&eN _&&_)=q at hx
      cases q<;>simp at hx
     simp at hx
    simp at hx
   ·generalize sameBox _ _=q at hx
    cases q with
    |true=>
     simp only [cond_true,rB] at hx
     split at hx
     ·generalize (Nat.beq _ _&&Nat.beq _ _)=q at hx
      cases q<;>simp at hx
     simp at hx
    |false=>
     simp only [cond_false] at hx
     split at hx
     ·rename_i hap
      simp only [osI,R.mk.injEq] at hx
      obtain ⟨_,_,rfl⟩:=hx
      exact absurd rfl (uT hap)
     simp at hx
   simp at hx
  simp at hx
 simp at hx
theorem Si (h:lE bx aR) {ev:Operand→AV} {op:Op} {c:Prop} {v:AV} (hx:lu T ev op bx=some ⟨c,v,none⟩):lu T ev op aR=some ⟨c,v,none⟩:=by
 unfold lu at hx ⊢
 split at hx
 ·exact hx
 ·exact hx
 ·split at hx
  ·split at hx<;>simp at hx
  simp at hx
 ·split at hx<;>simp at hx
 ·split at hx
  ·exact O4 h hx
  simp at hx
 ·split at hx
  ·exact absurd rfl (Ga hx)
  simp at hx
 ·exact hx
 ·exact Ah h hx
 ·exact hx
 ·exact hx
 ·exact hx
 ·exact hx
 ·exact hx
 ·exact hx
 ·exact hx
 ·exact O5 h hx
 ·split at hx
  ·exact MB h hx
  simp at hx
 ·exact hx
 ·exact hx
 ·exact hx
 ·exact hx
 ·exact Gb h hx
 exact hx
theorem Vc (h:lE bx aR) {ev:Operand→AV} {op:Op} {c:Prop} {v:AV} (hx:Ff T ev op bx=some ⟨c,v,none⟩):Ff T ev op aR=some ⟨c,v,none⟩:=by
 unfold Ff at hx ⊢
 cases hv:iZ ev op with
 |true=>rw [hv,cond_true] at hx;rw [cond_true];exact O6 h hx
 |false=>rw [hv,cond_false] at hx;rw [cond_false];exact Si h hx
theorem lS {ev rM:Operand→AV} {x:Option Operand} (h:∀y,x=some y→ev y=rM y):BT ev x=BT rM x:=by
 cases x with
 |none=>rfl
 |some y=>simp only [BT,h y rfl]
theorem I0 {ev rM:Operand→AV} {op:Op} (h:∀x∈op.operands.toList,ev x=rM x):lu T ev op bx=lu T rM op bx:=by
 have pairs:∀ps:Array (Nat×Operand),(∀x∈(ps.toList.map (·.2)).toArray.toList,ev x=rM x)→(ps.toList.map fun p=>(p.1,ev p.2))=(ps.toList.map fun p=>(p.1,rM p.2)):=by
  intro ps hp
  refine List.map_congr_left fun p hm=>?_
  rw [hp p.2 (by simp only [List.mem_map];exact ⟨p,hm,rfl⟩)]
 cases op<;>simp only [Op.operands] at h
 case build t ps=>simp only [lu,pairs ps h]
 case buildSlice t n ps=>simp only [lu,pairs ps h]
 case makeFunc fn first captured=>
  cases fn<;>simp only [lu]
  rw [List.map_congr_left (l:=captured.toList) (f:=ev) (g:=rM) fun x hx=>h x (by simp;exact .inr (by simpa using hx)),List.map_congr_left (l:=first.toList) (f:=ev) (g:=rM) fun x hx=>h x (by simp;exact .inl (by simpa using hx))]
 case slice t x lo hi mx=>
  simp only [lu,h x (by simp),lS (x:=lo) (fun y hy=>h y (by simp [hy])),lS (x:=hi) (fun y hy=>h y (by simp [hy])),lS (x:=mx) (fun y hy=>h y (by simp [hy]))]
 case call c=>
  obtain ⟨callee,args,ats⟩:=c
  cases callee<;>simp only [lu]
  rw [List.map_congr_left (f:=ev) (g:=rM) fun x hx=>h x (by simp [Call.operands];exact by simpa using hx)]
 all_goals (first|rfl|(simp only [lu];simp_all;done)|(simp_all [lu];done))
theorem xX {ev rM:Operand→AV} {op:Op} (h:∀x∈op.operands.toList,ev x=rM x):iZ ev op=iZ rM op∧mW T ev op bx=mW T rM op bx:=by
 cases op<;>simp only [Op.operands] at h
 case slice t x lo hi mx=>
  simp only [iZ,mW,h x (by simp),lS (x:=lo) (fun y hy=>h y (by simp [hy])),lS (x:=hi) (fun y hy=>h y (by simp [hy])),lS (x:=mx) (fun y hy=>h y (by simp [hy])),and_self]
 case indexAddr t x i=>simp only [iZ,mW,h x (by simp),h i (by simp),and_self]
 case makeSlice t x i=>simp only [iZ,mW,h x (by simp),h i (by simp),and_self]
 case call c=>
  obtain ⟨callee,args,ats⟩:=c
  cases callee
  case builtin b=>
   have hm:args.toList.map ev=args.toList.map rM:=List.map_congr_left (f:=ev) (g:=rM) fun x hx=>h x (by simp [Call.operands];exact by simpa using hx)
   have hs:∀x∈args.toList,ev x=rM x:=fun x hx=>h x (by simp [Call.operands];exact by simpa using hx)
   refine ⟨?_,by simp only [mW,hm]⟩
   simp only [iZ]
   generalize args.toList=l at hs
   split<;>first|rfl|(rw [hs _ (by simp)])
  all_goals exact ⟨rfl,rfl⟩
 all_goals exact ⟨rfl,rfl⟩
theorem MC {ev rM:Operand→AV} {op:Op} (h:∀x∈op.operands.toList,ev x=rM x):Ff T ev op bx=Ff T rM op bx:=by
 unfold Ff
 rw [(xX (T:=T) (bx:=bx) h).1,(xX (T:=T) (bx:=bx) h).2,I0 h]
end
end Dem
end
