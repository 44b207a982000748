/- Parts of a proof, joined. -/
import Derived.Test.YtjnbpclolnmimaaGreatDoorK04
set_option linter.all false
set_option maxRecDepth 100000
set_option maxHeartbeats 4000000
section
open Go
namespace Dem
section
variable {P:Program} {T:Nat→Option TI} {G:Nat→Option (List D)} {β:Nat→Nat} {bx:List ar} {w:World} {X:Nat→Prop}
def fq (β:Nat→Nat) (bx:List ar) (w:World) (ok:Nat→Prop):ff→Ending→Prop
 |.ret v,.returned u=>ah β bx w ok v u
 |.My v,.panicked ch=>∃u,ch=[{v:=u,recovered:=false}]∧ah β bx w ok v u
 |_,_=>False
def jA (P:Program) (f:Nat) (vs:Array Value) (w:World) (R:Ending→World→Prop):Prop:=
 ((callFunc f vs).run P w=.ok (.enter f vs) w∧Calls P f vs w R)∨∃v w',(callFunc f vs).run P w=.ok (.value v) w'∧R (.returned v) w'
theorem jA.mono {f:Nat} {vs:Array Value} {R R':Ending→World→Prop} (h:jA P f vs w R) (hr:∀e w',R e w'→R' e w'):jA P f vs w R':=by
 rcases h with ⟨h1,h2⟩|⟨v,w',h1,h2⟩
 ·exact .inl ⟨h1,Calls.mono h2 hr⟩
 exact .inr ⟨v,w',h1,hr _ _ h2⟩
def aZ (P:Program) (G:Nat→Option (List D)) (f:Nat) (args:List AV) (bx:List ar) (res:ff) (aF:List ar):Prop:=
 ∀(β:Nat→Nat) (w:World) (vs:List Value) (X:Nat→Prop),cr G β bx w X→aj β bx w (aY β bx w X) args vs→
  jA P f ⟨vs⟩ w fun e w'=>∃β',Ext β bx w β' aF w'∧cr G β' aF w' X∧fq β' aF w' (aY β' aF w' X) res e
mutual
theorem qu {β β':Nat→Nat} {bx aF:List ar} {w:World} {ok ok':Nat→Prop} (h:∀az,ok az→ok' az):∀(x:AV) (v:Value),x.shut=true→ah β bx w ok x v→ah β' aF w ok' x v
 |.any,_,_,_=>by simp [ah]
 |.d x,v,_,hv=>by simp only [ah] at hv ⊢;exact aH.mono (fun az hb=>⟨h az hb,rfl⟩) _ _ hv
 |.k c,v,_,hv=>by simpa [ah] using hv
 |.agg cs,v,hs,hv=>by
  simp only [ah] at hv ⊢;obtain ⟨vs,h1,h2⟩:=hv
  exact ⟨vs,h1,lV h cs vs (by simpa [AV.shut] using hs) h2⟩
 |.dA cs,v,hs,hv=>by
  simp only [ah] at hv ⊢;obtain ⟨vs,h1,h2⟩:=hv
  exact ⟨vs,h1,lV h cs vs (by simpa [AV.shut] using hs) h2⟩
 |.ptr _ _,_,hs,_=>by simp [AV.shut] at hs
 |.rp _ _ _ _,_,hs,_=>by simp [AV.shut] at hs
 |.ow _ _ _,_,hs,_=>by simp [AV.shut] at hs
 |.vw _ _ _ _ _ _,_,hs,_=>by simp [AV.shut] at hs
 |.ep ds,v,_,hv=>by
  simp only [ah] at hv ⊢;obtain ⟨az,off,h1,h2,h3⟩:=hv
  exact ⟨az,off,h1,h az h2,aW.mono (fun az hb=>⟨h az hb,rfl⟩) az (fun _=>rfl) _ _ h3⟩
 |.cl es,v,_,hv=>by
  simp only [ah] at hv ⊢;obtain ⟨base,h1,h2⟩:=hv
  refine ⟨base,h1,h2.imp id ?_⟩
  rintro ⟨az,off,sz,e1,e2,e3⟩
  exact ⟨az,off,sz,e1,h az e2,an.mono (fun az hb=>⟨h az hb,rfl⟩) az sz (fun _=>rfl) _ _ e3⟩
 |.fn f cs,v,hs,hv=>by
  simp only [ah] at hv ⊢;obtain ⟨vs,h1,h2⟩:=hv
  exact ⟨vs,h1,lV h cs vs (by simpa [AV.shut] using hs) h2⟩
 |.sG t x,v,hs,hv=>by
  simp only [ah] at hv ⊢;obtain ⟨u,h1,h2⟩:=hv
  exact ⟨u,h1,qu h x u (by simpa [AV.shut] using hs) h2⟩
 |.cond p x,v,hs,hv=>by
  simp only [ah] at hv ⊢
  exact ⟨fun hp=>qu h x v (by simpa [AV.shut] using hs) (hv.1 hp),hv.2⟩
theorem lV {β β':Nat→Nat} {bx aF:List ar} {w:World} {ok ok':Nat→Prop} (h:∀az,ok az→ok' az):∀(xs:List AV) (vs:List Value),AV.shut.mW xs=true→aj β bx w ok xs vs→aj β' aF w ok' xs vs
 |[],vs,_,hv=>by simpa [aj] using hv
 |x::xs,vs,hs,hv=>by
  simp only [aj] at hv ⊢
  obtain ⟨u,us,h1,h2,h3⟩:=hv
  simp only [AV.shut.mW,Bool.and_eq_true] at hs
  exact ⟨u,us,h1,qu h x u hs.1 h2,lV h xs us hs.2 h3⟩
end
theorem rR {β β':Nat→Nat} {bx aF:List ar} {w w':World} {ok ok':Nat→Prop}:∀(xs:List AV) (vs:List Value),AV.flat.zF xs=true→aj β bx w ok xs vs→aj β' aF w' ok' xs vs
 |[],vs,_,hv=>by simpa [aj] using hv
 |x::xs,vs,hs,hv=>by
  simp only [aj] at hv ⊢
  obtain ⟨u,us,h1,h2,h3⟩:=hv
  cases x with
  |d y=>cases y<;>simp [AV.flat.zF] at hs<;>exact ⟨u,us,h1,by simpa [ah,aH] using h2,rR xs us hs h3⟩
  |k c=>simp [AV.flat.zF] at hs;exact ⟨u,us,h1,by simpa [ah] using h2,rR xs us hs h3⟩
  |_=>simp [AV.flat.zF] at hs
theorem oN {β β':Nat→Nat} {bx aF:List ar} {w w':World} {ok ok':Nat→Prop}:∀(xs:List AV) (vs:List Value),AV.flat.qg xs=true→aj β bx w ok xs vs→aj β' aF w' ok' xs vs
 |[],vs,_,hv=>by simpa [aj] using hv
 |x::xs,vs,hs,hv=>by
  simp only [aj] at hv ⊢
  obtain ⟨u,us,h1,h2,h3⟩:=hv
  cases x with
  |d y=>cases y<;>simp [AV.flat.qg] at hs<;>exact ⟨u,us,h1,by simpa [ah,aH] using h2,oN xs us hs h3⟩
  |k c=>simp [AV.flat.qg] at hs;exact ⟨u,us,h1,by simpa [ah] using h2,oN xs us hs h3⟩
  |agg cs=>
   simp [AV.flat.qg] at hs
   simp only [ah] at h2
   obtain ⟨v2,e1,e2⟩:=h2
   exact ⟨u,us,h1,by simp only [ah];exact ⟨v2,e1,rR cs v2 hs.1 e2⟩,oN xs us hs.2 h3⟩
  |_=>simp [AV.flat.qg] at hs
theorem F7 {β β':Nat→Nat} {bx aF:List ar} {w w':World} {ok ok':Nat→Prop} (x:AV) (v:Value) (hf:x.flat=true) (hv:ah β bx w ok x v):ah β' aF w' ok' x v:=by
 cases x with
 |d y=>cases y<;>simp [AV.flat] at hf<;>simpa [ah,aH] using hv
 |k c=>simpa [ah] using hv
 |agg cs=>simp only [ah] at hv ⊢;obtain ⟨vs,h1,h2⟩:=hv;exact ⟨vs,h1,rR cs vs (by simpa [AV.flat] using hf) h2⟩
 |dA cs=>simp only [ah] at hv ⊢;obtain ⟨vs,h1,h2⟩:=hv;exact ⟨vs,h1,oN cs vs (by simpa [AV.flat] using hf) h2⟩
 |_=>simp [AV.flat] at hf
theorem MI {w w':World} {ok ok':Nat→Prop}:∀(x:D) (v:Value),x.flat=true→aH w ok x v→aH w' ok' x v:=by
 intro x v hf hv
 cases x<;>simp [D.flat] at hf<;>simpa [aH] using hv
theorem xS {w:World} {ok ok':Nat→Prop} {az:Nat}:∀(xs:List D) (off:Nat),(∀x∈xs,x.flat=true)→aW w ok az xs off→aW w ok' az xs off
 |[],_,_,_=>by simp [aW]
 |x::xs,off,hf,hv=>by
  simp only [aW] at hv ⊢
  obtain ⟨⟨u,h1,h2⟩,h3⟩:=hv
  exact ⟨⟨u,h1,MI x u (hf x (by simp)) h2⟩,xS xs _ (fun y hy=>hf y (by simp [hy])) h3⟩
theorem oO {w:World} {ok ok':Nat→Prop} {az sz:Nat}:∀(rs:List (List D)) (off:Nat),(∀r∈rs,∀x∈r,x.flat=true)→an w ok az sz rs off→an w ok' az sz rs off
 |[],_,_,_=>by simp [an]
 |r::rs,off,hf,hv=>by
  simp only [an] at hv ⊢
  exact ⟨hv.1,xS r off (hf r (by simp)) hv.2.1,oO rs _ (fun s hs=>hf s (by simp [hs])) hv.2.2⟩
theorem Eg (cx:cr G β bx w X) {x y:AV} {u:Value} (hd:fz bx x=some y) (h:ah β bx w (aY β bx w X) x u):
 Ext β bx w β (x.cz bx) w∧cr G β (x.cz bx) w X∧ah β (x.cz bx) w (aY β (x.cz bx) w X) y u:=by
 cases x with
 |cl es=>
  simp only [fz,osI] at hd;subst hd
  obtain ⟨g1,g2,g3⟩:=zO (y:=.sl es) cx rfl h
  exact ⟨g1,g2,by simpa [ah] using g3⟩
 |ow b sz n=>
  simp only [fz,Option.map_eq_some_iff] at hd
  obtain ⟨z,h1,rfl⟩:=hd
  obtain ⟨g1,g2,g3⟩:=zO cx h1 h
  exact ⟨g1,g2,by simpa [ah] using g3⟩
 |vw b sz off n c ex=>
  simp only [fz,Option.map_eq_some_iff] at hd
  obtain ⟨es,h1,rfl⟩:=hd
  obtain ⟨g1,g2,g3⟩:=jJ cx h1 h
  exact ⟨g1,g2,by simpa [ah,aH] using g3⟩
 |_=>simp only [fz,osI] at hd;subst hd;exact ⟨Ext.refl _ _ _,cx,h⟩
theorem F8 {x y z:AV} (h:fz bx x=some y):fz (z.cz bx) x=some y:=by
 cases x with
 |ow b sz n=>
  simp only [fz,Option.map_eq_some_iff] at h ⊢
  obtain ⟨q,h1,h2⟩:=h
  exact ⟨q,CI h1,h2⟩
 |vw b sz off n c ex=>
  simp only [fz,Option.map_eq_some_iff] at h ⊢
  obtain ⟨q,h1,h2⟩:=h
  refine ⟨q,?_,h2⟩
  simp only [AV.rows] at h1 ⊢
  split at h1
  ·rename_i s es hb
   rcases uI (z:=z) (.inl hb) with g|g<;>simp [g,h1]
  ·rename_i s es hb
   rcases uI (z:=z) (.inr hb) with g|g<;>simp [g,h1]
  simp at h1
 |_=>exact h
theorem wD {z:AV}:∀{xs ys:List AV},IQ bx xs=some ys→IQ (z.cz bx) xs=some ys
 |[],ys,h=>h
 |x::xs,ys,h=>by
  simp only [IQ] at h ⊢
  split at h
  ·rename_i y ys' hy hys
   rw [F8 hy,wD hys];exact h
  simp at h
theorem I9 {x y z:AV} (h:qf bx x=some y):qf (z.cz bx) x=some y:=by
 cases x with
 |agg cs=>
  simp only [qf,Option.map_eq_some_iff] at h ⊢
  obtain ⟨q,h1,h2⟩:=h
  exact ⟨q,wD h1,h2⟩
 |_=>simp only [qf] at h ⊢;exact F8 h
theorem tG {z:AV}:∀{xs ys:List AV},eK bx xs=some ys→eK (z.cz bx) xs=some ys
 |[],ys,h=>h
 |x::xs,ys,h=>by
  simp only [eK] at h ⊢
  split at h
  ·rename_i y ys' hy hys
   rw [I9 hy,tG hys];exact h
  simp at h
theorem xV {xs ys:List AV}:∀(zs:List AV) (bx:List ar),eK bx xs=some ys→eK (dW bx zs) xs=some ys
 |[],_,h=>h
 |_::zs,_,h=>xV zs _ (tG h)
theorem F9 {xs ys:List AV} {z:AV} (h:eK bx xs=some ys):eK (mc bx z) xs=some ys:=by
 cases z with
 |agg cs=>exact xV cs bx h
 |_=>simp only [mc];exact tG h
theorem Ga:∀(xs:List AV) (bx:List ar) (ys:List AV) (vs:List Value),cr G β bx w X→IQ bx xs=some ys→aj β bx w (aY β bx w X) xs vs→
 Ext β bx w β (dW bx xs) w∧cr G β (dW bx xs) w X∧aj β (dW bx xs) w (aY β (dW bx xs) w X) ys vs
 |[],bx,ys,vs,cx,hd,h=>by simp [IQ] at hd;subst hd;exact ⟨Ext.refl _ _ _,cx,by simpa [dW] using h⟩
 |x::xs,bx,ys,vs,cx,hd,h=>by
  simp only [IQ] at hd
  split at hd
  ·rename_i y ys' hy hys
   simp at hd;subst hd
   simp only [aj] at h
   obtain ⟨u,us,rfl,g1,g2⟩:=h
   obtain ⟨e1,c1,r1⟩:=Eg cx hy g1
   obtain ⟨e2,c2,r2⟩:=Ga xs (x.cz bx) ys' us c1 (wD hys) (aj.mono (e1.dN X) _ _ g2)
   refine ⟨e1.trans e2,c2,?_⟩
   simp only [dW,aj]
   exact ⟨u,us,rfl,ah.mono (e2.dN X) _ _ r1,r2⟩
  simp at hd
theorem CM (cx:cr G β bx w X) {x y:AV} {u:Value} (hd:qf bx x=some y) (h:ah β bx w (aY β bx w X) x u):
 Ext β bx w β (mc bx x) w∧cr G β (mc bx x) w X∧ah β (mc bx x) w (aY β (mc bx x) w X) y u:=by
 cases x with
 |agg cs=>
  simp only [qf,Option.map_eq_some_iff] at hd
  obtain ⟨ys,h1,rfl⟩:=hd
  simp only [ah] at h
  obtain ⟨vs,rfl,hvs⟩:=h
  obtain ⟨g1,g2,g3⟩:=Ga cs bx ys vs cx h1 hvs
  exact ⟨g1,g2,by simp only [ah];exact ⟨vs,rfl,g3⟩⟩
 |_=>simp only [qf] at hd;simp only [mc];exact Eg cx hd h
theorem lX:∀(xs:List AV) (bx:List ar) (ys:List AV) (vs:List Value),cr G β bx w X→eK bx xs=some ys→aj β bx w (aY β bx w X) xs vs→
 Ext β bx w β (eL bx xs) w∧cr G β (eL bx xs) w X∧aj β (eL bx xs) w (aY β (eL bx xs) w X) ys vs
 |[],bx,ys,vs,cx,hd,h=>by simp [eK] at hd;subst hd;exact ⟨Ext.refl _ _ _,cx,by simpa [eL] using h⟩
 |x::xs,bx,ys,vs,cx,hd,h=>by
  simp only [eK] at hd
  split at hd
  ·rename_i y ys' hy hys
   simp at hd;subst hd
   simp only [aj] at h
   obtain ⟨u,us,rfl,g1,g2⟩:=h
   obtain ⟨e1,c1,r1⟩:=CM cx hy g1
   obtain ⟨e2,c2,r2⟩:=lX xs (mc bx x) ys' us c1 (F9 hys) (aj.mono (e1.dN X) _ _ g2)
   refine ⟨e1.trans e2,c2,?_⟩
   simp only [eL,aj]
   exact ⟨u,us,rfl,ah.mono (e2.dN X) _ _ r1,r2⟩
  simp at hd
theorem Ly {x y:AV} (h:fz [] x=some y) (bx:List ar):x.cz bx=bx:=by
 cases x with
 |ow b sz n=>simp [fz,AV.sH] at h
 |vw b sz off n c ex=>simp [fz,AV.rows] at h
 |_=>rfl
theorem Gb:∀{xs ys:List AV} (bx:List ar),IQ [] xs=some ys→dW bx xs=bx
 |[],_,_,_=>rfl
 |x::xs,ys,bx,h=>by
  simp only [IQ] at h
  split at h
  ·rename_i y ys' hy hys
   simp only [dW,Ly hy bx];exact Gb bx hys
  simp at h
theorem jK:∀{xs ys:List AV} (bx:List ar),eK [] xs=some ys→eL bx xs=bx
 |[],_,_,_=>rfl
 |x::xs,ys,bx,h=>by
  simp only [eK] at h
  split at h
  ·rename_i y ys' hy hys
   have:mc bx x=bx:=by
    cases x with
    |agg cs=>
     simp only [qf,Option.map_eq_some_iff] at hy
     obtain ⟨q,h1,_⟩:=hy
     exact Gb bx h1
    |_=>simp only [qf] at hy;simp only [mc];exact Ly hy bx
   simp only [eL,this];exact jK bx hys
  simp at h
def qw (β:Nat→Nat) (bx:List ar) (X:Nat→Prop) (az:Nat):Prop:=X az∨∃i b,bx[i]?=some b∧b.live=true∧β i=az
theorem Gc (cx:cr G β bx w X):cr G β [] w (qw β bx X):=by
 refine ⟨?_,?_,by simp,by simp,by simp⟩
 ·rintro az (h|⟨i,b,h1,h2,rfl⟩)
  ·exact cx.xs az h
  exact dw.eH (cx.box i b h1) h2
 intro g ds hg
 obtain ⟨h1,h2⟩:=cx.zK g ds hg
 have key:∀az,aY β bx w X az→aY β [] w (qw β bx X) az:=by
  rintro az ⟨k1,k2,k3⟩
  refine ⟨k1,?_,by simp⟩
  rintro (h|⟨i,b,e1,e2,e3⟩)
  ·exact k2 h
  exact k3 i b e1 e2 e3
 exact ⟨key g h1,aW.mono (fun az hb=>⟨key az hb,rfl⟩) g (fun _=>rfl) _ _ h2⟩
theorem Gd (az:Nat) (h:aY β bx w X az):aY β [] w (qw β bx X) az:=by
 obtain ⟨k1,k2,k3⟩:=h
 refine ⟨k1,?_,by simp⟩
 rintro (h|⟨i,b,e1,e2,e3⟩)
 ·exact k2 h
 exact k3 i b e1 e2 e3
theorem uU {β':Nat→Nat} {aF:List ar} {w':World} (ex:Ext β [] w β' aF w'):Ext β bx w β bx w':=
 ⟨ex.os,ex.tape,ex.output,ex.size,fun k hk _=>ex.block k hk (by simp),ex.shape,fun i hi=>⟨rfl,hi⟩,fun i b h1 h2=>.inr ⟨i,b,h1,h2,rfl⟩⟩
theorem O1 {β':Nat→Nat} {aF:List ar} {w':World} (cx:cr G β bx w X) (ex:Ext β [] w β' aF w'):cr G β bx w' X:=
 cx.step (uU ex) (fun i b h=>.inl ⟨h,fun hl=>ex.block _ (dw.eH (cx.box i b h) hl) (by simp)⟩) cx.inj
theorem Sh {β':Nat→Nat} {w':World} {sz n:Nat} {es:List (List D)} {sP:List ar} {u:Value} (cx:cr G β bx w X) (ex:Ext β [] w β' [.row sz es] w') (nD:cr G β' [.row sz es] w' (qw β sP X))
 (hv:(∀r∈es,∀x∈r,x.flat=true)∨sP=bx) (hr:ah β' [.row sz es] w' (aY β' [.row sz es] w' (qw β sP X)) (.ow 0 sz n) u):
 Ext β bx w (kY β bx.length (β' 0)) (bx++[.row sz es]) w'∧cr G (kY β bx.length (β' 0)) (bx++[.row sz es]) w' X∧
  ah (kY β bx.length (β' 0)) (bx++[.row sz es]) w' (aY (kY β bx.length (β' 0)) (bx++[.row sz es]) w' X) (.ow bx.length sz n) u:=by
 have e0:=uU (bx:=bx) ex
 have hnew:ar.live (.row sz es)=true→w.heap.size≤β' 0:=by
  intro hl
  rcases ex.live 0 (.row sz es) rfl hl with h|⟨j,b',h1,_⟩
  ·exact h
  simp at h1
 have hold:∀i b,bx[i]?=some b→kY β bx.length (β' 0) i=β i:=by
  intro i b h
  exact cP _ _ (by have:=iM h;omega)
 have e1:Ext β bx w (kY β bx.length (β' 0)) (bx++[.row sz es]) w':=by
  refine ⟨e0.os,e0.tape,e0.output,e0.size,e0.block,e0.shape,?_,?_⟩
  ·rintro i ⟨b,h1,h2⟩
   exact ⟨hold i b h1,b,ek h1,h2⟩
  intro i b h hl
  rcases bp h with ⟨h1,_⟩|⟨rfl,rfl⟩
  ·exact .inr ⟨i,b,h1,hl,(hold i b h1).symm⟩
  exact .inl (by rw [bf];exact hnew hl)
 have hlt:∀i b,bx[i]?=some b→b.live=true→β i<w.heap.size:=fun i b h hl=>dw.eH (cx.box i b h) hl
 have hok:sP=bx→∀az,aY β' [.row sz es] w' (qw β sP X) az→aY (kY β bx.length (β' 0)) (bx++[.row sz es]) w' X az:=by
  rintro rfl az ⟨k1,k2,k3⟩
  refine ⟨k1,fun hX=>k2 (.inl hX),?_⟩
  intro i b h hl
  rcases bp h with ⟨h1,_⟩|⟨rfl,rfl⟩
  ·rw [hold i b h1];exact fun he=>k2 (.inr ⟨i,b,h1,hl,he⟩)
  rw [bf];exact k3 0 _ rfl hl
 refine ⟨e1,cx.step e1 ?_ ?_,?_⟩
 ·intro i b h
  rcases bp h with ⟨h1,_⟩|⟨rfl,rfl⟩
  ·exact .inl ⟨h1,fun hl=>ex.block _ (hlt i b h1 hl) (by simp)⟩
  refine .inr ?_
  have:=nD.box 0 _ rfl
  rw [bf]
  simp only [dw] at this ⊢
  refine this.imp id ?_
  rintro ⟨c,e,h1,h2⟩
  refine ⟨c,e,h1,?_⟩
  rcases hv with hfl|hb
  ·exact oO _ _ hfl h2
  exact an.mono (fun az hb'=>⟨hok hb az hb',rfl⟩) _ _ (fun _=>rfl) _ _ h2
 ·intro i j bi bj hi hj nN pZ he
  rcases bp hi with ⟨h1,_⟩|⟨rfl,rfl⟩<;>rcases bp hj with ⟨h2,_⟩|⟨rfl,rfl⟩
  ·rw [hold i bi h1,hold j bj h2] at he
   exact cx.inj i j bi bj h1 h2 nN pZ he
  ·rw [hold i bi h1,bf] at he
   have:=hlt i bi h1 nN;have:=hnew pZ;omega
  ·rw [hold j bj h2,bf] at he
   have:=hlt j bj h2 pZ;have:=hnew nN;omega
  rfl
 simp only [ah] at hr ⊢
 obtain ⟨_,h2⟩:=hr
 refine ⟨⟨_,by simp;rfl,rfl⟩,?_⟩
 rw [bf];exact h2
theorem Ja {f:Nat} {args:List AV} {vs:List Value} {K:AV→List ar→Prop} (cx:cr G β bx w X) (hx:aj β bx w (aY β bx w X) args vs)
 (h:FH (aZ P G) f args bx K):
 jA P f ⟨vs⟩ w fun e w'=>∃β' aF v u,e=.returned u∧Ext β bx w β' aF w'∧cr G β' aF w' X∧ah β' aF w' (aY β' aF w' X) v u∧K v aF:=by
 obtain ⟨_,hz,hs,h⟩:=h
 obtain ⟨e1,c1,r1⟩:=lX args bx _ vs cx hz hx
 have cn:=Gc c1
 have hn:aj β [] w (aY β [] w (qw β (eL bx args) X)) _ vs:=lV (fun az hb=>Gd az hb) _ _ hs r1
 rcases h with ⟨v,hf,hv,hK⟩|⟨sz,n,es,hf,hv,hK⟩
 ·refine jA.mono (hf β w vs _ cn hn) ?_
  rintro e w' ⟨β',ex,nD,hr⟩
  cases e with
  |returned u=>
   refine ⟨β,bx,v,u,rfl,uU ex,O1 cx ex,?_,hK⟩
   rcases hv with hfl|⟨Ge,hsh⟩
   ·exact F7 v u hfl hr
   rw [jK bx Ge] at hr
   refine qu ?_ v u hsh hr
   rintro az ⟨k1,k2,_⟩
   exact ⟨k1,fun hX=>k2 (.inl hX),fun i b hb hl he=>k2 (.inr ⟨i,b,hb,hl,he⟩)⟩
  |_=>exact hr.elim
 refine jA.mono (hf β w vs _ cn hn) ?_
 rintro e w' ⟨β',ex,nD,hr⟩
 cases e with
 |returned u=>
  simp only [fq] at hr
  obtain ⟨x1,x2,x3⟩:=Sh cx ex nD (by
   rcases hv with hfl|Ge
   ·exact .inl hfl
   refine .inr ?_
   rw [jK bx Ge]) hr
  exact ⟨_,_,_,u,rfl,x1,x2,x3,hK⟩
 |_=>exact hr.elim
end
end Dem
end
section
open Go
namespace Dem
section
variable {P:Program} {G:Nat→Option (List D)} {β β':Nat→Nat} {bx aF:List ar} {w w':World} {X:Nat→Prop}
theorem mz {i:Nat} (h:OB bx i=true):bT bx i:=by
 unfold OB at h
 split at h
 ·rename_i b hb;exact ⟨b,hb,h⟩
 cases h
mutual
theorem CN {ok ok':Nat→Prop} {jv:List ar} {dt:Bool} (h:∀b,bT jv b→β' b=β b∧bT aF b) (hd:dt=true→∀d v,aH w ok d v→aH w' ok' d v):∀(x:AV) (v:Value),x.loose dt=true→x.bL jv=true→ah β bx w ok x v→ah β' aF w' ok' x v
 |.any,_,_,_,_=>by simp [ah]
 |.d y,v,hs,_,hv=>by
  simp only [ah] at hv ⊢
  cases hdt:dt with
  |true=>exact hd hdt y v hv
  |false=>subst hdt;cases y<;>simp [AV.loose] at hs<;>simpa [aH] using hv
 |.k c,v,_,_,hv=>by simpa [ah] using hv
 |.agg cs,v,hs,hn,hv=>by
  simp only [ah] at hv ⊢;obtain ⟨vs,h1,h2⟩:=hv
  exact ⟨vs,h1,mA h hd cs vs (by simpa [AV.loose] using hs) (by simpa [AV.bL] using hn) h2⟩
 |.dA cs,v,hs,_,hv=>by simp [AV.loose] at hs
 |.ptr b off,v,_,hn,hv=>by
  have g:=mz (by simpa [AV.bL] using hn)
  simp only [ah] at hv ⊢;obtain ⟨e,_⟩:=hv;exact ⟨by rw [(h b g).1];exact e,(h b g).2⟩
 |.rp b sz i j,v,_,hn,hv=>by
  have g:=mz (by simpa [AV.bL] using hn)
  simp only [ah] at hv ⊢;obtain ⟨e,_⟩:=hv;exact ⟨by rw [(h b g).1];exact e,(h b g).2⟩
 |.ow _ _ _,_,hs,_,_=>by simp [AV.loose] at hs
 |.zB _,_,hs,_,_=>by simp [AV.loose] at hs
 |.vw _ _ _ _ _ _,_,hs,_,_=>by simp [AV.loose] at hs
 |.ep _,_,hs,_,_=>by simp [AV.loose] at hs
 |.cl _,_,hs,_,_=>by simp [AV.loose] at hs
 |.fn f cs,v,hs,hn,hv=>by
  simp only [ah] at hv ⊢;obtain ⟨vs,h1,h2⟩:=hv
  exact ⟨vs,h1,mA h hd cs vs (by simpa [AV.loose] using hs) (by simpa [AV.bL] using hn) h2⟩
 |.sG t x,v,hs,hn,hv=>by
  simp only [ah] at hv ⊢;obtain ⟨u,h1,h2⟩:=hv
  exact ⟨u,h1,CN h hd x u (by simpa [AV.loose] using hs) (by simpa [AV.bL] using hn) h2⟩
 |.cond _ _,_,hs,_,_=>by simp [AV.loose] at hs
theorem mA {ok ok':Nat→Prop} {jv:List ar} {dt:Bool} (h:∀b,bT jv b→β' b=β b∧bT aF b) (hd:dt=true→∀d v,aH w ok d v→aH w' ok' d v):∀(xs:List AV) (vs:List Value),AV.nA dt xs=true→AV.bL.cM jv xs=true→aj β bx w ok xs vs→aj β' aF w' ok' xs vs
 |[],vs,_,_,hv=>by simpa [aj] using hv
 |x::xs,vs,hs,hn,hv=>by
  simp only [aj] at hv ⊢
  obtain ⟨u,us,h1,h2,h3⟩:=hv
  simp only [AV.nA] at hs
  simp only [AV.bL.cM,Bool.and_eq_true] at hn
  cases hx:x.loose dt with
  |false=>simp [hx] at hs
  |true=>
   simp only [hx,cond_true] at hs
   exact ⟨u,us,h1,CN h hd x u hx hn.1 h2,mA h hd xs us hs hn.2 h3⟩
end
mutual
theorem wE {ok ok':Nat→Prop} {jv:List ar} (h:∀az,ok az→ok' az):∀(x:AV) (v:Value),x.bL jv=true→ah β bx w ok x v→ah β jv w ok' x v
 |.any,_,_,_=>by simp [ah]
 |.d x,v,_,hv=>by simp only [ah] at hv ⊢;exact aH.mono (fun az hb=>⟨h az hb,rfl⟩) _ _ hv
 |.k c,v,_,hv=>by simpa [ah] using hv
 |.agg cs,v,hs,hv=>by
  simp only [ah] at hv ⊢;obtain ⟨vs,h1,h2⟩:=hv
  exact ⟨vs,h1,mB h cs vs (by simpa [AV.bL] using hs) h2⟩
 |.dA cs,v,hs,hv=>by
  simp only [ah] at hv ⊢;obtain ⟨vs,h1,h2⟩:=hv
  exact ⟨vs,h1,mB h cs vs (by simpa [AV.bL] using hs) h2⟩
 |.ptr b off,v,hs,hv=>by
  have g:=mz (by simpa [AV.bL] using hs)
  simp only [ah] at hv ⊢;exact ⟨hv.1,g⟩
 |.rp b sz i j,v,hs,hv=>by
  have g:=mz (by simpa [AV.bL] using hs)
  simp only [ah] at hv ⊢;exact ⟨hv.1,g⟩
 |.zB b,v,hs,hv=>by
  have g:=mz (by simpa [AV.bL] using hs)
  simp only [ah] at hv ⊢;exact ⟨hv.1,g⟩
 |.ow b sz m,v,hs,hv=>by
  have g:=mz (by simpa [AV.bL] using hs)
  simp only [ah] at hv ⊢;exact ⟨g,hv.2⟩
 |.vw b sz off m c ex,v,hs,hv=>by
  have g:=mz (by simpa [AV.bL] using hs)
  simp only [ah] at hv ⊢;exact ⟨g,hv.2⟩
 |.ep ds,v,_,hv=>by
  simp only [ah] at hv ⊢;obtain ⟨az,off,h1,h2,h3⟩:=hv
  exact ⟨az,off,h1,h az h2,aW.mono (fun az hb=>⟨h az hb,rfl⟩) az (fun _=>rfl) _ _ h3⟩
 |.cl es,v,_,hv=>by
  simp only [ah] at hv ⊢;obtain ⟨base,h1,h2⟩:=hv
  refine ⟨base,h1,h2.imp id ?_⟩
  rintro ⟨az,off,sz,e1,e2,e3⟩
  exact ⟨az,off,sz,e1,h az e2,an.mono (fun az hb=>⟨h az hb,rfl⟩) az sz (fun _=>rfl) _ _ e3⟩
 |.fn f cs,v,hs,hv=>by
  simp only [ah] at hv ⊢;obtain ⟨vs,h1,h2⟩:=hv
  exact ⟨vs,h1,mB h cs vs (by simpa [AV.bL] using hs) h2⟩
 |.sG t x,v,hs,hv=>by
  simp only [ah] at hv ⊢;obtain ⟨u,h1,h2⟩:=hv
  exact ⟨u,h1,wE h x u (by simpa [AV.bL] using hs) h2⟩
 |.cond p x,v,hs,hv=>by
  simp only [ah] at hv ⊢
  exact ⟨fun hp=>wE h x v (by simpa [AV.bL] using hs) (hv.1 hp),hv.2⟩
theorem mB {ok ok':Nat→Prop} {jv:List ar} (h:∀az,ok az→ok' az):∀(xs:List AV) (vs:List Value),AV.bL.cM jv xs=true→aj β bx w ok xs vs→aj β jv w ok' xs vs
 |[],vs,_,hv=>by simpa [aj] using hv
 |x::xs,vs,hs,hv=>by
  simp only [aj] at hv ⊢
  obtain ⟨u,us,h1,h2,h3⟩:=hv
  simp only [AV.bL.cM,Bool.and_eq_true] at hs
  exact ⟨u,us,h1,wE h x u hs.1 h2,mB h xs us hs.2 h3⟩
end
theorem mC {dt:Bool} {jv:List ar}:∀{bs:List ar} {i:Nat} {b:ar},dF dt jv bs=true→bs[i]?=some b→(∃cs,b=.var cs∧AV.nA dt cs=true∧AV.bL.cM jv cs=true)∨b=.dead∨b=.bt
 |[],i,b,_,hi=>by simp at hi
 |b0::bs,i,b,h,hi=>by
  have hr:dF dt jv bs=true∧((∃cs,b0=.var cs∧AV.nA dt cs=true∧AV.bL.cM jv cs=true)∨b0=.dead∨b0=.bt):=by
   cases b0 with
   |var cs=>
    simp only [dF] at h
    cases hc:(AV.nA dt cs&&AV.bL.cM jv cs) with
    |false=>simp [hc] at h
    |true=>simp only [hc,cond_true] at h;simp at hc;exact ⟨h,.inl ⟨cs,rfl,hc.1,hc.2⟩⟩
   |dead=>exact ⟨h,.inr (.inl rfl)⟩
   |bt=>exact ⟨h,.inr (.inr rfl)⟩
   |_=>simp [dF] at h
  cases i with
  |zero=>simp only [List.getElem?_cons_zero,osI] at hi;subst hi;exact hr.2
  |succ i=>simp only [List.getElem?_cons_succ] at hi;exact mC hr.1 hi
theorem Aa {x:AV} {i:Nat} {b:ar} (h:(x.cz bx)[i]?=some b):bx[i]?=some b∨∃s es,bx[i]?=some (.row s es)∧b=.nP s es:=by
 have go:∀k:Nat,(match bx[k]? with|some (.row s es)=>bx.set k (.nP s es)|_=>bx)[i]?=some b→bx[i]?=some b∨∃s es,bx[i]?=some (.row s es)∧b=.nP s es:=by
  intro k h
  split at h
  ·rename_i s es hk
   rcases aI h with ⟨rfl,rfl,_⟩|⟨_,h2⟩
   ·exact .inr ⟨s,es,hk,rfl⟩
   exact .inl h2
  exact .inl h
 cases x with
 |ow k _ _=>exact go k h
 |vw k _ _ _ _ _=>exact go k h
 |_=>exact .inl h
theorem CO:∀{xs:List AV} {bx:List ar} {i:Nat} {b:ar},(dW bx xs)[i]?=some b→bx[i]?=some b∨∃s es,bx[i]?=some (.row s es)∧b=.nP s es
 |[],_,_,_,h=>.inl h
 |x::xs,bx,i,b,h=>by
  rcases CO (xs:=xs) (bx:=x.cz bx) h with h1|⟨s,es,h1,rfl⟩
  ·exact Aa h1
  rcases Aa h1 with h2|⟨_,_,_,h3⟩
  ·exact .inr ⟨s,es,h2,rfl⟩
  cases h3
theorem tH:∀{xs:List AV} {bx:List ar} {i:Nat} {b:ar},(eL bx xs)[i]?=some b→bx[i]?=some b∨∃s es,bx[i]?=some (.row s es)∧b=.nP s es
 |[],_,_,_,h=>.inl h
 |x::xs,bx,i,b,h=>by
  have one:∀{b:ar},(mc bx x)[i]?=some b→bx[i]?=some b∨∃s es,bx[i]?=some (.row s es)∧b=.nP s es:=by
   intro b h
   cases x with
   |agg cs=>exact CO h
   |_=>simp only [mc] at h;exact Aa h
  rcases tH (xs:=xs) (bx:=mc bx x) h with h1|⟨s,es,h1,rfl⟩
  ·exact one h1
  rcases one h1 with h2|⟨_,_,_,h3⟩
  ·exact .inr ⟨s,es,h2,rfl⟩
  cases h3
theorem xX {f:Nat} {args:List AV} {vs:List Value} {v:AV} (cx:cr G β bx w X) (hx:aj β bx w (aY β bx w X) args vs) (h:mX (aZ P G) f args bx v):
 jA P f ⟨vs⟩ w fun e w'=>∃u,e=.returned u∧Ext β bx w β bx w'∧cr G β bx w' X∧ah β bx w' (aY β bx w' X) v u:=by
 obtain ⟨nY,jv,hz,hnm,⟨dt,hl,hdt⟩,hin,hf,hv⟩:=h
 obtain ⟨e1,cxS,hargs⟩:=lX args bx nY vs cx hz hx
 have cq:∀(i:Nat) (b:ar),jv[i]?=some b→b.live=true→bx[i]?=some b:=by
  intro i b hi hb
  obtain ⟨b',h1,h2,h3⟩:=hin i b hi (rN hb)
  rw [h3 hb] at h1;exact h1
 have c8:∀i,bT jv i→bT bx i:=by
  rintro i ⟨b,h1,h2⟩
  obtain ⟨b',h3,h4,_⟩:=hin i b h1 h2
  exact ⟨b',h3,h4⟩
 have Vb:∀(i:Nat) (b:ar),(eL bx args)[i]?=some b→b.live=true→bx[i]?=some b:=by
  intro i b hi hb
  rcases tH hi with h1|⟨s,es,_,rfl⟩
  ·exact h1
  simp [ar.live] at hb
 have Us:∀(i:Nat) (b:ar),jv[i]?=some b→b.live=true→∃cs,b=.var cs∧AV.nA dt cs=true∧AV.bL.cM jv cs=true:=by
  intro i b hi hb
  rcases mC hl hi with h1|rfl|rfl
  ·exact h1
  ·simp [ar.live] at hb
  simp [ar.live] at hb
 let XV:Nat→Prop:=fun az=>X az∨∃(i:Nat) (b:ar),(eL bx args)[i]?=some b∧b.live=true∧(∀b',jv[i]?=some b'→b'.live=false)∧β i=az
 have hok:∀az,aY β (eL bx args) w X az→aY β jv w XV az:=by
  rintro az ⟨k1,k2,k3⟩
  refine ⟨k1,?_,?_⟩
  ·rintro (hX|⟨i,b,h1,h2,_,h3⟩)
   ·exact k2 hX
   exact k3 i b h1 h2 h3
  intro i b hi hb he
  obtain ⟨cs,rfl,_⟩:=Us i b hi hb
  have rP:=cq i _ hi hb
  obtain ⟨_,b',hb',_⟩:=e1.born i ⟨_,rP,rfl⟩
  rcases tH hb' with h4|⟨s,es,h4,_⟩
  ·rw [rP] at h4;cases h4
   exact k3 i _ hb' rfl he
  rw [rP] at h4;cases h4
 have LA:∀{β1:Nat→Nat} {w':World},eK [] args=some nY→Ext β jv w β1 jv w'→∀az,aY β1 jv w' XV az→aY β bx w' X az:=by
  rintro β1 w' Ge uQ az ⟨k1,k2,k3⟩
  refine ⟨k1,fun hX=>k2 (.inl hX),?_⟩
  intro i b hi hb he
  by_cases hk:∃b',jv[i]?=some b'∧b'.live=true
  ·obtain ⟨b',h1,h2⟩:=hk
   refine k3 i b' h1 h2 ?_
   rw [(uQ.born i ⟨b',h1,rN h2⟩).1];exact he
  refine k2 (.inr ⟨i,b,by rw [jK bx Ge];exact hi,hb,?_,he⟩)
  intro b' hb'
  cases hq:b'.live with
  |false=>rfl
  |true=>exact absurd ⟨b',hb',hq⟩ hk
 have cxV:cr G β jv w XV:=by
  refine ⟨?_,?_,?_,?_,?_⟩
  ·rintro az (hX|⟨i,b,h1,h2,_,rfl⟩)
   ·exact cx.xs az hX
   exact dw.eH (cx.box i b (Vb i b h1 h2)) h2
  ·intro g ds hg
   obtain ⟨k1,k2⟩:=cxS.zK g ds hg
   exact ⟨hok g k1,aW.mono (fun az hb=>⟨hok az hb,rfl⟩) g (fun _=>rfl) _ _ k2⟩
  ·intro i j bi bj hi hj li lj
   exact cx.inj i j bi bj (cq i bi hi li) (cq j bj hj lj) li lj
  ·intro i b hi
   rcases mC hl hi with ⟨cs,rfl,hcs,gR⟩|rfl|rfl
   ·have hb:=cx.box i _ (cq i _ hi rfl)
    simp only [dw] at hb ⊢
    obtain ⟨c,e,g1,g2⟩:=hb
    exact ⟨c,e,g1,mA (jv:=jv) (fun b hb=>⟨rfl,hb⟩) (fun hd d v hv=>aH.mono (fun az hb=>⟨hok az (by rw [jK bx (hdt hd)];exact hb),rfl⟩) d v hv) cs _ hcs gR g2⟩
   ·trivial
   trivial
  intro i b hi hb
  rintro (hX|⟨j,b2,h1,h2,h3,h4⟩)
  ·exact cx.apart i b (cq i b hi hb) hb hX
  have:j=i:=cx.inj j i b2 b (Vb j b2 h1 h2) (cq i b hi hb) h2 hb h4
  subst this
  rw [h3 b hi] at hb;cases hb
 have Vd:aj β jv w (aY β jv w XV) nY vs:=mB hok _ _ hnm hargs
 refine jA.mono (hf β w vs XV cxV Vd) ?_
 rintro e w' ⟨β1,uQ,Xk,hres⟩
 have ex:Ext β bx w β bx w':=⟨uQ.os,uQ.tape,uQ.output,uQ.size,fun k hk hn=>uQ.block k hk (fun i b hi hb=>hn i b (cq i b hi hb) hb),uQ.shape,fun i hi=>⟨rfl,hi⟩,fun i b h1 h2=>.inr ⟨i,b,h1,h2,rfl⟩⟩
 cases e with
 |returned u=>
  refine ⟨u,rfl,ex,cx.step ex ?_ cx.inj,?_⟩
  ·intro i b hi
   by_cases hk:∃b',jv[i]?=some b'∧b'.live=true
   ·obtain ⟨b',h1,h2⟩:=hk
    have h3:=cq i b' h1 h2
    rw [hi] at h3;cases h3
    obtain ⟨cs,rfl,hcs,gR⟩:=Us i b h1 h2
    refine .inr ?_
    have hb:=Xk.box i _ h1
    simp only [dw] at hb ⊢
    obtain ⟨c,e,g1,g2⟩:=hb
    have zg:bT jv i:=⟨_,h1,rfl⟩
    rw [(uQ.born i zg).1] at g1
    exact ⟨c,e,g1,mA (jv:=jv) (fun b hb=>⟨((uQ.born b hb).1).symm,c8 b hb⟩) (fun hd d v hv=>aH.mono (fun az hb=>⟨LA (hdt hd) uQ az hb,rfl⟩) d v hv) cs _ hcs gR g2⟩
   refine .inl ⟨hi,fun hlv=>uQ.block _ (dw.eH (cx.box i b hi) hlv) ?_⟩
   intro j b2 hj Cd he
   have:=cx.inj j i b2 b (cq j b2 hj Cd) hi Cd hlv he
   subst this
   exact hk ⟨b2,hj,Cd⟩
  rcases hv with hfl|⟨Ge,hsh⟩
  ·exact F7 v u hfl hres
  refine qu ?_ v u hsh hres
  rintro az ⟨k1,k2,k3⟩
  refine ⟨k1,fun hX=>k2 (.inl hX),?_⟩
  intro i b hi hb he
  by_cases hk:∃b',jv[i]?=some b'∧b'.live=true
  ·obtain ⟨b',h1,h2⟩:=hk
   refine k3 i b' h1 h2 ?_
   rw [(uQ.born i ⟨b',h1,rN h2⟩).1];exact he
  refine k2 (.inr ⟨i,b,by rw [jK bx Ge];exact hi,hb,?_,he⟩)
  intro b' hb'
  cases hq:b'.live with
  |false=>rfl
  |true=>exact absurd ⟨b',hb',hq⟩ hk
 |panicked ch=>exact hres.elim
 |outgrown=>exact hres.elim
theorem lq {f:Nat} {args:List AV} {vs:List Value} {v:AV} {K:AV→List ar→Prop} (cx:cr G β bx w X) (hx:aj β bx w (aY β bx w X) args vs) (h:mX (aZ P G) f args bx v) (hK:K v bx):
 jA P f ⟨vs⟩ w fun e w'=>∃β' aF v u,e=.returned u∧Ext β bx w β' aF w'∧cr G β' aF w' X∧ah β' aF w' (aY β' aF w' X) v u∧K v aF:=
 jA.mono (xX cx hx h) fun _ _ ⟨u,h1,h2,h3,h4⟩=>⟨β,bx,v,u,h1,h2,h3,h4,hK⟩
end
end Dem
end
section
open Go
namespace Dem
section
variable {P:Program} {T:Nat→Option TI} {G:Nat→Option (List D)} {β:Nat→Nat} {bx:List ar} {w:World} {X:Nat→Prop}
theorem O2 {a b:D} (h:pM a b=true):a=b:=by
 cases a<;>cases b<;>simp [pM] at h
 ·rw [h.1,h.2]
 rw [h]
theorem Gf {d:TypeDesc} {a b:D} {u v:Value} {ok:Nat→Prop} (ha:nR (cH d) a=true) (hb:nR (cH d) b=true) (hu:aH w ok a u) (hv:aH w ok b v):Instr.sameNow d u v=some (pM a b):=by
 cases d<;>cases a<;>simp [cH,nR] at ha<;>cases b<;>simp [cH,nR] at hb<;>simp only [aH] at hu hv<;>subst hu hv
 ·subst ha hb;simp only [Instr.sameNow,pM,if_true,beq_self_eq_true,Bool.true_and];congr 1
 rename_i a b
 have:(⟨a.toArray⟩:ByteArray)=⟨b.toArray⟩↔a=b:=by
  constructor
  ·intro h;simpa using h
  rintro rfl;rfl
 by_cases h:a=b
 ·subst h;simp only [Instr.sameNow,pM];congr 1;show (a.toArray==a.toArray)=decide True;simp
 have h2:¬((⟨a.toArray⟩:ByteArray)=⟨b.toArray⟩):=fun e=>h (this.1 e)
 simp only [Instr.sameNow,pM];congr 1;show (a.toArray==b.toArray)=decide (a=b);rw [show decide (a=b)=false by simp [h]];exact beq_eq_false_iff_ne.2 (fun e=>h (by simpa using e))
theorem MJ {kd:Kd} {a:D} {u v:Value} {ok:Nat→Prop} (ha:nR kd a=true) (hu:aH w ok a u) (hv:aH w ok a v):u=v:=by
 cases a<;>cases kd<;>simp [nR] at ha<;>simp only [aH] at hu hv<;>rw [hu,hv]
theorem qx {d:TypeDesc} {ag:Bool} {n:Nat} {k:D} {kv:Value} {ok:Nat→Prop} (hk:nR (cH d) k=true) (hkv:aH w ok k kv):
 ∀(es:List (List D)) (ms:List MapEntry) (i:Nat),be w ok ag es ms→(∀r∈es,rowIs (cH d) n r)→
  (wi es k=none∧Instr.findNow d kv ms i=some none∧∀v,sI es k v=es++[k::v])∨
  (∃(j:Nat) (m:MapEntry) (ds:List D),Instr.findNow d kv ms i=some (some (i+j,m.val))∧ms[j]?=some m∧wi es k=some ds∧ds.length=n∧m.key=kv∧gM w ok ag (k::ds) m∧∀v,sI es k v=es.set j (k::v))
 |[],ms,i,h,_=>by
  simp only [be] at h;subst h
  exact .inl ⟨rfl,rfl,fun _=>rfl⟩
 |r::rs,ms,i,h,hr=>by
  simp only [be] at h
  obtain ⟨m,Fx,rfl,h1,h2⟩:=h
  obtain ⟨x,ds,rfl,hx,hl⟩:=hr r (by simp)
  have Lw:=h1
  simp only [gM] at h1
  obtain ⟨g1,g2⟩:=h1
  have hs:=Gf hk hx hkv g1
  simp only [wi,sI,Instr.findNow,hs]
  cases he:pM k x with
  |true=>
   obtain rfl:=O2 he
   refine .inr ⟨0,m,ds,by simp,by simp,by simp,hl,MJ hk g1 hkv,Lw,fun v=>by simp⟩
  |false=>
   simp only [cond_false]
   rcases qx hk hkv rs Fx (i+1) h2 (fun r hr'=>hr r (by simp [hr'])) with ⟨k1,k2,k3⟩|⟨j,m',ds',k1,k2,k3,k4,k5,k6,k7⟩
   ·exact .inl ⟨k1,k2,fun v=>by rw [k3];rfl⟩
   refine .inr ⟨j+1,m',ds',?_,by simpa using k2,k3,k4,k5,k6,fun v=>by rw [k7];rfl⟩
   rw [k1,show i+1+j=i+(j+1) by omega]
theorem run_checkKey {e:Bool} {t:Nat} {d:TypeDesc} {k:D} {kv:Value} {ok:Nat→Prop} (ht:P.underlying t=some d) (hk:nR (cH d) k=true) (hkv:aH w ok k kv):(Instr.checkKey e 10000 t kv).run P w=.ok () w:=by
 show (Instr.checkKey e (9999+1) t kv).run P w=.ok () w
 unfold Instr.checkKey
 cases d<;>cases k<;>simp [cH,nR] at hk<;>simp only [aH] at hkv<;>subst hkv<;>simp [aP ht]
theorem run_findKey {t:Nat} {d:TypeDesc} {kv:Value} {ms:List MapEntry} {r:Option (Nat×Value)} (ht:P.underlying t=some d) (h:Instr.findNow d kv ms 0=some r):(Instr.findKey t kv ms).run P w=.ok r w:=by
 unfold Instr.findKey
 simp [aP ht,h]
theorem be.append {ag:Bool} {ok:Nat→Prop}:∀{es:List (List D)} {ms:List MapEntry} {fs:List (List D)} {ns:List MapEntry},be w ok ag es ms→be w ok ag fs ns→be w ok ag (es++fs) (ms++ns)
 |[],ms,fs,ns,h,g=>by simp only [be] at h;subst h;exact g
 |r::rs,ms,fs,ns,h,g=>by
  simp only [be] at h
  obtain ⟨m,Fx,rfl,h1,h2⟩:=h
  simp only [List.cons_append,be]
  exact ⟨m,_,rfl,h1,h2.append g⟩
theorem be.set {ag:Bool} {ok:Nat→Prop} {r:List D} {m:MapEntry} (hm:gM w ok ag r m):∀{es:List (List D)} {ms:List MapEntry} (j:Nat),be w ok ag es ms→be w ok ag (es.set j r) (ms.set j m)
 |[],ms,j,h=>by simp only [be] at h;subst h;simp [be]
 |x::xs,ms,0,h=>by
  simp only [be] at h
  obtain ⟨m',Fx,rfl,h1,h2⟩:=h
  simp only [List.set_cons_zero,be]
  exact ⟨m,Fx,rfl,hm,h2⟩
 |x::xs,ms,j+1,h=>by
  simp only [be] at h
  obtain ⟨m',Fx,rfl,h1,h2⟩:=h
  simp only [List.set_cons_succ,be]
  exact ⟨m',_,rfl,h1,be.set hm j h2⟩
theorem b9.Xo {ok:Nat→Prop}:∀{ds:List D} {vs:List Value},b9 w ok ds vs→aj β bx w ok (ds.map .d) vs
 |[],vs,h=>by simp only [b9] at h;subst h;simp [aj]
 |d::ds,vs,h=>by
  simp only [b9] at h
  obtain ⟨v,r,rfl,h1,h2⟩:=h
  simp only [List.map_cons,aj]
  exact ⟨v,r,rfl,by simpa [ah] using h1,h2.Xo⟩
theorem b9.length {ok:Nat→Prop}:∀{ds:List D} {vs:List Value},b9 w ok ds vs→vs.length=ds.length
 |[],vs,h=>by simp only [b9] at h;subst h;rfl
 |d::ds,vs,h=>by
  simp only [b9] at h
  obtain ⟨v,r,rfl,_,h2⟩:=h
  simp [b9.length h2]
theorem gM.val {ag:Bool} {ok:Nat→Prop} {k:D} {ds:List D} {m:MapEntry} (h:gM w ok ag (k::ds) m) {n:Nat} (hn:ds.length=n) {v:AV} (hv:cC ag n (ds.map .d)=some v):ah β bx w ok v m.val:=by
 simp only [gM] at h
 obtain ⟨_,cs,h2,h3,h4⟩:=h
 have hl:=h4.length
 have ha:=h4.Xo (β:=β) (bx:=bx)
 cases ag with
 |true=>
  simp only [cC,cond_true] at hv
  rw [cond_true] at h2
  have hle:Nat.ble n (ds.map AV.d).length=true:=by simp [hn]
  simp only [hle,cond_true,osI] at hv
  subst hv
  rw [h2];simp only [ah]
  refine ⟨cs,rfl,?_⟩
  rw [List.take_of_length_le (by simp [hn])];exact ha
 |false=>
  simp only [cC,cond_false] at hv
  rw [cond_false] at h2
  have h1:=h3 rfl
  obtain ⟨c,rfl⟩:∃c,cs=[c]:=by
   match cs,h1 with
   |[c],_=>exact ⟨c,rfl⟩
  cases ds with
  |nil=>simp at hl
  |cons d ds=>
   simp at hv;subst hv
   rw [h2]
   simp only [List.map_cons,aj] at ha
   obtain ⟨u,us,e,g,_⟩:=ha
   simp at e;obtain ⟨rfl,rfl⟩:=e
   simpa [ah] using g
theorem zj {r c:Nat} {es:Array MapEntry} (h:w.heap[r]?=some (.map es c)):(getObj r).run P w=.ok (.map es c) w:=by simp [getObj,Sem.run,h]
theorem run_setObj_map {r c:Nat} {es:Array MapEntry} (o:Obj) (h:w.heap[r]?=some (.map es c)):(setObj r o).run P w=.ok () {w with heap:=w.heap.setIfInBounds r o}:=by simp [setObj,Sem.run,h]
theorem CP (hT:iz P T) (cx:cr G β bx w X) {ty:Nat} {m:AV} {u:Value} {tk te:TI} {ag:Bool} {es:List (List D)} (h:zH T ty m bx=some (tk,te,ag,es)) (hu:ah β bx w (aY β bx w X) m u):
 ∃(kt et:Nat) (dk:TypeDesc),P.underlying ty=some (.map kt et)∧P.underlying kt=some dk∧tk.kd=cH dk∧pX P et=some te∧
  ((u=.map none∧es=[])∨∃r ms clock,u=.map (some r)∧w.heap[r]?=some (.map ms clock)∧mj ms clock∧be w (aY β bx w X) ag es ms.toList):=by
 unfold zH at h
 split at h
 ·rename_i ti ht
  obtain ⟨i,d,h1,h2,h3,h4,h5,h6⟩:=aG (hT.ti _ _ ht)
  split at h
  ·rename_i k e hk
   rw [h5] at hk
   cases d<;>simp [cH] at hk
   obtain ⟨Ci,hk2⟩:=hk
   rw [Ci,hk2] at h2
   have fin:∀{Oq Ve:TI} {RM:Bool} {es':List (List D)},T k=some Oq→T e=some Ve→(Oq,Ve,RM,es')=(tk,te,ag,es)→
    ((u=.map none∧es=[])∨∃r ms clock,u=.map (some r)∧w.heap[r]?=some (.map ms clock)∧mj ms clock∧be w (aY β bx w X) ag es ms.toList)→∃(kt et:Nat) (dk:TypeDesc),P.underlying ty=some (.map kt et)∧P.underlying kt=some dk∧tk.kd=cH dk∧pX P et=some te∧
    ((u=.map none∧es=[])∨∃r ms clock,u=.map (some r)∧w.heap[r]?=some (.map ms clock)∧mj ms clock∧be w (aY β bx w X) ag es ms.toList):=by
    intro Oq Ve RM es' a1 a2 a3 a4
    simp only [Prod.mk.injEq] at a3
    obtain ⟨rfl,rfl,rfl,rfl⟩:=a3
    obtain ⟨_,dk,_,b2,_,_,b5,_⟩:=aG (hT.ti _ _ a1)
    exact ⟨k,e,dk,h2,b2,b5,hT.ti _ _ a2,a4⟩
   split at h
   ·rename_i Oq Ve RM es' a1 a2
    simp only [osI] at h
    refine fin a1 a2 h ?_
    simp only [Prod.mk.injEq] at h
    obtain ⟨rfl,rfl,rfl,rfl⟩:=h
    simp only [ah,aH] at hu
    obtain ⟨r,ms,clock,g1,_,g2,g3,g4⟩:=hu
    exact .inr ⟨r,ms,clock,g1,g2,g3,g4⟩
   ·rename_i Oq Ve a1 a2
    simp only [osI] at h
    refine fin a1 a2 h ?_
    simp only [Prod.mk.injEq] at h
    obtain ⟨rfl,rfl,rfl,rfl⟩:=h
    simp only [ah,KC.val] at hu
    exact .inl ⟨hu,rfl⟩
   ·rename_i Oq Ve b a1 a2
    split at h
    ·rename_i RM es' hb
     simp only [osI] at h
     refine fin a1 a2 h ?_
     simp only [Prod.mk.injEq] at h
     obtain ⟨rfl,rfl,rfl,rfl⟩:=h
     simp only [ah] at hu
     obtain ⟨ms,clock,g2,g3,g4⟩:=cx.box b _ hb
     exact .inr ⟨β b,ms,clock,hu.1,g2,g3,g4⟩
    cases h
   cases h
  cases h
 cases h
theorem Jc (hT:iz P T) (cx:cr G β bx w X) {ty:Nat} {m:AV} {u kv:Value} {k:D} {tk te:TI} {ag Cb:Bool} {es:List (List D)} (h:zH T ty m bx=some (tk,te,ag,es)) (hu:ah β bx w (aY β bx w X) m u)
 (hkv:aH w (aY β bx w X) k kv) (hf:wj tk te ag es k) {K:AV→Prop} (hK:oG te Cb K (wi es k)):
 ∃v x,(Instr.lookup ty u kv Cb).run P w=.ok x w∧ah β bx w (aY β bx w X) v x∧K v:=by
 obtain ⟨kt,et,dk,u1,u2,u3,u4,hu⟩:=CP hT cx h hu
 obtain ⟨f1,f2,f3⟩:=hf
 rw [u3] at f2 f3
 have none_:∀ms:Array MapEntry,(∃e:Bool,Instr.findNow dk kv ms.toList 0=some none)→wi es k=none→(u=.map none∧ms=#[]∨∃r clock,u=.map (some r)∧w.heap[r]?=some (.map ms clock))→
  ∃v x,(Instr.lookup ty u kv Cb).run P w=.ok x w∧ah β bx w (aY β bx w X) v x∧K v:=by
  rintro ms ⟨_,hfn⟩ hg Si
  rw [hg] at hK
  simp only [oG] at hK
  split at hK
  ·rename_i z hz
   obtain ⟨zv,z1,z2⟩:=F2 (β:=β) (bx:=bx) (w:=w) (ok:=aY β bx w X) u4 hz
   refine ⟨_,bif Cb then .tuple #[zv,.bool false] else zv,?_,?_,hK⟩
   ·rcases Si with ⟨rfl,rfl⟩|⟨r,clock,rfl,hh⟩
    ·unfold Instr.lookup
     cases Cb<;>simp [aP u1,run_checkKey u2 f2 hkv,run_findKey (w:=w) u2 hfn,z1]
    unfold Instr.lookup
    cases Cb<;>simp [aP u1,zj hh,run_checkKey u2 f2 hkv,run_findKey (w:=w) u2 hfn,z1]
   cases Cb with
   |true=>simp only [cond_true,ah,aj,aH];exact ⟨_,rfl,_,_,rfl,z2,_,_,rfl,rfl,rfl⟩
   |false=>exact z2
  exact hK.elim
 rcases hu with ⟨rfl,rfl⟩|⟨r,ms,clock,rfl,hh,hst,Ut⟩
 ·exact none_ #[] ⟨true,rfl⟩ rfl (.inl ⟨rfl,rfl⟩)
 rcases qx f2 hkv es ms.toList 0 Ut f3 with ⟨k1,k2,_⟩|⟨j,e,ds,k1,k2,k3,k4,k5,k6,_⟩
 ·exact none_ ms ⟨true,k2⟩ k1 (.inr ⟨r,clock,rfl,hh⟩)
 rw [k3] at hK
 simp only [oG] at hK
 split at hK
 ·rename_i v hv
  have hvv:=k6.val (β:=β) (bx:=bx) k4 (by rw [←f1] at hv;exact hv)
  refine ⟨_,bif Cb then .tuple #[e.val,.bool true] else e.val,?_,?_,hK⟩
  ·unfold Instr.lookup
   cases Cb<;>simp [aP u1,zj hh,run_checkKey u2 f2 hkv,run_findKey (w:=w) u2 k1]
  cases Cb with
  |true=>simp only [cond_true,ah,aj,aH];exact ⟨_,rfl,_,_,rfl,hvv,_,_,rfl,rfl,rfl⟩
  |false=>exact hvv
 exact hK.elim
theorem Ab {b:Nat} {B B':ar} {o o':Obj} (hb:bx[b]?=some B) (hl:B.live=true) (hl':B'.live=true) (hh:w.heap[β b]?=some o) (ho:∀c e f,o≠.cells c e f):
 Ext β bx w β (bx.set b B') {w with heap:=w.heap.setIfInBounds (β b) o'}:=by
 refine ⟨rfl,rfl,rfl,by simp,?_,?_,fun i hi=>⟨rfl,ie (rN hl') hi⟩,?_⟩
 ·intro k hk hlk
  have hne:β b≠k:=hlk b _ hb hl
  simp [Array.getElem?_setIfInBounds_ne hne]
 ·intro k c e f hk
  have hne:β b≠k:=by rintro rfl;rw [hh] at hk;cases hk;exact ho c e f rfl
  exact ⟨c,by simp [Array.getElem?_setIfInBounds_ne hne,hk],rfl⟩
 intro i Bi hi nN
 rcases aI hi with ⟨rfl,_,_⟩|⟨_,h⟩
 ·exact .inr ⟨i,_,hb,hl,rfl⟩
 exact .inr ⟨i,Bi,h,nN,rfl⟩
theorem Jd (cx:cr G β bx w X) {b:Nat} {B B':ar} {o o':Obj} (hb:bx[b]?=some B) (hl:B.live=true) (hl':B'.live=true) (hh:w.heap[β b]?=some o) (ho:∀c e f,o≠.cells c e f)
 (hB:dw β (bx.set b B') {w with heap:=w.heap.setIfInBounds (β b) o'} (aY β (bx.set b B') {w with heap:=w.heap.setIfInBounds (β b) o'} X) B' (β b)):
 cr G β (bx.set b B') {w with heap:=w.heap.setIfInBounds (β b) o'} X:=by
 refine cx.step (Ab hb hl hl' hh ho) ?_ ?_
 ·intro i Bi hi
  rcases aI hi with ⟨rfl,rfl,_⟩|⟨hne,h⟩
  ·exact .inr hB
  refine .inl ⟨h,fun nN=>?_⟩
  have OV:β b≠β i:=fun he=>hne (cx.inj b i _ Bi hb h hl nN he).symm
  simp [Array.getElem?_setIfInBounds_ne OV]
 intro i j bi bj hi hj nN pZ he
 rcases aI hi with ⟨rfl,rfl,_⟩|⟨h1,h2⟩<;>rcases aI hj with ⟨rfl,rfl,_⟩|⟨h3,h4⟩
 ·rfl
 ·exact cx.inj _ _ _ _ hb h4 hl pZ he
 ·exact cx.inj _ _ _ _ h2 hb nN hl he
 exact cx.inj _ _ _ _ h2 h4 nN pZ he
theorem Sj {ok:Nat→Prop} {x:AV} {y:D} {u:Value} (hn:cA [x]=true) (h:x.sH bx=some y) (hx:ah β bx w ok x u):aH w ok y u:=by
 cases x with
 |d x=>simp only [AV.sH,osI] at h;subst h;simpa [ah] using hx
 |cl es=>
  simp only [AV.sH,osI] at h;subst h
  simp only [ah] at hx
  obtain ⟨base,rfl,g⟩:=hx
  simp only [aH];exact ⟨base,_,rfl,Nat.le_refl _,g⟩
 |ow b sz n=>simp [cA] at hn
 |fn f cs=>
  cases cs with
  |nil=>
   simp only [AV.sH,osI] at h;subst h
   simp only [ah,aj] at hx
   obtain ⟨vs,rfl,rfl⟩:=hx
   simp [aH,zJ]
  |cons c cs=>simp [AV.sH] at h
 |_=>simp [AV.sH] at h
theorem Eh {x:AV} {xs:List AV} (h:cA (x::xs)=true):cA [x]=true∧cA xs=true:=by
 cases x<;>simp_all [cA]
theorem Ac {ok:Nat→Prop}:∀{xs:List AV} {ys:List D} {us:List Value},cA xs=true→iD bx xs=some ys→aj β bx w ok xs us→b9 w ok ys us
 |[],ys,us,_,h,hx=>by simp [iD] at h;subst h;simp only [aj] at hx;subst hx;simp [b9]
 |x::xs,ys,us,hn,h,hx=>by
  simp only [iD] at h
  split at h
  ·rename_i y ys' h1 h2
   simp only [osI] at h;subst h
   simp only [aj] at hx
   obtain ⟨u,OJ,rfl,g1,g2⟩:=hx
   obtain ⟨n1,n2⟩:=Eh hn
   simp only [b9]
   exact ⟨u,OJ,rfl,Sj n1 h1 g1,Ac n2 h2 g2⟩
  simp at h
theorem Ei {kd:Kd} {k:D} {kv:Value} {ok:Nat→Prop} (hk:nR kd k=true) (h:aH w ok k kv):Instr.sameBits 10000 kv kv=true:=by
 cases k<;>cases kd<;>simp [nR] at hk<;>simp only [aH] at h<;>subst h
 ·simp [Instr.sameBits]
 rename_i s
 show (s.toArray==s.toArray)=true
 simp
theorem tI {ms:Array MapEntry} {j:Nat} {m:MapEntry} (h:ms.toList[j]?=some m) (f:MapEntry→MapEntry):(ms.modify j f).toList=ms.toList.set j (f m):=by
 rw [Array.toList_modify]
 obtain ⟨hj,rfl⟩:=List.getElem?_eq_some_iff.1 h
 apply List.ext_getElem?
 intro i
 rw [List.getElem?_modify,List.getElem?_set]
 by_cases hi:j=i
 ·subst hi
  have hj2:j<ms.size:=by simpa using hj
  simp [hj2]
 simp [hi]
theorem O3 {ok:Nat→Prop} {x:AV} {xv:Value} {vs:List AV} {ds:List D} {k:D} {e:MapEntry} {ag:Bool} (hc:x.cells?=some vs) (hx:ah β bx w ok x xv) (hn:cA vs=true) (hd:iD bx vs=some ds) (ha:x.isAgg=ag)
 (hk:aH w ok k e.key) (he:e.val=xv):gM w ok ag (k::ds) e:=by
 simp only [gM]
 refine ⟨hk,?_⟩
 rw [he]
 cases x with
 |agg cs=>
  simp only [AV.cells?] at hc
  cases hs:uA cs with
  |false=>simp [hs] at hc
  |true=>
   simp only [hs,cond_true,osI] at hc
   subst hc
   simp only [AV.isAgg] at ha;subst ha
   simp only [ah] at hx
   obtain ⟨us,rfl,g⟩:=hx
   exact ⟨us,rfl,fun h=>(by cases h),Ac hn hd g⟩
 |any=>simp [AV.cells?] at hc
 |vw _ _ _ _ _ _=>simp [AV.cells?] at hc
 |dA _=>simp [AV.cells?] at hc
 |cond _ _=>simp [AV.cells?] at hc
 |_=>
  simp only [AV.cells?,osI] at hc
  subst hc
  simp only [AV.isAgg] at ha;subst ha
  exact ⟨[xv],rfl,fun _=>rfl,Ac hn hd (by simp only [aj];exact ⟨xv,[],rfl,hx,rfl⟩)⟩
theorem Gg (hT:iz P T) (cx:cr G β bx w X) {ty b:Nat} {m x:AV} {u kv xv:Value} {k:D} {tk te:TI} {ag:Bool} {es:List (List D)} {vs:List AV} {ds:List D} (h:D3 T ty m bx=some (b,tk,te,ag,es)) (hu:ah β bx w (aY β bx w X) m u)
 (hkv:aH w (aY β bx w X) k kv) (Fz:ah β bx w (aY β bx w X) x xv) (hc:x.cells?=some vs) (hn:cA vs=true) (hd:iD bx vs=some ds) (hf:wj tk te ag es k) (ha:x.isAgg=ag):
 ∃w',(Instr.mapUpdate ty u kv xv).run P w=.ok () w'∧Ext β bx w β (bx.set b (.mp ag (sI es k ds))) w'∧cr G β (bx.set b (.mp ag (sI es k ds))) w' X:=by
 unfold D3 at h
 split at h
 case h_2=>cases h
 rename_i b' Oq Ve RM es' hm
 simp only [osI,Prod.mk.injEq] at h
 obtain ⟨rfl,rfl,rfl,rfl,rfl⟩:=h
 obtain ⟨kt,et,dk,u1,u2,u3,u4,_⟩:=CP hT cx hm hu
 obtain ⟨f1,f2,f3⟩:=hf
 rw [u3] at f2 f3
 have hb:bx[b']?=some (.mp RM es'):=by
  unfold zH at hm
  split at hm
  ·split at hm
   ·split at hm
    ·rename_i _ _ h0;cases h0
    ·rename_i _ _ h0;cases h0
    ·rename_i _ _ h0
     cases h0
     split at hm
     ·rename_i hb
      simp only [osI,Prod.mk.injEq] at hm
      obtain ⟨_,_,rfl,rfl⟩:=hm
      exact hb
     cases hm
    cases hm
   cases hm
  cases hm
 simp only [ah] at hu
 obtain ⟨rfl,_⟩:=hu
 obtain ⟨ms,clock,hh,⟨Vf,st2⟩,Ut⟩:=cx.box b' _ hb
 have main:∀(Fx:Array MapEntry) (clock':Nat),mj Fx clock'→be w (aY β bx w X) RM (sI es' k ds) Fx.toList→
  (Instr.mapUpdate ty (.map (some (β b'))) kv xv).run P w=.ok () {w with heap:=w.heap.setIfInBounds (β b') (.map Fx clock')}→
  ∃w',(Instr.mapUpdate ty (.map (some (β b'))) kv xv).run P w=.ok () w'∧Ext β bx w β (bx.set b' (.mp RM (sI es' k ds))) w'∧cr G β (bx.set b' (.mp RM (sI es' k ds))) w' X:=by
  intro Fx clock' g1 g2 g3
  have ex:Ext β bx w β (bx.set b' (.mp RM (sI es' k ds))) {w with heap:=w.heap.setIfInBounds (β b') (.map Fx clock')}:=Ab hb rfl rfl hh (fun c e f=>by simp)
  refine ⟨_,g3,ex,Jd cx hb rfl rfl hh (fun c e f=>by simp) ?_⟩
  exact ⟨Fx,clock',by simp [eG hh],g1,be.mono (ex.keeps X) _ _ _ g2⟩
 rcases qx f2 hkv es' ms.toList 0 Ut f3 with ⟨k1,k2,k3⟩|⟨j,e,ds',k1,k2,k3,k4,k5,k6,k7⟩
 ·refine main (ms.push {key:=kv,val:=xv,born:=clock}) (clock+1) ⟨?_,?_⟩ ?_ ?_
  ·rw [Array.all_push]
   simp only [Bool.and_eq_true,decide_eq_true_eq]
   refine ⟨?_,by omega⟩
   rw [Array.all_eq_true] at Vf ⊢
   intro i hi
   have:=Vf i hi
   simp only [decide_eq_true_eq] at this ⊢
   omega
  ·rw [Array.toList_push,List.map_append,List.nodup_append]
   refine ⟨st2,by simp,?_⟩
   intro a ha1 c Cc
   simp at Cc
   obtain ⟨m',hm',rfl⟩:=List.mem_map.1 ha1
   have:m'.born<clock:=by
    rw [Array.all_eq_true_iff_forall_mem] at Vf
    simpa using Vf m' (by simpa using hm')
   omega
  ·rw [k3,Array.toList_push]
   refine Ut.append ?_
   simp only [be]
   exact ⟨_,[],rfl,O3 hc Fz hn hd ha hkv rfl,rfl⟩
  unfold Instr.mapUpdate
  simp [aP u1,zj hh,run_checkKey u2 f2 hkv,run_findKey (w:=w) u2 k2,run_setObj_map _ hh]
 have ZU:=Ei f2 hkv
 refine main (ms.modify j fun e=>{e with key:=kv,val:=xv}) clock ⟨?_,?_⟩ ?_ ?_
 ·rw [Array.all_eq_true_iff_forall_mem] at Vf ⊢
  intro y hy
  have hy2:y∈(ms.modify j fun e=>{e with key:=kv,val:=xv}).toList:=Array.mem_def.1 hy
  rw [tI k2] at hy2
  rcases List.mem_or_eq_of_mem_set hy2 with h1|h1
  ·exact Vf y (by simpa using h1)
  subst h1
  exact Vf e (by simpa using List.mem_of_getElem? k2)
 ·rw [tI k2,List.map_set]
  have:(ms.toList.map (·.born)).set j ({e with key:=kv,val:=xv}:MapEntry).born=ms.toList.map (·.born):=by
   apply List.ext_getElem?
   intro i
   rw [List.getElem?_set]
   by_cases hi:j=i
   ·subst hi
    have:=(List.getElem?_eq_some_iff.1 k2).1
    simp [k2] at this ⊢
    simp [this]
   simp [hi]
  rw [this];exact st2
 ·rw [k7,tI k2]
  exact be.set (O3 hc Fz hn hd ha hkv rfl) j Ut
 unfold Instr.mapUpdate
 simp only [Nat.zero_add] at k1
 have k2':ms[j]?=some e:=by simpa using k2
 simp [aP u1,zj hh,run_checkKey u2 f2 hkv,run_findKey (w:=w) u2 k1,run_setObj_map _ hh,Instr.keyThatStays,k2',k5,ZU]
end
end Dem
end
section
open Go
namespace Dem
section
variable {P:Program} {T:Nat→Option TI} {G:Nat→Option (List D)} {β:Nat→Nat} {bx:List ar} {w:World} {X:Nat→Prop}
theorem Je (cx:cr G β bx w X) {e size cap:Nat} {rows:List (List D)} {vs zs:List Value} (hl:∀r∈rows,r.length=size) (hv:aj β bx w (aY β bx w X) (rows.flatten.map .d) vs)
 (hlen:rows.length≤cap):
 let w':World:={w with drawn:=w.drawn+1,heap:=w.heap.push (.cells ⟨vs++zs⟩ e)}
 Ext β bx w β bx w'∧cr G β bx w' X∧ah β bx w' (aY β bx w' X) (.d (.sl rows)) (.slice (some ⟨w.heap.size,0,none⟩) rows.length cap):=by
 intro w'
 have Xk:=qn cx (eX w)
 have uQ:Ext β bx w β bx {w with drawn:=w.drawn+1}:=iI (eX w)
 have R9:Ext β bx {w with drawn:=w.drawn+1} β bx w':=uF (w:={w with drawn:=w.drawn+1}) (.cells ⟨vs++zs⟩ e)
 have hnew:w'.heap[w.heap.size]?=some (.cells ⟨vs++zs⟩ e):=iK {w with drawn:=w.drawn+1} _
 refine ⟨uQ.trans R9,FM (w:={w with drawn:=w.drawn+1}) Xk _,?_⟩
 simp only [ah,aH]
 refine ⟨_,_,rfl,hlen,.inr ⟨w.heap.size,0,size,rfl,⟨eG hnew,fun hX=>?_,fun i b hb hlv=>?_⟩,?_⟩⟩
 ·exact Nat.lt_irrefl _ (cx.xs _ hX)
 ·have:=(cx.box i b hb).eH hlv;omega
 refine m0 (β:=β) (bx:=bx) rows 0 vs hl ?_ (aj.mono ((uQ.trans R9).dN X) _ _ hv)
 intro k u hk
 have hk':k<vs.length:=by
  rcases Nat.lt_or_ge k vs.length with h|h
  ·exact h
  simp [List.getElem?_eq_none h] at hk
 show World.cell? w' ⟨w.heap.size,0+k,none⟩=some u
 simp only [World.cell?,hnew]
 simp [List.getElem?_append_left hk',hk]
theorem CQ (hT:iz P T) (cx:cr G β bx w X) {ev:Operand→AV} {ρ:Operand→Value} {o:Oper} (hρ:∀x∈o.op.operands.toList,ah β bx w (aY β bx w X) (ev x) (ρ x))
 {c:Prop} {es:List (List D)} (hr:Cg T ev o.op=some (c,es)) (hc:c):c5 G β bx w X ((execOp ρ o).run P w) (.d (.sl es)) bx:=by
 obtain ⟨dst,op,type,pos,after,guard⟩:=o
 simp only at hρ hr
 unfold Cg at hr
 split at hr
 case h_2=>cases hr
 rename_i b args ats
 split at hr
 case h_2=>cases hr
 rename_i x y t u ha Vc
 cases ht:T t with
 |none=>simp [ht] at hr
 |some ti=>
 cases hu:T u with
 |none=>simp [ht,hu] at hr
 |some tu=>
 simp only [ht,hu] at hr
 obtain ⟨i,d,h1,h2,h3,h4,h5,h6⟩:=aG (hT.ti _ _ ht)
 obtain ⟨ui,ud,u1,u2,u3,u4,u5,u6⟩:=aG (hT.ti _ _ hu)
 cases hk:ti.kd with
 |slice e=>
  cases hku:tu.kd with
  |slice e2=>
   rw [hk] at hr h5
   rw [hku] at hr u5
   have Ea:∀k,ud≠.int k:=by rintro k rfl;cases u5
   cases d<;>simp [cH] at h5
   subst h5
   cases hte:T e with
   |none=>simp [hte] at hr
   |some te=>
   obtain ⟨ei,ed,g1,g2,g3,g4,g5,g6⟩:=aG (hT.ti _ _ hte)
   simp only [hte] at hr
   cases hz:eC te with
   |false=>simp [hz] at hr
   |true=>
   obtain ⟨z,hz1,U6,Za,Zb⟩:=mw hz
   obtain ⟨zv,zc,k1,k2,k3,_⟩:=uM (β:=β) (bx:=bx) (w:=w) (ok:=aY β bx w X) (hT.ti _ _ hte) hz1
   have hzl:zc.length=ei.size:=by rw [aj.length k3,U6,g3]
   have zi:ei.zero=some zv:=by
    cases hq:ei.zero with
    |none=>rw [g6,hq] at hz1;simp [AV.cells?] at hz1
    |some q=>have:=gq (P:=P) (w:=w) g1 hq;rw [k1] at this;simp at this;rw [this]
   simp only [hz,cond_true] at hr
   split at hr
   case h_2=>cases hr
   rename_i es x0 xr hx hy
   simp only [osI,Prod.mk.injEq] at hr
   obtain ⟨rfl,rfl⟩:=hr
   obtain ⟨Cc,CK⟩:=hc
   have mx:x∈args.toList:=by rw [ha];simp
   have my:y∈args.toList:=by rw [ha];simp
   have hs:=hρ x (by simp [Op.operands,Call.operands];exact by simpa using mx)
   have hxx:=hρ y (by simp [Op.operands,Call.operands];exact by simpa using my)
   rw [hx] at hs
   rw [hy] at hxx
   obtain ⟨ws,f1,f2⟩:=lp (P:=P) (xs:=x0::xr) cx hxx (by simp [kC,AV.rows]) (fun r hr=>CK r (List.mem_append.2 (.inr hr)))
   rw [g3] at f1
   simp only [ah] at hs
   obtain ⟨base,hsx,hbase⟩:=hs
   have fin:∀(os:List Value),fL P w ei.size es.length (.slice base es.length es.length) os→aj β bx w (aY β bx w X) (es.flatten.map .d) os→c5 G β bx w X ((execOp ρ ⟨dst,.call {callee:=.builtin .append,args:=args,argTypes:=ats},type,pos,after,guard⟩).run P w) (.d (.sl (es++x0::xr))) bx:=by
    intro os o1 o2
    obtain ⟨cap,rest,q1,q2,zs,q3,q4⟩:=iO h2 u2 Ea g1 zi k2 hzl f1 o1 (by simp) (by omega) (by rw [←g4];exact Cc) type
    obtain ⟨r1,r2,r3⟩:=Je (e:=e) (size:=te.size) (cap:=cap) (rows:=es++(x0::xr)) (zs:=zs) (vs:=os++ws) cx CK (aj.flatten_append o2 f2) (by rw [List.length_append];exact q1)
    rw [List.length_append] at r3
    refine ⟨β,_,r1,r2,.inl ⟨_,?_,r3⟩⟩
    simp only [execOp,resolve,Sem.run_bind,Sem.run_pure,Result.andThen_ok,invoke,fm args ρ]
    have ea:ats=⟨[t,u]⟩:=Array.toList_inj.1 (by rw [Vc])
    rw [ha,List.map_cons,List.map_cons,List.map_nil,hsx,ea]
    exact bJ _ q4
   cases es with
   |nil=>
    refine fin [] ⟨cX,by simp,fun w' _=>⟨cX,?_⟩⟩ (by simp [aj])
    cases base<;>simp [Builtin.firstCells,loadCells,loadCellsFrom]
   |cons e0 er=>
    obtain ⟨os,o1,o2⟩:=dH (P:=P) (β:=β) (bx:=bx) (cap:=(e0::er).length) (base:=base) (es:=e0::er) (ok:=aY β bx w X) (fun r hr=>CK r (List.mem_append.2 (.inl hr))) (hbase.imp id fun ⟨az,off,sz,a,_,c⟩=>⟨az,off,sz,a,c⟩)
    rw [g3] at o1
    exact fin os o1 o2
  |_=>simp [hk,hku] at hr
 |_=>simp [hk] at hr
end
end Dem
end
