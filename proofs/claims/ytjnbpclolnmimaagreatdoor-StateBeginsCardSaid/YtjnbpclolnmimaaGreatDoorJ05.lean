/- Parts of a proof, joined. -/
import Derived.Test.YtjnbpclolnmimaaGreatDoorJ04
set_option linter.unusedSimpArgs false
set_option linter.unusedVariables false
set_option maxRecDepth 100000
set_option maxHeartbeats 4000000
section
open Go
namespace Dem
section
variable {P:Program} {T:Nat→Option TI} {G:Nat→Option (List D)} {β:Nat→Nat} {bx:List ax} {w:World} {X:Nat→Prop}
def fC (β:Nat→Nat) (bx:List ax) (w:World) (ok:Nat→Prop):fm→Ending→Prop
 |.ret v,.returned u=>ah β bx w ok v u
 |.Nk v,.panicked ch=>∃u,ch=[{v:=u,recovered:=false}]∧ah β bx w ok v u
 |_,_=>False
def jD (P:Program) (f:Nat) (vs:Array Value) (w:World) (R:Ending→World→Prop):Prop:=
 ((callFunc f vs).run P w=.ok (.enter f vs) w∧Calls P f vs w R)∨∃v w',(callFunc f vs).run P w=.ok (.value v) w'∧R (.returned v) w'
theorem jD.mono {f:Nat} {vs:Array Value} {R R':Ending→World→Prop} (h:jD P f vs w R) (hr:∀e w',R e w'→R' e w'):jD P f vs w R':=by
 rcases h with ⟨h1,h2⟩|⟨v,w',h1,h2⟩
 ·exact .inl ⟨h1,Calls.mono h2 hr⟩
 exact .inr ⟨v,w',h1,hr _ _ h2⟩
def bg (P:Program) (G:Nat→Option (List D)) (f:Nat) (args:List AV) (bx:List ax) (res:fm) (aG:List ax):Prop:=
 ∀(β:Nat→Nat) (w:World) (vs:List Value) (X:Nat→Prop),ct G β bx w X→aj β bx w (be β bx w X) args vs→
  jD P f ⟨vs⟩ w fun e w'=>∃β',Ext β bx w β' aG w'∧ct G β' aG w' X∧fC β' aG w' (be β' aG w' X) res e
mutual
theorem qZ {β β':Nat→Nat} {bx aG:List ax} {w:World} {ok ok':Nat→Prop} (h:∀aB,ok aB→ok' aB):∀(x:AV) (v:Value),x.shut=true→ah β bx w ok x v→ah β' aG w ok' x v
 |.any,_,_,_=>by simp [ah]
 |.d x,v,_,hv=>by simp only [ah] at hv ⊢;exact aK.mono (fun aB hb=>⟨h aB hb,rfl⟩) _ _ hv
 |.k c,v,_,hv=>by simpa [ah] using hv
 |.agg cs,v,hs,hv=>by
  simp only [ah] at hv ⊢;obtain ⟨vs,h1,h2⟩:=hv
  exact ⟨vs,h1,mq h cs vs (by simpa [AV.shut] using hs) h2⟩
 |.dF cs,v,hs,hv=>by
  simp only [ah] at hv ⊢;obtain ⟨vs,h1,h2⟩:=hv
  exact ⟨vs,h1,mq h cs vs (by simpa [AV.shut] using hs) h2⟩
 |.ptr _ _,_,hs,_=>by simp [AV.shut] at hs
 |.rp _ _ _ _,_,hs,_=>by simp [AV.shut] at hs
 |.ow _ _ _,_,hs,_=>by simp [AV.shut] at hs
 |.vw _ _ _ _ _ _,_,hs,_=>by simp [AV.shut] at hs
 |.ep ds,v,_,hv=>by
  simp only [ah] at hv ⊢;obtain ⟨aB,off,h1,h2,h3⟩:=hv
  exact ⟨aB,off,h1,h aB h2,aY.mono (fun aB hb=>⟨h aB hb,rfl⟩) aB (fun _=>rfl) _ _ h3⟩
 |.cl es,v,_,hv=>by
  simp only [ah] at hv ⊢;obtain ⟨base,h1,h2⟩:=hv
  refine ⟨base,h1,h2.imp id ?_⟩
  rintro ⟨aB,off,sz,e1,e2,e3⟩
  exact ⟨aB,off,sz,e1,h aB e2,av.mono (fun aB hb=>⟨h aB hb,rfl⟩) aB sz (fun _=>rfl) _ _ e3⟩
 |.fn f cs,v,hs,hv=>by
  simp only [ah] at hv ⊢;obtain ⟨vs,h1,h2⟩:=hv
  exact ⟨vs,h1,mq h cs vs (by simpa [AV.shut] using hs) h2⟩
 |.tC t x,v,hs,hv=>by
  simp only [ah] at hv ⊢;obtain ⟨u,h1,h2⟩:=hv
  exact ⟨u,h1,qZ h x u (by simpa [AV.shut] using hs) h2⟩
 |.cond p x,v,hs,hv=>by
  simp only [ah] at hv ⊢
  exact ⟨fun hp=>qZ h x v (by simpa [AV.shut] using hs) (hv.1 hp),hv.2⟩
theorem mq {β β':Nat→Nat} {bx aG:List ax} {w:World} {ok ok':Nat→Prop} (h:∀aB,ok aB→ok' aB):∀(xs:List AV) (vs:List Value),AV.shut.nj xs=true→aj β bx w ok xs vs→aj β' aG w ok' xs vs
 |[],vs,_,hv=>by simpa [aj] using hv
 |x::xs,vs,hs,hv=>by
  simp only [aj] at hv ⊢
  obtain ⟨u,us,h1,h2,h3⟩:=hv
  simp only [AV.shut.nj,Bool.and_eq_true] at hs
  exact ⟨u,us,h1,qZ h x u hs.1 h2,mq h xs us hs.2 h3⟩
end
theorem sD {β β':Nat→Nat} {bx aG:List ax} {w w':World} {ok ok':Nat→Prop}:∀(xs:List AV) (vs:List Value),AV.flat.Am xs=true→aj β bx w ok xs vs→aj β' aG w' ok' xs vs
 |[],vs,_,hv=>by simpa [aj] using hv
 |x::xs,vs,hs,hv=>by
  simp only [aj] at hv ⊢
  obtain ⟨u,us,h1,h2,h3⟩:=hv
  cases x with
  |d y=>cases y<;>simp [AV.flat.Am] at hs<;>exact ⟨u,us,h1,by simpa [ah,aK] using h2,sD xs us hs h3⟩
  |k c=>simp [AV.flat.Am] at hs;exact ⟨u,us,h1,by simpa [ah] using h2,sD xs us hs h3⟩
  |_=>simp [AV.flat.Am] at hs
theorem pn {β β':Nat→Nat} {bx aG:List ax} {w w':World} {ok ok':Nat→Prop}:∀(xs:List AV) (vs:List Value),AV.flat.qO xs=true→aj β bx w ok xs vs→aj β' aG w' ok' xs vs
 |[],vs,_,hv=>by simpa [aj] using hv
 |x::xs,vs,hs,hv=>by
  simp only [aj] at hv ⊢
  obtain ⟨u,us,h1,h2,h3⟩:=hv
  cases x with
  |d y=>cases y<;>simp [AV.flat.qO] at hs<;>exact ⟨u,us,h1,by simpa [ah,aK] using h2,pn xs us hs h3⟩
  |k c=>simp [AV.flat.qO] at hs;exact ⟨u,us,h1,by simpa [ah] using h2,pn xs us hs h3⟩
  |agg cs=>
   simp [AV.flat.qO] at hs
   simp only [ah] at h2
   obtain ⟨v2,e1,e2⟩:=h2
   exact ⟨u,us,h1,by simp only [ah];exact ⟨v2,e1,sD cs v2 hs.1 e2⟩,pn xs us hs.2 h3⟩
  |_=>simp [AV.flat.qO] at hs
theorem GM {β β':Nat→Nat} {bx aG:List ax} {w w':World} {ok ok':Nat→Prop} (x:AV) (v:Value) (hf:x.flat=true) (hv:ah β bx w ok x v):ah β' aG w' ok' x v:=by
 cases x with
 |d y=>cases y<;>simp [AV.flat] at hf<;>simpa [ah,aK] using hv
 |k c=>simpa [ah] using hv
 |agg cs=>simp only [ah] at hv ⊢;obtain ⟨vs,h1,h2⟩:=hv;exact ⟨vs,h1,sD cs vs (by simpa [AV.flat] using hf) h2⟩
 |dF cs=>simp only [ah] at hv ⊢;obtain ⟨vs,h1,h2⟩:=hv;exact ⟨vs,h1,pn cs vs (by simpa [AV.flat] using hf) h2⟩
 |_=>simp [AV.flat] at hf
theorem Nw {w w':World} {ok ok':Nat→Prop}:∀(x:D) (v:Value),x.flat=true→aK w ok x v→aK w' ok' x v:=by
 intro x v hf hv
 cases x<;>simp [D.flat] at hf<;>simpa [aK] using hv
theorem yK {w:World} {ok ok':Nat→Prop} {aB:Nat}:∀(xs:List D) (off:Nat),(∀x∈xs,x.flat=true)→aY w ok aB xs off→aY w ok' aB xs off
 |[],_,_,_=>by simp [aY]
 |x::xs,off,hf,hv=>by
  simp only [aY] at hv ⊢
  obtain ⟨⟨u,h1,h2⟩,h3⟩:=hv
  exact ⟨⟨u,h1,Nw x u (hf x (by simp)) h2⟩,yK xs _ (fun y hy=>hf y (by simp [hy])) h3⟩
theorem py {w:World} {ok ok':Nat→Prop} {aB sz:Nat}:∀(rs:List (List D)) (off:Nat),(∀r∈rs,∀x∈r,x.flat=true)→av w ok aB sz rs off→av w ok' aB sz rs off
 |[],_,_,_=>by simp [av]
 |r::rs,off,hf,hv=>by
  simp only [av] at hv ⊢
  exact ⟨hv.1,yK r off (hf r (by simp)) hv.2.1,py rs _ (fun s hs=>hf s (by simp [hs])) hv.2.2⟩
theorem EP (cx:ct G β bx w X) {x y:AV} {u:Value} (hd:fz bx x=some y) (h:ah β bx w (be β bx w X) x u):
 Ext β bx w β (x.cz bx) w∧ct G β (x.cz bx) w X∧ah β (x.cz bx) w (be β (x.cz bx) w X) y u:=by
 cases x with
 |cl es=>
  simp only [fz,osI] at hd;subst hd
  obtain ⟨g1,g2,g3⟩:=Av (y:=.sl es) cx rfl h
  exact ⟨g1,g2,by simpa [ah] using g3⟩
 |ow b sz n=>
  simp only [fz,Option.map_eq_some_iff] at hd
  obtain ⟨z,h1,rfl⟩:=hd
  obtain ⟨g1,g2,g3⟩:=Av cx h1 h
  exact ⟨g1,g2,by simpa [ah] using g3⟩
 |vw b sz off n c ex=>
  simp only [fz,Option.map_eq_some_iff] at hd
  obtain ⟨es,h1,rfl⟩:=hd
  obtain ⟨g1,g2,g3⟩:=jN cx h1 h
  exact ⟨g1,g2,by simpa [ah,aK] using g3⟩
 |_=>simp only [fz,osI] at hd;subst hd;exact ⟨Ext.refl _ _ _,cx,h⟩
theorem GN {x y z:AV} (h:fz bx x=some y):fz (z.cz bx) x=some y:=by
 cases x with
 |ow b sz n=>
  simp only [fz,Option.map_eq_some_iff] at h ⊢
  obtain ⟨q,h1,h2⟩:=h
  exact ⟨q,Di h1,h2⟩
 |vw b sz off n c ex=>
  simp only [fz,Option.map_eq_some_iff] at h ⊢
  obtain ⟨q,h1,h2⟩:=h
  refine ⟨q,?_,h2⟩
  simp only [AV.rows] at h1 ⊢
  split at h1
  ·rename_i s es hb
   rcases ve (z:=z) (.inl hb) with g|g<;>simp [g,h1]
  ·rename_i s es hb
   rcases ve (z:=z) (.inr hb) with g|g<;>simp [g,h1]
  simp at h1
 |_=>exact h
theorem xx {z:AV}:∀{xs ys:List AV},JD bx xs=some ys→JD (z.cz bx) xs=some ys
 |[],ys,h=>h
 |x::xs,ys,h=>by
  simp only [JD] at h ⊢
  split at h
  ·rename_i y ys' hy hys
   rw [GN hy,xx hys];exact h
  simp at h
theorem JV {x y z:AV} (h:qN bx x=some y):qN (z.cz bx) x=some y:=by
 cases x with
 |agg cs=>
  simp only [qN,Option.map_eq_some_iff] at h ⊢
  obtain ⟨q,h1,h2⟩:=h
  exact ⟨q,xx h1,h2⟩
 |_=>simp only [qN] at h ⊢;exact GN h
theorem uh {z:AV}:∀{xs ys:List AV},eP bx xs=some ys→eP (z.cz bx) xs=some ys
 |[],ys,h=>h
 |x::xs,ys,h=>by
  simp only [eP] at h ⊢
  split at h
  ·rename_i y ys' hy hys
   rw [JV hy,uh hys];exact h
  simp at h
theorem yL {xs ys:List AV}:∀(zs:List AV) (bx:List ax),eP bx xs=some ys→eP (dY bx zs) xs=some ys
 |[],_,h=>h
 |_::zs,_,h=>yL zs _ (uh h)
theorem GO {xs ys:List AV} {z:AV} (h:eP bx xs=some ys):eP (mz bx z) xs=some ys:=by
 cases z with
 |agg cs=>exact yL cs bx h
 |_=>simp only [mz];exact uh h
theorem GP:∀(xs:List AV) (bx:List ax) (ys:List AV) (vs:List Value),ct G β bx w X→JD bx xs=some ys→aj β bx w (be β bx w X) xs vs→
 Ext β bx w β (dY bx xs) w∧ct G β (dY bx xs) w X∧aj β (dY bx xs) w (be β (dY bx xs) w X) ys vs
 |[],bx,ys,vs,cx,hd,h=>by simp [JD] at hd;subst hd;exact ⟨Ext.refl _ _ _,cx,by simpa [dY] using h⟩
 |x::xs,bx,ys,vs,cx,hd,h=>by
  simp only [JD] at hd
  split at hd
  ·rename_i y ys' hy hys
   simp at hd;subst hd
   simp only [aj] at h
   obtain ⟨u,us,rfl,g1,g2⟩:=h
   obtain ⟨e1,c1,r1⟩:=EP cx hy g1
   obtain ⟨e2,c2,r2⟩:=GP xs (x.cz bx) ys' us c1 (xx hys) (aj.mono (e1.dQ X) _ _ g2)
   refine ⟨e1.trans e2,c2,?_⟩
   simp only [dY,aj]
   exact ⟨u,us,rfl,ah.mono (e2.dQ X) _ _ r1,r2⟩
  simp at hd
theorem Dm (cx:ct G β bx w X) {x y:AV} {u:Value} (hd:qN bx x=some y) (h:ah β bx w (be β bx w X) x u):
 Ext β bx w β (mz bx x) w∧ct G β (mz bx x) w X∧ah β (mz bx x) w (be β (mz bx x) w X) y u:=by
 cases x with
 |agg cs=>
  simp only [qN,Option.map_eq_some_iff] at hd
  obtain ⟨ys,h1,rfl⟩:=hd
  simp only [ah] at h
  obtain ⟨vs,rfl,hvs⟩:=h
  obtain ⟨g1,g2,g3⟩:=GP cs bx ys vs cx h1 hvs
  exact ⟨g1,g2,by simp only [ah];exact ⟨vs,rfl,g3⟩⟩
 |_=>simp only [qN] at hd;simp only [mz];exact EP cx hd h
theorem mr:∀(xs:List AV) (bx:List ax) (ys:List AV) (vs:List Value),ct G β bx w X→eP bx xs=some ys→aj β bx w (be β bx w X) xs vs→
 Ext β bx w β (eF bx xs) w∧ct G β (eF bx xs) w X∧aj β (eF bx xs) w (be β (eF bx xs) w X) ys vs
 |[],bx,ys,vs,cx,hd,h=>by simp [eP] at hd;subst hd;exact ⟨Ext.refl _ _ _,cx,by simpa [eF] using h⟩
 |x::xs,bx,ys,vs,cx,hd,h=>by
  simp only [eP] at hd
  split at hd
  ·rename_i y ys' hy hys
   simp at hd;subst hd
   simp only [aj] at h
   obtain ⟨u,us,rfl,g1,g2⟩:=h
   obtain ⟨e1,c1,r1⟩:=Dm cx hy g1
   obtain ⟨e2,c2,r2⟩:=mr xs (mz bx x) ys' us c1 (GO hys) (aj.mono (e1.dQ X) _ _ g2)
   refine ⟨e1.trans e2,c2,?_⟩
   simp only [eF,aj]
   exact ⟨u,us,rfl,ah.mono (e2.dQ X) _ _ r1,r2⟩
  simp at hd
theorem Mm {x y:AV} (h:fz [] x=some y) (bx:List ax):x.cz bx=bx:=by
 cases x with
 |ow b sz n=>simp [fz,AV.tD] at h
 |vw b sz off n c ex=>simp [fz,AV.rows] at h
 |_=>rfl
theorem GQ:∀{xs ys:List AV} (bx:List ax),JD [] xs=some ys→dY bx xs=bx
 |[],_,_,_=>rfl
 |x::xs,ys,bx,h=>by
  simp only [JD] at h
  split at h
  ·rename_i y ys' hy hys
   simp only [dY,Mm hy bx];exact GQ bx hys
  simp at h
theorem jO:∀{xs ys:List AV} (bx:List ax),eP [] xs=some ys→eF bx xs=bx
 |[],_,_,_=>rfl
 |x::xs,ys,bx,h=>by
  simp only [eP] at h
  split at h
  ·rename_i y ys' hy hys
   have:mz bx x=bx:=by
    cases x with
    |agg cs=>
     simp only [qN,Option.map_eq_some_iff] at hy
     obtain ⟨q,h1,_⟩:=hy
     exact GQ bx h1
    |_=>simp only [qN] at hy;simp only [mz];exact Mm hy bx
   simp only [eF,this];exact jO bx hys
  simp at h
def rf (β:Nat→Nat) (bx:List ax) (X:Nat→Prop) (aB:Nat):Prop:=X aB∨∃i b,bx[i]?=some b∧b.live=true∧β i=aB
theorem GR (cx:ct G β bx w X):ct G β [] w (rf β bx X):=by
 refine ⟨?_,?_,by simp,by simp,by simp⟩
 ·rintro aB (h|⟨i,b,h1,h2,rfl⟩)
  ·exact cx.xs aB h
  exact dA.eL (cx.box i b h1) h2
 intro g ds hg
 obtain ⟨h1,h2⟩:=cx.Ar g ds hg
 have key:∀aB,be β bx w X aB→be β [] w (rf β bx X) aB:=by
  rintro aB ⟨k1,k2,k3⟩
  refine ⟨k1,?_,by simp⟩
  rintro (h|⟨i,b,e1,e2,e3⟩)
  ·exact k2 h
  exact k3 i b e1 e2 e3
 exact ⟨key g h1,aY.mono (fun aB hb=>⟨key aB hb,rfl⟩) g (fun _=>rfl) _ _ h2⟩
theorem GS (aB:Nat) (h:be β bx w X aB):be β [] w (rf β bx X) aB:=by
 obtain ⟨k1,k2,k3⟩:=h
 refine ⟨k1,?_,by simp⟩
 rintro (h|⟨i,b,e1,e2,e3⟩)
 ·exact k2 h
 exact k3 i b e1 e2 e3
theorem vz {β':Nat→Nat} {aG:List ax} {w':World} (ex:Ext β [] w β' aG w'):Ext β bx w β bx w':=
 ⟨ex.os,ex.tape,ex.output,ex.size,fun k hk _=>ex.block k hk (by simp),ex.shape,fun i hi=>⟨rfl,hi⟩,fun i b h1 h2=>.inr ⟨i,b,h1,h2,rfl⟩⟩
theorem P2 {β':Nat→Nat} {aG:List ax} {w':World} (cx:ct G β bx w X) (ex:Ext β [] w β' aG w'):ct G β bx w' X:=
 cx.step (vz ex) (fun i b h=>.inl ⟨h,fun hl=>ex.block _ (dA.eL (cx.box i b h) hl) (by simp)⟩) cx.inj
theorem Tk {β':Nat→Nat} {w':World} {sz n:Nat} {es:List (List D)} {tH:List ax} {u:Value} (cx:ct G β bx w X) (ex:Ext β [] w β' [.row sz es] w') (nP:ct G β' [.row sz es] w' (rf β tH X))
 (hv:(∀r∈es,∀x∈r,x.flat=true)∨tH=bx) (hr:ah β' [.row sz es] w' (be β' [.row sz es] w' (rf β tH X)) (.ow 0 sz n) u):
 Ext β bx w (lq β bx.length (β' 0)) (bx++[.row sz es]) w'∧ct G (lq β bx.length (β' 0)) (bx++[.row sz es]) w' X∧
  ah (lq β bx.length (β' 0)) (bx++[.row sz es]) w' (be (lq β bx.length (β' 0)) (bx++[.row sz es]) w' X) (.ow bx.length sz n) u:=by
 have e0:=vz (bx:=bx) ex
 have hnew:ax.live (.row sz es)=true→w.heap.size≤β' 0:=by
  intro hl
  rcases ex.live 0 (.row sz es) rfl hl with h|⟨j,b',h1,_⟩
  ·exact h
  simp at h1
 have hold:∀i b,bx[i]?=some b→lq β bx.length (β' 0) i=β i:=by
  intro i b h
  exact cQ _ _ (by have:=iS h;omega)
 have e1:Ext β bx w (lq β bx.length (β' 0)) (bx++[.row sz es]) w':=by
  refine ⟨e0.os,e0.tape,e0.output,e0.size,e0.block,e0.shape,?_,?_⟩
  ·rintro i ⟨b,h1,h2⟩
   exact ⟨hold i b h1,b,eB h1,h2⟩
  intro i b h hl
  rcases bw h with ⟨h1,_⟩|⟨rfl,rfl⟩
  ·exact .inr ⟨i,b,h1,hl,(hold i b h1).symm⟩
  exact .inl (by rw [bt];exact hnew hl)
 have hlt:∀i b,bx[i]?=some b→b.live=true→β i<w.heap.size:=fun i b h hl=>dA.eL (cx.box i b h) hl
 have hok:tH=bx→∀aB,be β' [.row sz es] w' (rf β tH X) aB→be (lq β bx.length (β' 0)) (bx++[.row sz es]) w' X aB:=by
  rintro rfl aB ⟨k1,k2,k3⟩
  refine ⟨k1,fun hX=>k2 (.inl hX),?_⟩
  intro i b h hl
  rcases bw h with ⟨h1,_⟩|⟨rfl,rfl⟩
  ·rw [hold i b h1];exact fun he=>k2 (.inr ⟨i,b,h1,hl,he⟩)
  rw [bt];exact k3 0 _ rfl hl
 refine ⟨e1,cx.step e1 ?_ ?_,?_⟩
 ·intro i b h
  rcases bw h with ⟨h1,_⟩|⟨rfl,rfl⟩
  ·exact .inl ⟨h1,fun hl=>ex.block _ (hlt i b h1 hl) (by simp)⟩
  refine .inr ?_
  have:=nP.box 0 _ rfl
  rw [bt]
  simp only [dA] at this ⊢
  refine this.imp id ?_
  rintro ⟨c,e,h1,h2⟩
  refine ⟨c,e,h1,?_⟩
  rcases hv with hfl|hb
  ·exact py _ _ hfl h2
  exact av.mono (fun aB hb'=>⟨hok hb aB hb',rfl⟩) _ _ (fun _=>rfl) _ _ h2
 ·intro i j bi bj hi hj oc qB he
  rcases bw hi with ⟨h1,_⟩|⟨rfl,rfl⟩<;>rcases bw hj with ⟨h2,_⟩|⟨rfl,rfl⟩
  ·rw [hold i bi h1,hold j bj h2] at he
   exact cx.inj i j bi bj h1 h2 oc qB he
  ·rw [hold i bi h1,bt] at he
   have:=hlt i bi h1 oc;have:=hnew qB;omega
  ·rw [hold j bj h2,bt] at he
   have:=hlt j bj h2 qB;have:=hnew oc;omega
  rfl
 simp only [ah] at hr ⊢
 obtain ⟨_,h2⟩:=hr
 refine ⟨⟨_,by simp;rfl,rfl⟩,?_⟩
 rw [bt];exact h2
theorem JW {f:Nat} {args:List AV} {vs:List Value} {K:AV→List ax→Prop} (cx:ct G β bx w X) (hx:aj β bx w (be β bx w X) args vs)
 (h:Gl (bg P G) f args bx K):
 jD P f ⟨vs⟩ w fun e w'=>∃β' aG v u,e=.returned u∧Ext β bx w β' aG w'∧ct G β' aG w' X∧ah β' aG w' (be β' aG w' X) v u∧K v aG:=by
 obtain ⟨_,hz,hs,h⟩:=h
 obtain ⟨e1,c1,r1⟩:=mr args bx _ vs cx hz hx
 have cn:=GR c1
 have hn:aj β [] w (be β [] w (rf β (eF bx args) X)) _ vs:=mq (fun aB hb=>GS aB hb) _ _ hs r1
 rcases h with ⟨v,hf,hv,hK⟩|⟨sz,n,es,hf,hv,hK⟩
 ·refine jD.mono (hf β w vs _ cn hn) ?_
  rintro e w' ⟨β',ex,nP,hr⟩
  cases e with
  |returned u=>
   refine ⟨β,bx,v,u,rfl,vz ex,P2 cx ex,?_,hK⟩
   rcases hv with hfl|⟨GU,hsh⟩
   ·exact GM v u hfl hr
   rw [jO bx GU] at hr
   refine qZ ?_ v u hsh hr
   rintro aB ⟨k1,k2,_⟩
   exact ⟨k1,fun hX=>k2 (.inl hX),fun i b hb hl he=>k2 (.inr ⟨i,b,hb,hl,he⟩)⟩
  |_=>exact hr.elim
 refine jD.mono (hf β w vs _ cn hn) ?_
 rintro e w' ⟨β',ex,nP,hr⟩
 cases e with
 |returned u=>
  simp only [fC] at hr
  obtain ⟨x1,x2,x3⟩:=Tk cx ex nP (by
   rcases hv with hfl|GU
   ·exact .inl hfl
   refine .inr ?_
   rw [jO bx GU]) hr
  exact ⟨_,_,_,u,rfl,x1,x2,x3,hK⟩
 |_=>exact hr.elim
end
end Dem
end
section
open Go
namespace Dem
section
variable {P:Program} {G:Nat→Option (List D)} {β β':Nat→Nat} {bx aG:List ax} {w w':World} {X:Nat→Prop}
theorem mJ {i:Nat} (h:Pz bx i=true):bV bx i:=by
 unfold Pz at h
 split at h
 ·rename_i b hb;exact ⟨b,hb,h⟩
 cases h
mutual
theorem Dn {ok ok':Nat→Prop} {jz:List ax} {dt:Bool} (h:∀b,bV jz b→β' b=β b∧bV aG b) (hd:dt=true→∀d v,aK w ok d v→aK w' ok' d v):∀(x:AV) (v:Value),x.loose dt=true→x.bL jz=true→ah β bx w ok x v→ah β' aG w' ok' x v
 |.any,_,_,_,_=>by simp [ah]
 |.d y,v,hs,_,hv=>by
  simp only [ah] at hv ⊢
  cases hdt:dt with
  |true=>exact hd hdt y v hv
  |false=>subst hdt;cases y<;>simp [AV.loose] at hs<;>simpa [aK] using hv
 |.k c,v,_,_,hv=>by simpa [ah] using hv
 |.agg cs,v,hs,hn,hv=>by
  simp only [ah] at hv ⊢;obtain ⟨vs,h1,h2⟩:=hv
  exact ⟨vs,h1,mK h hd cs vs (by simpa [AV.loose] using hs) (by simpa [AV.bL] using hn) h2⟩
 |.dF cs,v,hs,_,hv=>by simp [AV.loose] at hs
 |.ptr b off,v,_,hn,hv=>by
  have g:=mJ (by simpa [AV.bL] using hn)
  simp only [ah] at hv ⊢;obtain ⟨e,_⟩:=hv;exact ⟨by rw [(h b g).1];exact e,(h b g).2⟩
 |.rp b sz i j,v,_,hn,hv=>by
  have g:=mJ (by simpa [AV.bL] using hn)
  simp only [ah] at hv ⊢;obtain ⟨e,_⟩:=hv;exact ⟨by rw [(h b g).1];exact e,(h b g).2⟩
 |.ow _ _ _,_,hs,_,_=>by simp [AV.loose] at hs
 |.Ai _,_,hs,_,_=>by simp [AV.loose] at hs
 |.vw _ _ _ _ _ _,_,hs,_,_=>by simp [AV.loose] at hs
 |.ep _,_,hs,_,_=>by simp [AV.loose] at hs
 |.cl _,_,hs,_,_=>by simp [AV.loose] at hs
 |.fn f cs,v,hs,hn,hv=>by
  simp only [ah] at hv ⊢;obtain ⟨vs,h1,h2⟩:=hv
  exact ⟨vs,h1,mK h hd cs vs (by simpa [AV.loose] using hs) (by simpa [AV.bL] using hn) h2⟩
 |.tC t x,v,hs,hn,hv=>by
  simp only [ah] at hv ⊢;obtain ⟨u,h1,h2⟩:=hv
  exact ⟨u,h1,Dn h hd x u (by simpa [AV.loose] using hs) (by simpa [AV.bL] using hn) h2⟩
 |.cond _ _,_,hs,_,_=>by simp [AV.loose] at hs
theorem mK {ok ok':Nat→Prop} {jz:List ax} {dt:Bool} (h:∀b,bV jz b→β' b=β b∧bV aG b) (hd:dt=true→∀d v,aK w ok d v→aK w' ok' d v):∀(xs:List AV) (vs:List Value),AV.nM dt xs=true→AV.bL.cL jz xs=true→aj β bx w ok xs vs→aj β' aG w' ok' xs vs
 |[],vs,_,_,hv=>by simpa [aj] using hv
 |x::xs,vs,hs,hn,hv=>by
  simp only [aj] at hv ⊢
  obtain ⟨u,us,h1,h2,h3⟩:=hv
  simp only [AV.nM] at hs
  simp only [AV.bL.cL,Bool.and_eq_true] at hn
  cases hx:x.loose dt with
  |false=>simp [hx] at hs
  |true=>
   simp only [hx,cond_true] at hs
   exact ⟨u,us,h1,Dn h hd x u hx hn.1 h2,mK h hd xs us hs hn.2 h3⟩
end
mutual
theorem xy {ok ok':Nat→Prop} {jz:List ax} (h:∀aB,ok aB→ok' aB):∀(x:AV) (v:Value),x.bL jz=true→ah β bx w ok x v→ah β jz w ok' x v
 |.any,_,_,_=>by simp [ah]
 |.d x,v,_,hv=>by simp only [ah] at hv ⊢;exact aK.mono (fun aB hb=>⟨h aB hb,rfl⟩) _ _ hv
 |.k c,v,_,hv=>by simpa [ah] using hv
 |.agg cs,v,hs,hv=>by
  simp only [ah] at hv ⊢;obtain ⟨vs,h1,h2⟩:=hv
  exact ⟨vs,h1,mL h cs vs (by simpa [AV.bL] using hs) h2⟩
 |.dF cs,v,hs,hv=>by
  simp only [ah] at hv ⊢;obtain ⟨vs,h1,h2⟩:=hv
  exact ⟨vs,h1,mL h cs vs (by simpa [AV.bL] using hs) h2⟩
 |.ptr b off,v,hs,hv=>by
  have g:=mJ (by simpa [AV.bL] using hs)
  simp only [ah] at hv ⊢;exact ⟨hv.1,g⟩
 |.rp b sz i j,v,hs,hv=>by
  have g:=mJ (by simpa [AV.bL] using hs)
  simp only [ah] at hv ⊢;exact ⟨hv.1,g⟩
 |.Ai b,v,hs,hv=>by
  have g:=mJ (by simpa [AV.bL] using hs)
  simp only [ah] at hv ⊢;exact ⟨hv.1,g⟩
 |.ow b sz m,v,hs,hv=>by
  have g:=mJ (by simpa [AV.bL] using hs)
  simp only [ah] at hv ⊢;exact ⟨g,hv.2⟩
 |.vw b sz off m c ex,v,hs,hv=>by
  have g:=mJ (by simpa [AV.bL] using hs)
  simp only [ah] at hv ⊢;exact ⟨g,hv.2⟩
 |.ep ds,v,_,hv=>by
  simp only [ah] at hv ⊢;obtain ⟨aB,off,h1,h2,h3⟩:=hv
  exact ⟨aB,off,h1,h aB h2,aY.mono (fun aB hb=>⟨h aB hb,rfl⟩) aB (fun _=>rfl) _ _ h3⟩
 |.cl es,v,_,hv=>by
  simp only [ah] at hv ⊢;obtain ⟨base,h1,h2⟩:=hv
  refine ⟨base,h1,h2.imp id ?_⟩
  rintro ⟨aB,off,sz,e1,e2,e3⟩
  exact ⟨aB,off,sz,e1,h aB e2,av.mono (fun aB hb=>⟨h aB hb,rfl⟩) aB sz (fun _=>rfl) _ _ e3⟩
 |.fn f cs,v,hs,hv=>by
  simp only [ah] at hv ⊢;obtain ⟨vs,h1,h2⟩:=hv
  exact ⟨vs,h1,mL h cs vs (by simpa [AV.bL] using hs) h2⟩
 |.tC t x,v,hs,hv=>by
  simp only [ah] at hv ⊢;obtain ⟨u,h1,h2⟩:=hv
  exact ⟨u,h1,xy h x u (by simpa [AV.bL] using hs) h2⟩
 |.cond p x,v,hs,hv=>by
  simp only [ah] at hv ⊢
  exact ⟨fun hp=>xy h x v (by simpa [AV.bL] using hs) (hv.1 hp),hv.2⟩
theorem mL {ok ok':Nat→Prop} {jz:List ax} (h:∀aB,ok aB→ok' aB):∀(xs:List AV) (vs:List Value),AV.bL.cL jz xs=true→aj β bx w ok xs vs→aj β jz w ok' xs vs
 |[],vs,_,hv=>by simpa [aj] using hv
 |x::xs,vs,hs,hv=>by
  simp only [aj] at hv ⊢
  obtain ⟨u,us,h1,h2,h3⟩:=hv
  simp only [AV.bL.cL,Bool.and_eq_true] at hs
  exact ⟨u,us,h1,xy h x u hs.1 h2,mL h xs us hs.2 h3⟩
end
theorem mM {dt:Bool} {jz:List ax}:∀{bs:List ax} {i:Nat} {b:ax},dI dt jz bs=true→bs[i]?=some b→(∃cs,b=.var cs∧AV.nM dt cs=true∧AV.bL.cL jz cs=true)∨b=.dead∨b=.bA
 |[],i,b,_,hi=>by simp at hi
 |b0::bs,i,b,h,hi=>by
  have hr:dI dt jz bs=true∧((∃cs,b0=.var cs∧AV.nM dt cs=true∧AV.bL.cL jz cs=true)∨b0=.dead∨b0=.bA):=by
   cases b0 with
   |var cs=>
    simp only [dI] at h
    cases hc:(AV.nM dt cs&&AV.bL.cL jz cs) with
    |false=>simp [hc] at h
    |true=>simp only [hc,cond_true] at h;simp at hc;exact ⟨h,.inl ⟨cs,rfl,hc.1,hc.2⟩⟩
   |dead=>exact ⟨h,.inr (.inl rfl)⟩
   |bA=>exact ⟨h,.inr (.inr rfl)⟩
   |_=>simp [dI] at h
  cases i with
  |zero=>simp only [List.getElem?_cons_zero,osI] at hi;subst hi;exact hr.2
  |succ i=>simp only [List.getElem?_cons_succ] at hi;exact mM hr.1 hi
theorem AJ {x:AV} {i:Nat} {b:ax} (h:(x.cz bx)[i]?=some b):bx[i]?=some b∨∃s es,bx[i]?=some (.row s es)∧b=.oh s es:=by
 have go:∀k:Nat,(match bx[k]? with|some (.row s es)=>bx.set k (.oh s es)|_=>bx)[i]?=some b→bx[i]?=some b∨∃s es,bx[i]?=some (.row s es)∧b=.oh s es:=by
  intro k h
  split at h
  ·rename_i s es hk
   rcases aL h with ⟨rfl,rfl,_⟩|⟨_,h2⟩
   ·exact .inr ⟨s,es,hk,rfl⟩
   exact .inl h2
  exact .inl h
 cases x with
 |ow k _ _=>exact go k h
 |vw k _ _ _ _ _=>exact go k h
 |_=>exact .inl h
theorem Dp:∀{xs:List AV} {bx:List ax} {i:Nat} {b:ax},(dY bx xs)[i]?=some b→bx[i]?=some b∨∃s es,bx[i]?=some (.row s es)∧b=.oh s es
 |[],_,_,_,h=>.inl h
 |x::xs,bx,i,b,h=>by
  rcases Dp (xs:=xs) (bx:=x.cz bx) h with h1|⟨s,es,h1,rfl⟩
  ·exact AJ h1
  rcases AJ h1 with h2|⟨_,_,_,h3⟩
  ·exact .inr ⟨s,es,h2,rfl⟩
  cases h3
theorem uj:∀{xs:List AV} {bx:List ax} {i:Nat} {b:ax},(eF bx xs)[i]?=some b→bx[i]?=some b∨∃s es,bx[i]?=some (.row s es)∧b=.oh s es
 |[],_,_,_,h=>.inl h
 |x::xs,bx,i,b,h=>by
  have one:∀{b:ax},(mz bx x)[i]?=some b→bx[i]?=some b∨∃s es,bx[i]?=some (.row s es)∧b=.oh s es:=by
   intro b h
   cases x with
   |agg cs=>exact Dp h
   |_=>simp only [mz] at h;exact AJ h
  rcases uj (xs:=xs) (bx:=mz bx x) h with h1|⟨s,es,h1,rfl⟩
  ·exact one h1
  rcases one h1 with h2|⟨_,_,_,h3⟩
  ·exact .inr ⟨s,es,h2,rfl⟩
  cases h3
theorem yM {f:Nat} {args:List AV} {vs:List Value} {v:AV} (cx:ct G β bx w X) (hx:aj β bx w (be β bx w X) args vs) (h:nk (bg P G) f args bx v):
 jD P f ⟨vs⟩ w fun e w'=>∃u,e=.returned u∧Ext β bx w β bx w'∧ct G β bx w' X∧ah β bx w' (be β bx w' X) v u:=by
 obtain ⟨oA,jz,hz,hnm,⟨dt,hl,hdt⟩,hin,hf,hv⟩:=h
 obtain ⟨e1,cxS,hargs⟩:=mr args bx oA vs cx hz hx
 have cr:∀(i:Nat) (b:ax),jz[i]?=some b→b.live=true→bx[i]?=some b:=by
  intro i b hi hb
  obtain ⟨b',h1,h2,h3⟩:=hin i b hi (sy hb)
  rw [h3 hb] at h1;exact h1
 have dj:∀i,bV jz i→bV bx i:=by
  rintro i ⟨b,h1,h2⟩
  obtain ⟨b',h3,h4,_⟩:=hin i b h1 h2
  exact ⟨b',h3,h4⟩
 have Wm:∀(i:Nat) (b:ax),(eF bx args)[i]?=some b→b.live=true→bx[i]?=some b:=by
  intro i b hi hb
  rcases uj hi with h1|⟨s,es,_,rfl⟩
  ·exact h1
  simp [ax.live] at hb
 have VB:∀(i:Nat) (b:ax),jz[i]?=some b→b.live=true→∃cs,b=.var cs∧AV.nM dt cs=true∧AV.bL.cL jz cs=true:=by
  intro i b hi hb
  rcases mM hl hi with h1|rfl|rfl
  ·exact h1
  ·simp [ax.live] at hb
  simp [ax.live] at hb
 let XV:Nat→Prop:=fun aB=>X aB∨∃(i:Nat) (b:ax),(eF bx args)[i]?=some b∧b.live=true∧(∀b',jz[i]?=some b'→b'.live=false)∧β i=aB
 have hok:∀aB,be β (eF bx args) w X aB→be β jz w XV aB:=by
  rintro aB ⟨k1,k2,k3⟩
  refine ⟨k1,?_,?_⟩
  ·rintro (hX|⟨i,b,h1,h2,_,h3⟩)
   ·exact k2 hX
   exact k3 i b h1 h2 h3
  intro i b hi hb he
  obtain ⟨cs,rfl,_⟩:=VB i b hi hb
  have sB:=cr i _ hi hb
  obtain ⟨_,b',hb',_⟩:=e1.born i ⟨_,sB,rfl⟩
  rcases uj hb' with h4|⟨s,es,h4,_⟩
  ·rw [sB] at h4;cases h4
   exact k3 i _ hb' rfl he
  rw [sB] at h4;cases h4
 have Mn:∀{β1:Nat→Nat} {w':World},eP [] args=some oA→Ext β jz w β1 jz w'→∀aB,be β1 jz w' XV aB→be β bx w' X aB:=by
  rintro β1 w' GU vq aB ⟨k1,k2,k3⟩
  refine ⟨k1,fun hX=>k2 (.inl hX),?_⟩
  intro i b hi hb he
  by_cases hk:∃b',jz[i]?=some b'∧b'.live=true
  ·obtain ⟨b',h1,h2⟩:=hk
   refine k3 i b' h1 h2 ?_
   rw [(vq.born i ⟨b',h1,sy h2⟩).1];exact he
  refine k2 (.inr ⟨i,b,by rw [jO bx GU];exact hi,hb,?_,he⟩)
  intro b' hb'
  cases hq:b'.live with
  |false=>rfl
  |true=>exact absurd ⟨b',hb',hq⟩ hk
 have cxV:ct G β jz w XV:=by
  refine ⟨?_,?_,?_,?_,?_⟩
  ·rintro aB (hX|⟨i,b,h1,h2,_,rfl⟩)
   ·exact cx.xs aB hX
   exact dA.eL (cx.box i b (Wm i b h1 h2)) h2
  ·intro g ds hg
   obtain ⟨k1,k2⟩:=cxS.Ar g ds hg
   exact ⟨hok g k1,aY.mono (fun aB hb=>⟨hok aB hb,rfl⟩) g (fun _=>rfl) _ _ k2⟩
  ·intro i j bi bj hi hj li lj
   exact cx.inj i j bi bj (cr i bi hi li) (cr j bj hj lj) li lj
  ·intro i b hi
   rcases mM hl hi with ⟨cs,rfl,hcs,gX⟩|rfl|rfl
   ·have hb:=cx.box i _ (cr i _ hi rfl)
    simp only [dA] at hb ⊢
    obtain ⟨c,e,g1,g2⟩:=hb
    exact ⟨c,e,g1,mK (jz:=jz) (fun b hb=>⟨rfl,hb⟩) (fun hd d v hv=>aK.mono (fun aB hb=>⟨hok aB (by rw [jO bx (hdt hd)];exact hb),rfl⟩) d v hv) cs _ hcs gX g2⟩
   ·trivial
   trivial
  intro i b hi hb
  rintro (hX|⟨j,b2,h1,h2,h3,h4⟩)
  ·exact cx.apart i b (cr i b hi hb) hb hX
  have:j=i:=cx.inj j i b2 b (Wm j b2 h1 h2) (cr i b hi hb) h2 hb h4
  subst this
  rw [h3 b hi] at hb;cases hb
 have Wo:aj β jz w (be β jz w XV) oA vs:=mL hok _ _ hnm hargs
 refine jD.mono (hf β w vs XV cxV Wo) ?_
 rintro e w' ⟨β1,vq,Yu,hres⟩
 have ex:Ext β bx w β bx w':=⟨vq.os,vq.tape,vq.output,vq.size,fun k hk hn=>vq.block k hk (fun i b hi hb=>hn i b (cr i b hi hb) hb),vq.shape,fun i hi=>⟨rfl,hi⟩,fun i b h1 h2=>.inr ⟨i,b,h1,h2,rfl⟩⟩
 cases e with
 |returned u=>
  refine ⟨u,rfl,ex,cx.step ex ?_ cx.inj,?_⟩
  ·intro i b hi
   by_cases hk:∃b',jz[i]?=some b'∧b'.live=true
   ·obtain ⟨b',h1,h2⟩:=hk
    have h3:=cr i b' h1 h2
    rw [hi] at h3;cases h3
    obtain ⟨cs,rfl,hcs,gX⟩:=VB i b h1 h2
    refine .inr ?_
    have hb:=Yu.box i _ h1
    simp only [dA] at hb ⊢
    obtain ⟨c,e,g1,g2⟩:=hb
    have zT:bV jz i:=⟨_,h1,rfl⟩
    rw [(vq.born i zT).1] at g1
    exact ⟨c,e,g1,mK (jz:=jz) (fun b hb=>⟨((vq.born b hb).1).symm,dj b hb⟩) (fun hd d v hv=>aK.mono (fun aB hb=>⟨Mn (hdt hd) vq aB hb,rfl⟩) d v hv) cs _ hcs gX g2⟩
   refine .inl ⟨hi,fun hlv=>vq.block _ (dA.eL (cx.box i b hi) hlv) ?_⟩
   intro j b2 hj CL he
   have:=cx.inj j i b2 b (cr j b2 hj CL) hi CL hlv he
   subst this
   exact hk ⟨b2,hj,CL⟩
  rcases hv with hfl|⟨GU,hsh⟩
  ·exact GM v u hfl hres
  refine qZ ?_ v u hsh hres
  rintro aB ⟨k1,k2,k3⟩
  refine ⟨k1,fun hX=>k2 (.inl hX),?_⟩
  intro i b hi hb he
  by_cases hk:∃b',jz[i]?=some b'∧b'.live=true
  ·obtain ⟨b',h1,h2⟩:=hk
   refine k3 i b' h1 h2 ?_
   rw [(vq.born i ⟨b',h1,sy h2⟩).1];exact he
  refine k2 (.inr ⟨i,b,by rw [jO bx GU];exact hi,hb,?_,he⟩)
  intro b' hb'
  cases hq:b'.live with
  |false=>rfl
  |true=>exact absurd ⟨b',hb',hq⟩ hk
 |panicked ch=>exact hres.elim
 |outgrown=>exact hres.elim
theorem lG {f:Nat} {args:List AV} {vs:List Value} {v:AV} {K:AV→List ax→Prop} (cx:ct G β bx w X) (hx:aj β bx w (be β bx w X) args vs) (h:nk (bg P G) f args bx v) (hK:K v bx):
 jD P f ⟨vs⟩ w fun e w'=>∃β' aG v u,e=.returned u∧Ext β bx w β' aG w'∧ct G β' aG w' X∧ah β' aG w' (be β' aG w' X) v u∧K v aG:=
 jD.mono (yM cx hx h) fun _ _ ⟨u,h1,h2,h3,h4⟩=>⟨β,bx,v,u,h1,h2,h3,h4,hK⟩
end
end Dem
end
section
open Go
namespace Dem
section
variable {P:Program} {T:Nat→Option TI} {G:Nat→Option (List D)} {β:Nat→Nat} {bx:List ax} {w:World} {X:Nat→Prop}
theorem P3 {a b:D} (h:qf a b=true):a=b:=by
 cases a<;>cases b<;>simp [qf] at h
 ·rw [h.1,h.2]
 rw [h]
theorem GV {d:TypeDesc} {a b:D} {u v:Value} {ok:Nat→Prop} (ha:om (cJ d) a=true) (hb:om (cJ d) b=true) (hu:aK w ok a u) (hv:aK w ok b v):Instr.sameNow d u v=some (qf a b):=by
 cases d<;>cases a<;>simp [cJ,om] at ha<;>cases b<;>simp [cJ,om] at hb<;>simp only [aK] at hu hv<;>subst hu hv
 ·subst ha hb;simp only [Instr.sameNow,qf,if_true,beq_self_eq_true,Bool.true_and];congr 1
 rename_i a b
 have:(⟨a.toArray⟩:ByteArray)=⟨b.toArray⟩↔a=b:=by
  constructor
  ·intro h;simpa using h
  rintro rfl;rfl
 by_cases h:a=b
 ·subst h;simp only [Instr.sameNow,qf];congr 1;show (a.toArray==a.toArray)=decide True;simp
 have h2:¬((⟨a.toArray⟩:ByteArray)=⟨b.toArray⟩):=fun e=>h (this.1 e)
 simp only [Instr.sameNow,qf];congr 1;show (a.toArray==b.toArray)=decide (a=b);rw [show decide (a=b)=false by simp [h]];exact beq_eq_false_iff_ne.2 (fun e=>h (by simpa using e))
theorem Nx {kd:Kd} {a:D} {u v:Value} {ok:Nat→Prop} (ha:om kd a=true) (hu:aK w ok a u) (hv:aK w ok a v):u=v:=by
 cases a<;>cases kd<;>simp [om] at ha<;>simp only [aK] at hu hv<;>rw [hu,hv]
theorem ri {d:TypeDesc} {ag:Bool} {n:Nat} {k:D} {kv:Value} {ok:Nat→Prop} (hk:om (cJ d) k=true) (hkv:aK w ok k kv):
 ∀(es:List (List D)) (ms:List MapEntry) (i:Nat),bp w ok ag es ms→(∀r∈es,rowIs (cJ d) n r)→
  (wY es k=none∧Instr.findNow d kv ms i=some none∧∀v,tE es k v=es++[k::v])∨
  (∃(j:Nat) (m:MapEntry) (ds:List D),Instr.findNow d kv ms i=some (some (i+j,m.val))∧ms[j]?=some m∧wY es k=some ds∧ds.length=n∧m.key=kv∧gR w ok ag (k::ds) m∧∀v,tE es k v=es.set j (k::v))
 |[],ms,i,h,_=>by
  simp only [bp] at h;subst h
  exact .inl ⟨rfl,rfl,fun _=>rfl⟩
 |r::rs,ms,i,h,hr=>by
  simp only [bp] at h
  obtain ⟨m,Ge,rfl,h1,h2⟩:=h
  obtain ⟨x,ds,rfl,hx,hl⟩:=hr r (by simp)
  have Mk:=h1
  simp only [gR] at h1
  obtain ⟨g1,g2⟩:=h1
  have hs:=GV hk hx hkv g1
  simp only [wY,tE,Instr.findNow,hs]
  cases he:qf k x with
  |true=>
   obtain rfl:=P3 he
   refine .inr ⟨0,m,ds,by simp,by simp,by simp,hl,Nx hk g1 hkv,Mk,fun v=>by simp⟩
  |false=>
   simp only [cond_false]
   rcases ri hk hkv rs Ge (i+1) h2 (fun r hr'=>hr r (by simp [hr'])) with ⟨k1,k2,k3⟩|⟨j,m',ds',k1,k2,k3,k4,k5,k6,k7⟩
   ·exact .inl ⟨k1,k2,fun v=>by rw [k3];rfl⟩
   refine .inr ⟨j+1,m',ds',?_,by simpa using k2,k3,k4,k5,k6,fun v=>by rw [k7];rfl⟩
   rw [k1,show i+1+j=i+(j+1) by omega]
theorem run_checkKey {e:Bool} {t:Nat} {d:TypeDesc} {k:D} {kv:Value} {ok:Nat→Prop} (ht:P.underlying t=some d) (hk:om (cJ d) k=true) (hkv:aK w ok k kv):(Instr.checkKey e 10000 t kv).run P w=.ok () w:=by
 show (Instr.checkKey e (9999+1) t kv).run P w=.ok () w
 unfold Instr.checkKey
 cases d<;>cases k<;>simp [cJ,om] at hk<;>simp only [aK] at hkv<;>subst hkv<;>simp [aQ ht]
theorem run_findKey {t:Nat} {d:TypeDesc} {kv:Value} {ms:List MapEntry} {r:Option (Nat×Value)} (ht:P.underlying t=some d) (h:Instr.findNow d kv ms 0=some r):(Instr.findKey t kv ms).run P w=.ok r w:=by
 unfold Instr.findKey
 simp [aQ ht,h]
theorem bp.append {ag:Bool} {ok:Nat→Prop}:∀{es:List (List D)} {ms:List MapEntry} {fs:List (List D)} {ns:List MapEntry},bp w ok ag es ms→bp w ok ag fs ns→bp w ok ag (es++fs) (ms++ns)
 |[],ms,fs,ns,h,g=>by simp only [bp] at h;subst h;exact g
 |r::rs,ms,fs,ns,h,g=>by
  simp only [bp] at h
  obtain ⟨m,Ge,rfl,h1,h2⟩:=h
  simp only [List.cons_append,bp]
  exact ⟨m,_,rfl,h1,h2.append g⟩
theorem bp.set {ag:Bool} {ok:Nat→Prop} {r:List D} {m:MapEntry} (hm:gR w ok ag r m):∀{es:List (List D)} {ms:List MapEntry} (j:Nat),bp w ok ag es ms→bp w ok ag (es.set j r) (ms.set j m)
 |[],ms,j,h=>by simp only [bp] at h;subst h;simp [bp]
 |x::xs,ms,0,h=>by
  simp only [bp] at h
  obtain ⟨m',Ge,rfl,h1,h2⟩:=h
  simp only [List.set_cons_zero,bp]
  exact ⟨m,Ge,rfl,hm,h2⟩
 |x::xs,ms,j+1,h=>by
  simp only [bp] at h
  obtain ⟨m',Ge,rfl,h1,h2⟩:=h
  simp only [List.set_cons_succ,bp]
  exact ⟨m',_,rfl,h1,bp.set hm j h2⟩
theorem cq.Yy {ok:Nat→Prop}:∀{ds:List D} {vs:List Value},cq w ok ds vs→aj β bx w ok (ds.map .d) vs
 |[],vs,h=>by simp only [cq] at h;subst h;simp [aj]
 |d::ds,vs,h=>by
  simp only [cq] at h
  obtain ⟨v,r,rfl,h1,h2⟩:=h
  simp only [List.map_cons,aj]
  exact ⟨v,r,rfl,by simpa [ah] using h1,h2.Yy⟩
theorem cq.length {ok:Nat→Prop}:∀{ds:List D} {vs:List Value},cq w ok ds vs→vs.length=ds.length
 |[],vs,h=>by simp only [cq] at h;subst h;rfl
 |d::ds,vs,h=>by
  simp only [cq] at h
  obtain ⟨v,r,rfl,_,h2⟩:=h
  simp [cq.length h2]
theorem gR.val {ag:Bool} {ok:Nat→Prop} {k:D} {ds:List D} {m:MapEntry} (h:gR w ok ag (k::ds) m) {n:Nat} (hn:ds.length=n) {v:AV} (hv:cC ag n (ds.map .d)=some v):ah β bx w ok v m.val:=by
 simp only [gR] at h
 obtain ⟨_,cs,h2,h3,h4⟩:=h
 have hl:=h4.length
 have ha:=h4.Yy (β:=β) (bx:=bx)
 cases ag with
 |true=>
  simp only [cC,cond_true] at hv
  rw [cond_true] at h2
  have hle:Nat.ble n (ds.map AV.d).length=true:=by simp [hn]
  simp only [hle,cond_true,osI] at hv
  subst hv
  rw [h2];simp only [ah]
  refine ⟨cs,rfl,?_⟩
  rw [List.take_of_length_le (by simp [hn])];exact ha
 |false=>
  simp only [cC,cond_false] at hv
  rw [cond_false] at h2
  have h1:=h3 rfl
  obtain ⟨c,rfl⟩:∃c,cs=[c]:=by
   match cs,h1 with
   |[c],_=>exact ⟨c,rfl⟩
  cases ds with
  |nil=>simp at hl
  |cons d ds=>
   simp at hv;subst hv
   rw [h2]
   simp only [List.map_cons,aj] at ha
   obtain ⟨u,us,e,g,_⟩:=ha
   simp at e;obtain ⟨rfl,rfl⟩:=e
   simpa [ah] using g
theorem zW {r c:Nat} {es:Array MapEntry} (h:w.heap[r]?=some (.map es c)):(getObj r).run P w=.ok (.map es c) w:=by simp [getObj,Sem.run,h]
theorem run_setObj_map {r c:Nat} {es:Array MapEntry} (o:Obj) (h:w.heap[r]?=some (.map es c)):(setObj r o).run P w=.ok () {w with heap:=w.heap.setIfInBounds r o}:=by simp [setObj,Sem.run,h]
theorem Dq (hT:iH P T) (cx:ct G β bx w X) {ty:Nat} {m:AV} {u:Value} {tk te:TI} {ag:Bool} {es:List (List D)} (h:Ao T ty m bx=some (tk,te,ag,es)) (hu:ah β bx w (be β bx w X) m u):
 ∃(kt et:Nat) (dk:TypeDesc),P.underlying ty=some (.map kt et)∧P.underlying kt=some dk∧tk.kd=cJ dk∧qz P et=some te∧
  ((u=.map none∧es=[])∨∃r ms clock,u=.map (some r)∧w.heap[r]?=some (.map ms clock)∧mC ms clock∧bp w (be β bx w X) ag es ms.toList):=by
 unfold Ao at h
 split at h
 ·rename_i ti ht
  obtain ⟨i,d,h1,h2,h3,h4,h5,h6⟩:=aJ (hT.ti _ _ ht)
  split at h
  ·rename_i k e hk
   rw [h5] at hk
   cases d<;>simp [cJ] at hk
   obtain ⟨AD,hk2⟩:=hk
   rw [AD,hk2] at h2
   have fin:∀{Pr Wp:TI} {SR:Bool} {es':List (List D)},T k=some Pr→T e=some Wp→(Pr,Wp,SR,es')=(tk,te,ag,es)→
    ((u=.map none∧es=[])∨∃r ms clock,u=.map (some r)∧w.heap[r]?=some (.map ms clock)∧mC ms clock∧bp w (be β bx w X) ag es ms.toList)→∃(kt et:Nat) (dk:TypeDesc),P.underlying ty=some (.map kt et)∧P.underlying kt=some dk∧tk.kd=cJ dk∧qz P et=some te∧
    ((u=.map none∧es=[])∨∃r ms clock,u=.map (some r)∧w.heap[r]?=some (.map ms clock)∧mC ms clock∧bp w (be β bx w X) ag es ms.toList):=by
    intro Pr Wp SR es' a1 a2 a3 a4
    simp only [Prod.mk.injEq] at a3
    obtain ⟨rfl,rfl,rfl,rfl⟩:=a3
    obtain ⟨_,dk,_,b2,_,_,b5,_⟩:=aJ (hT.ti _ _ a1)
    exact ⟨k,e,dk,h2,b2,b5,hT.ti _ _ a2,a4⟩
   split at h
   ·rename_i Pr Wp SR es' a1 a2
    simp only [osI] at h
    refine fin a1 a2 h ?_
    simp only [Prod.mk.injEq] at h
    obtain ⟨rfl,rfl,rfl,rfl⟩:=h
    simp only [ah,aK] at hu
    obtain ⟨r,ms,clock,g1,_,g2,g3,g4⟩:=hu
    exact .inr ⟨r,ms,clock,g1,g2,g3,g4⟩
   ·rename_i Pr Wp a1 a2
    simp only [osI] at h
    refine fin a1 a2 h ?_
    simp only [Prod.mk.injEq] at h
    obtain ⟨rfl,rfl,rfl,rfl⟩:=h
    simp only [ah,KC.val] at hu
    exact .inl ⟨hu,rfl⟩
   ·rename_i Pr Wp b a1 a2
    split at h
    ·rename_i SR es' hb
     simp only [osI] at h
     refine fin a1 a2 h ?_
     simp only [Prod.mk.injEq] at h
     obtain ⟨rfl,rfl,rfl,rfl⟩:=h
     simp only [ah] at hu
     obtain ⟨ms,clock,g2,g3,g4⟩:=cx.box b _ hb
     exact .inr ⟨β b,ms,clock,hu.1,g2,g3,g4⟩
    cases h
   cases h
  cases h
 cases h
theorem JX (hT:iH P T) (cx:ct G β bx w X) {ty:Nat} {m:AV} {u kv:Value} {k:D} {tk te:TI} {ag CI:Bool} {es:List (List D)} (h:Ao T ty m bx=some (tk,te,ag,es)) (hu:ah β bx w (be β bx w X) m u)
 (hkv:aK w (be β bx w X) k kv) (hf:wZ tk te ag es k) {K:AV→Prop} (hK:oX te CI K (wY es k)):
 ∃v x,(Instr.lookup ty u kv CI).run P w=.ok x w∧ah β bx w (be β bx w X) v x∧K v:=by
 obtain ⟨kt,et,dk,u1,u2,u3,u4,hu⟩:=Dq hT cx h hu
 obtain ⟨f1,f2,f3⟩:=hf
 rw [u3] at f2 f3
 have none_:∀ms:Array MapEntry,(∃e:Bool,Instr.findNow dk kv ms.toList 0=some none)→wY es k=none→(u=.map none∧ms=#[]∨∃r clock,u=.map (some r)∧w.heap[r]?=some (.map ms clock))→
  ∃v x,(Instr.lookup ty u kv CI).run P w=.ok x w∧ah β bx w (be β bx w X) v x∧K v:=by
  rintro ms ⟨_,hfn⟩ hg Tl
  rw [hg] at hK
  simp only [oX] at hK
  split at hK
  ·rename_i z hz
   obtain ⟨zv,z1,z2⟩:=GH (β:=β) (bx:=bx) (w:=w) (ok:=be β bx w X) u4 hz
   refine ⟨_,bif CI then .tuple #[zv,.bool false] else zv,?_,?_,hK⟩
   ·rcases Tl with ⟨rfl,rfl⟩|⟨r,clock,rfl,hh⟩
    ·unfold Instr.lookup
     cases CI<;>simp [aQ u1,run_checkKey u2 f2 hkv,run_findKey (w:=w) u2 hfn,z1]
    unfold Instr.lookup
    cases CI<;>simp [aQ u1,zW hh,run_checkKey u2 f2 hkv,run_findKey (w:=w) u2 hfn,z1]
   cases CI with
   |true=>simp only [cond_true,ah,aj,aK];exact ⟨_,rfl,_,_,rfl,z2,_,_,rfl,rfl,rfl⟩
   |false=>exact z2
  exact hK.elim
 rcases hu with ⟨rfl,rfl⟩|⟨r,ms,clock,rfl,hh,hst,VC⟩
 ·exact none_ #[] ⟨true,rfl⟩ rfl (.inl ⟨rfl,rfl⟩)
 rcases ri f2 hkv es ms.toList 0 VC f3 with ⟨k1,k2,_⟩|⟨j,e,ds,k1,k2,k3,k4,k5,k6,_⟩
 ·exact none_ ms ⟨true,k2⟩ k1 (.inr ⟨r,clock,rfl,hh⟩)
 rw [k3] at hK
 simp only [oX] at hK
 split at hK
 ·rename_i v hv
  have hvv:=k6.val (β:=β) (bx:=bx) k4 (by rw [←f1] at hv;exact hv)
  refine ⟨_,bif CI then .tuple #[e.val,.bool true] else e.val,?_,?_,hK⟩
  ·unfold Instr.lookup
   cases CI<;>simp [aQ u1,zW hh,run_checkKey u2 f2 hkv,run_findKey (w:=w) u2 k1]
  cases CI with
  |true=>simp only [cond_true,ah,aj,aK];exact ⟨_,rfl,_,_,rfl,hvv,_,_,rfl,rfl,rfl⟩
  |false=>exact hvv
 exact hK.elim
theorem AK {b:Nat} {B B':ax} {o o':Obj} (hb:bx[b]?=some B) (hl:B.live=true) (hl':B'.live=true) (hh:w.heap[β b]?=some o) (ho:∀c e f,o≠.cells c e f):
 Ext β bx w β (bx.set b B') {w with heap:=w.heap.setIfInBounds (β b) o'}:=by
 refine ⟨rfl,rfl,rfl,by simp,?_,?_,fun i hi=>⟨rfl,ix (sy hl') hi⟩,?_⟩
 ·intro k hk hlk
  have hne:β b≠k:=hlk b _ hb hl
  simp [Array.getElem?_setIfInBounds_ne hne]
 ·intro k c e f hk
  have hne:β b≠k:=by rintro rfl;rw [hh] at hk;cases hk;exact ho c e f rfl
  exact ⟨c,by simp [Array.getElem?_setIfInBounds_ne hne,hk],rfl⟩
 intro i Bi hi oc
 rcases aL hi with ⟨rfl,_,_⟩|⟨_,h⟩
 ·exact .inr ⟨i,_,hb,hl,rfl⟩
 exact .inr ⟨i,Bi,h,oc,rfl⟩
theorem JY (cx:ct G β bx w X) {b:Nat} {B B':ax} {o o':Obj} (hb:bx[b]?=some B) (hl:B.live=true) (hl':B'.live=true) (hh:w.heap[β b]?=some o) (ho:∀c e f,o≠.cells c e f)
 (hB:dA β (bx.set b B') {w with heap:=w.heap.setIfInBounds (β b) o'} (be β (bx.set b B') {w with heap:=w.heap.setIfInBounds (β b) o'} X) B' (β b)):
 ct G β (bx.set b B') {w with heap:=w.heap.setIfInBounds (β b) o'} X:=by
 refine cx.step (AK hb hl hl' hh ho) ?_ ?_
 ·intro i Bi hi
  rcases aL hi with ⟨rfl,rfl,_⟩|⟨hne,h⟩
  ·exact .inr hB
  refine .inl ⟨h,fun oc=>?_⟩
  have PW:β b≠β i:=fun he=>hne (cx.inj b i _ Bi hb h hl oc he).symm
  simp [Array.getElem?_setIfInBounds_ne PW]
 intro i j bi bj hi hj oc qB he
 rcases aL hi with ⟨rfl,rfl,_⟩|⟨h1,h2⟩<;>rcases aL hj with ⟨rfl,rfl,_⟩|⟨h3,h4⟩
 ·rfl
 ·exact cx.inj _ _ _ _ hb h4 hl qB he
 ·exact cx.inj _ _ _ _ h2 hb oc hl he
 exact cx.inj _ _ _ _ h2 h4 oc qB he
theorem Tm {ok:Nat→Prop} {x:AV} {y:D} {u:Value} (hn:cA [x]=true) (h:x.tD bx=some y) (hx:ah β bx w ok x u):aK w ok y u:=by
 cases x with
 |d x=>simp only [AV.tD,osI] at h;subst h;simpa [ah] using hx
 |cl es=>
  simp only [AV.tD,osI] at h;subst h
  simp only [ah] at hx
  obtain ⟨base,rfl,g⟩:=hx
  simp only [aK];exact ⟨base,_,rfl,Nat.le_refl _,g⟩
 |ow b sz n=>simp [cA] at hn
 |fn f cs=>
  cases cs with
  |nil=>
   simp only [AV.tD,osI] at h;subst h
   simp only [ah,aj] at hx
   obtain ⟨vs,rfl,rfl⟩:=hx
   simp [aK,Aq]
  |cons c cs=>simp [AV.tD] at h
 |_=>simp [AV.tD] at h
theorem EQ {x:AV} {xs:List AV} (h:cA (x::xs)=true):cA [x]=true∧cA xs=true:=by
 cases x<;>simp_all [cA]
theorem AL {ok:Nat→Prop}:∀{xs:List AV} {ys:List D} {us:List Value},cA xs=true→iJ bx xs=some ys→aj β bx w ok xs us→cq w ok ys us
 |[],ys,us,_,h,hx=>by simp [iJ] at h;subst h;simp only [aj] at hx;subst hx;simp [cq]
 |x::xs,ys,us,hn,h,hx=>by
  simp only [iJ] at h
  split at h
  ·rename_i y ys' h1 h2
   simp only [osI] at h;subst h
   simp only [aj] at hx
   obtain ⟨u,PI,rfl,g1,g2⟩:=hx
   obtain ⟨n1,n2⟩:=EQ hn
   simp only [cq]
   exact ⟨u,PI,rfl,Tm n1 h1 g1,AL n2 h2 g2⟩
  simp at h
theorem ER {kd:Kd} {k:D} {kv:Value} {ok:Nat→Prop} (hk:om kd k=true) (h:aK w ok k kv):Instr.sameBits 10000 kv kv=true:=by
 cases k<;>cases kd<;>simp [om] at hk<;>simp only [aK] at h<;>subst h
 ·simp [Instr.sameBits]
 rename_i s
 show (s.toArray==s.toArray)=true
 simp
theorem uk {ms:Array MapEntry} {j:Nat} {m:MapEntry} (h:ms.toList[j]?=some m) (f:MapEntry→MapEntry):(ms.modify j f).toList=ms.toList.set j (f m):=by
 rw [Array.toList_modify]
 obtain ⟨hj,rfl⟩:=List.getElem?_eq_some_iff.1 h
 apply List.ext_getElem?
 intro i
 rw [List.getElem?_modify,List.getElem?_set]
 by_cases hi:j=i
 ·subst hi
  have hj2:j<ms.size:=by simpa using hj
  simp [hj2]
 simp [hi]
theorem P4 {ok:Nat→Prop} {x:AV} {xv:Value} {vs:List AV} {ds:List D} {k:D} {e:MapEntry} {ag:Bool} (hc:x.cells?=some vs) (hx:ah β bx w ok x xv) (hn:cA vs=true) (hd:iJ bx vs=some ds) (ha:x.isAgg=ag)
 (hk:aK w ok k e.key) (he:e.val=xv):gR w ok ag (k::ds) e:=by
 simp only [gR]
 refine ⟨hk,?_⟩
 rw [he]
 cases x with
 |agg cs=>
  simp only [AV.cells?] at hc
  cases hs:uW cs with
  |false=>simp [hs] at hc
  |true=>
   simp only [hs,cond_true,osI] at hc
   subst hc
   simp only [AV.isAgg] at ha;subst ha
   simp only [ah] at hx
   obtain ⟨us,rfl,g⟩:=hx
   exact ⟨us,rfl,fun h=>(by cases h),AL hn hd g⟩
 |any=>simp [AV.cells?] at hc
 |vw _ _ _ _ _ _=>simp [AV.cells?] at hc
 |dF _=>simp [AV.cells?] at hc
 |cond _ _=>simp [AV.cells?] at hc
 |_=>
  simp only [AV.cells?,osI] at hc
  subst hc
  simp only [AV.isAgg] at ha;subst ha
  exact ⟨[xv],rfl,fun _=>rfl,AL hn hd (by simp only [aj];exact ⟨xv,[],rfl,hx,rfl⟩)⟩
theorem GW (hT:iH P T) (cx:ct G β bx w X) {ty b:Nat} {m x:AV} {u kv xv:Value} {k:D} {tk te:TI} {ag:Bool} {es:List (List D)} {vs:List AV} {ds:List D} (h:ED T ty m bx=some (b,tk,te,ag,es)) (hu:ah β bx w (be β bx w X) m u)
 (hkv:aK w (be β bx w X) k kv) (Gf:ah β bx w (be β bx w X) x xv) (hc:x.cells?=some vs) (hn:cA vs=true) (hd:iJ bx vs=some ds) (hf:wZ tk te ag es k) (ha:x.isAgg=ag):
 ∃w',(Instr.mapUpdate ty u kv xv).run P w=.ok () w'∧Ext β bx w β (bx.set b (.mp ag (tE es k ds))) w'∧ct G β (bx.set b (.mp ag (tE es k ds))) w' X:=by
 unfold ED at h
 split at h
 case h_2=>cases h
 rename_i b' Pr Wp SR es' hm
 simp only [osI,Prod.mk.injEq] at h
 obtain ⟨rfl,rfl,rfl,rfl,rfl⟩:=h
 obtain ⟨kt,et,dk,u1,u2,u3,u4,_⟩:=Dq hT cx hm hu
 obtain ⟨f1,f2,f3⟩:=hf
 rw [u3] at f2 f3
 have hb:bx[b']?=some (.mp SR es'):=by
  unfold Ao at hm
  split at hm
  ·split at hm
   ·split at hm
    ·rename_i _ _ h0;cases h0
    ·rename_i _ _ h0;cases h0
    ·rename_i _ _ h0
     cases h0
     split at hm
     ·rename_i hb
      simp only [osI,Prod.mk.injEq] at hm
      obtain ⟨_,_,rfl,rfl⟩:=hm
      exact hb
     cases hm
    cases hm
   cases hm
  cases hm
 simp only [ah] at hu
 obtain ⟨rfl,_⟩:=hu
 obtain ⟨ms,clock,hh,⟨Wq,st2⟩,VC⟩:=cx.box b' _ hb
 have main:∀(Ge:Array MapEntry) (clock':Nat),mC Ge clock'→bp w (be β bx w X) SR (tE es' k ds) Ge.toList→
  (Instr.mapUpdate ty (.map (some (β b'))) kv xv).run P w=.ok () {w with heap:=w.heap.setIfInBounds (β b') (.map Ge clock')}→
  ∃w',(Instr.mapUpdate ty (.map (some (β b'))) kv xv).run P w=.ok () w'∧Ext β bx w β (bx.set b' (.mp SR (tE es' k ds))) w'∧ct G β (bx.set b' (.mp SR (tE es' k ds))) w' X:=by
  intro Ge clock' g1 g2 g3
  have ex:Ext β bx w β (bx.set b' (.mp SR (tE es' k ds))) {w with heap:=w.heap.setIfInBounds (β b') (.map Ge clock')}:=AK hb rfl rfl hh (fun c e f=>by simp)
  refine ⟨_,g3,ex,JY cx hb rfl rfl hh (fun c e f=>by simp) ?_⟩
  exact ⟨Ge,clock',by simp [eK hh],g1,bp.mono (ex.keeps X) _ _ _ g2⟩
 rcases ri f2 hkv es' ms.toList 0 VC f3 with ⟨k1,k2,k3⟩|⟨j,e,ds',k1,k2,k3,k4,k5,k6,k7⟩
 ·refine main (ms.push {key:=kv,val:=xv,born:=clock}) (clock+1) ⟨?_,?_⟩ ?_ ?_
  ·rw [Array.all_push]
   simp only [Bool.and_eq_true,decide_eq_true_eq]
   refine ⟨?_,by omega⟩
   rw [Array.all_eq_true] at Wq ⊢
   intro i hi
   have:=Wq i hi
   simp only [decide_eq_true_eq] at this ⊢
   omega
  ·rw [Array.toList_push,List.map_append,List.nodup_append]
   refine ⟨st2,by simp,?_⟩
   intro a Yz c CK
   simp at CK
   obtain ⟨m',hm',rfl⟩:=List.mem_map.1 Yz
   have:m'.born<clock:=by
    rw [Array.all_eq_true_iff_forall_mem] at Wq
    simpa using Wq m' (by simpa using hm')
   omega
  ·rw [k3,Array.toList_push]
   refine VC.append ?_
   simp only [bp]
   exact ⟨_,[],rfl,P4 hc Gf hn hd ha hkv rfl,rfl⟩
  unfold Instr.mapUpdate
  simp [aQ u1,zW hh,run_checkKey u2 f2 hkv,run_findKey (w:=w) u2 k2,run_setObj_map _ hh]
 have aa1:=ER f2 hkv
 refine main (ms.modify j fun e=>{e with key:=kv,val:=xv}) clock ⟨?_,?_⟩ ?_ ?_
 ·rw [Array.all_eq_true_iff_forall_mem] at Wq ⊢
  intro y hy
  have hy2:y∈(ms.modify j fun e=>{e with key:=kv,val:=xv}).toList:=Array.mem_def.1 hy
  rw [uk k2] at hy2
  rcases List.mem_or_eq_of_mem_set hy2 with h1|h1
  ·exact Wq y (by simpa using h1)
  subst h1
  exact Wq e (by simpa using List.mem_of_getElem? k2)
 ·rw [uk k2,List.map_set]
  have:(ms.toList.map (·.born)).set j ({e with key:=kv,val:=xv}:MapEntry).born=ms.toList.map (·.born):=by
   apply List.ext_getElem?
   intro i
   rw [List.getElem?_set]
   by_cases hi:j=i
   ·subst hi
    have:=(List.getElem?_eq_some_iff.1 k2).1
    simp [k2] at this ⊢
    simp [this]
   simp [hi]
  rw [this];exact st2
 ·rw [k7,uk k2]
  exact bp.set (P4 hc Gf hn hd ha hkv rfl) j VC
 unfold Instr.mapUpdate
 simp only [Nat.zero_add] at k1
 have k2':ms[j]?=some e:=by simpa using k2
 simp [aQ u1,zW hh,run_checkKey u2 f2 hkv,run_findKey (w:=w) u2 k1,run_setObj_map _ hh,Instr.keyThatStays,k2',k5,aa1]
end
end Dem
end
section
open Go
namespace Dem
section
variable {P:Program} {T:Nat→Option TI} {G:Nat→Option (List D)} {β:Nat→Nat} {bx:List ax} {w:World} {X:Nat→Prop}
theorem JZ (cx:ct G β bx w X) {e size cap:Nat} {rows:List (List D)} {vs zs:List Value} (hl:∀r∈rows,r.length=size) (hv:aj β bx w (be β bx w X) (rows.flatten.map .d) vs)
 (hlen:rows.length≤cap):
 let w':World:={w with drawn:=w.drawn+1,heap:=w.heap.push (.cells ⟨vs++zs⟩ e)}
 Ext β bx w β bx w'∧ct G β bx w' X∧ah β bx w' (be β bx w' X) (.d (.sl rows)) (.slice (some ⟨w.heap.size,0,none⟩) rows.length cap):=by
 intro w'
 have Yu:=qR cx (ff w)
 have vq:Ext β bx w β bx {w with drawn:=w.drawn+1}:=iO (ff w)
 have Tb:Ext β bx {w with drawn:=w.drawn+1} β bx w':=u9 (w:={w with drawn:=w.drawn+1}) (.cells ⟨vs++zs⟩ e)
 have hnew:w'.heap[w.heap.size]?=some (.cells ⟨vs++zs⟩ e):=iQ {w with drawn:=w.drawn+1} _
 refine ⟨vq.trans Tb,Gr (w:={w with drawn:=w.drawn+1}) Yu _,?_⟩
 simp only [ah,aK]
 refine ⟨_,_,rfl,hlen,.inr ⟨w.heap.size,0,size,rfl,⟨eK hnew,fun hX=>?_,fun i b hb hlv=>?_⟩,?_⟩⟩
 ·exact Nat.lt_irrefl _ (cx.xs _ hX)
 ·have:=(cx.box i b hb).eL hlv;omega
 refine nw (β:=β) (bx:=bx) rows 0 vs hl ?_ (aj.mono ((vq.trans Tb).dQ X) _ _ hv)
 intro k u hk
 have hk':k<vs.length:=by
  rcases Nat.lt_or_ge k vs.length with h|h
  ·exact h
  simp [List.getElem?_eq_none h] at hk
 show World.cell? w' ⟨w.heap.size,0+k,none⟩=some u
 simp only [World.cell?,hnew]
 simp [List.getElem?_append_left hk',hk]
theorem Dr (hT:iH P T) (cx:ct G β bx w X) {ev:Operand→AV} {ρ:Operand→Value} {o:Oper} (hρ:∀x∈o.op.operands.toList,ah β bx w (be β bx w X) (ev x) (ρ x))
 {c:Prop} {es:List (List D)} (hr:CO T ev o.op=some (c,es)) (hc:c):de G β bx w X ((execOp ρ o).run P w) (.d (.sl es)) bx:=by
 obtain ⟨dst,op,type,pos,after,guard⟩:=o
 simp only at hρ hr
 unfold CO at hr
 split at hr
 case h_2=>cases hr
 rename_i b args ats
 split at hr
 case h_2=>cases hr
 rename_i x y t u ha Wn
 cases ht:T t with
 |none=>simp [ht] at hr
 |some ti=>
 cases hu:T u with
 |none=>simp [ht,hu] at hr
 |some tu=>
 simp only [ht,hu] at hr
 obtain ⟨i,d,h1,h2,h3,h4,h5,h6⟩:=aJ (hT.ti _ _ ht)
 obtain ⟨ui,ud,u1,u2,u3,u4,u5,u6⟩:=aJ (hT.ti _ _ hu)
 cases hk:ti.kd with
 |slice e=>
  cases hku:tu.kd with
  |slice e2=>
   rw [hk] at hr h5
   rw [hku] at hr u5
   have EJ:∀k,ud≠.int k:=by rintro k rfl;cases u5
   cases d<;>simp [cJ] at h5
   subst h5
   cases hte:T e with
   |none=>simp [hte] at hr
   |some te=>
   obtain ⟨ei,ed,g1,g2,g3,g4,g5,g6⟩:=aJ (hT.ti _ _ hte)
   simp only [hte] at hr
   cases hz:eE te with
   |false=>simp [hz] at hr
   |true=>
   obtain ⟨z,hz1,Wi,hz3,hz4⟩:=mI hz
   obtain ⟨zv,zc,k1,k2,k3,_⟩:=vj (β:=β) (bx:=bx) (w:=w) (ok:=be β bx w X) (hT.ti _ _ hte) hz1
   have hzl:zc.length=ei.size:=by rw [aj.length k3,Wi,g3]
   have zV:ei.zero=some zv:=by
    cases hq:ei.zero with
    |none=>rw [g6,hq] at hz1;simp [AV.cells?] at hz1
    |some q=>have:=gB (P:=P) (w:=w) g1 hq;rw [k1] at this;simp at this;rw [this]
   simp only [hz,cond_true] at hr
   split at hr
   case h_2=>cases hr
   rename_i es x0 xr hx hy
   simp only [osI,Prod.mk.injEq] at hr
   obtain ⟨rfl,rfl⟩:=hr
   obtain ⟨CK,Dk⟩:=hc
   have mx:x∈args.toList:=by rw [ha];simp
   have my:y∈args.toList:=by rw [ha];simp
   have hs:=hρ x (by simp [Op.operands,Call.operands];exact by simpa using mx)
   have hxx:=hρ y (by simp [Op.operands,Call.operands];exact by simpa using my)
   rw [hx] at hs
   rw [hy] at hxx
   obtain ⟨ws,f1,f2⟩:=lF (P:=P) (xs:=x0::xr) cx hxx (by simp [kI,AV.rows]) (fun r hr=>Dk r (List.mem_append.2 (.inr hr)))
   rw [g3] at f1
   simp only [ah] at hs
   obtain ⟨base,hsx,hbase⟩:=hs
   have fin:∀(os:List Value),fT P w ei.size es.length (.slice base es.length es.length) os→aj β bx w (be β bx w X) (es.flatten.map .d) os→de G β bx w X ((execOp ρ ⟨dst,.call {callee:=.builtin .append,args:=args,argTypes:=ats},type,pos,after,guard⟩).run P w) (.d (.sl (es++x0::xr))) bx:=by
    intro os o1 o2
    obtain ⟨cap,rest,q1,q2,zs,q3,q4⟩:=iU h2 u2 EJ g1 zV k2 hzl f1 o1 (by simp) (by omega) (by rw [←g4];exact CK) type
    obtain ⟨r1,r2,r3⟩:=JZ (e:=e) (size:=te.size) (cap:=cap) (rows:=es++(x0::xr)) (zs:=zs) (vs:=os++ws) cx Dk (aj.flatten_append o2 f2) (by rw [List.length_append];exact q1)
    rw [List.length_append] at r3
    refine ⟨β,_,r1,r2,.inl ⟨_,?_,r3⟩⟩
    simp only [execOp,resolve,Sem.run_bind,Sem.run_pure,Result.andThen_ok,invoke,fA args ρ]
    have ea:ats=⟨[t,u]⟩:=Array.toList_inj.1 (by rw [Wn])
    rw [ha,List.map_cons,List.map_cons,List.map_nil,hsx,ea]
    exact bI _ q4
   cases es with
   |nil=>
    refine fin [] ⟨c5,by simp,fun w' _=>⟨c5,?_⟩⟩ (by simp [aj])
    cases base<;>simp [Builtin.firstCells,loadCells,loadCellsFrom]
   |cons e0 er=>
    obtain ⟨os,o1,o2⟩:=dK (P:=P) (β:=β) (bx:=bx) (cap:=(e0::er).length) (base:=base) (es:=e0::er) (ok:=be β bx w X) (fun r hr=>Dk r (List.mem_append.2 (.inl hr))) (hbase.imp id fun ⟨aB,off,sz,a,_,c⟩=>⟨aB,off,sz,a,c⟩)
    rw [g3] at o1
    exact fin os o1 o2
  |_=>simp [hk,hku] at hr
 |_=>simp [hk] at hr
end
end Dem
end
