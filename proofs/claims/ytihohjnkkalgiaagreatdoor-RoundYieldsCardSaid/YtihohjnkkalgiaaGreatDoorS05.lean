/- Parts of a proof, joined. -/
import Derived.Test.YtihohjnkkalgiaaGreatDoorS04
set_option linter.all false
set_option maxRecDepth 100000
set_option maxHeartbeats 4000000
section
open Go
namespace Dem
section
variable {P:Program} {T:Nat→Option TI} {G:Nat→Option (List D)} {β:Nat→Nat} {bx:List aA} {w:World} {X:Nat→Prop}
def mh (β:Nat→Nat) (bx:List aA) (w:World) (ok:Nat→Prop):jR→Ending→Prop
 |.ret v,.returned u=>ak β bx w ok v u
 |.Mf v,.panicked ch=>∃u,ch=[{v:=u,recovered:=false}]∧ak β bx w ok v u
 |_,_=>False
def jD (P:Program) (f:Nat) (vs:Array Value) (w:World) (R:Ending→World→Prop):Prop:=
 ((callFunc f vs).run P w=.ok (.enter f vs) w∧Calls P f vs w R)∨∃v w',(callFunc f vs).run P w=.ok (.value v) w'∧R (.returned v) w'
theorem jD.mono {f:Nat} {vs:Array Value} {R R':Ending→World→Prop} (h:jD P f vs w R) (hr:∀e w',R e w'→R' e w'):jD P f vs w R':=by
 rcases h with ⟨h1,h2⟩|⟨v,w',h1,h2⟩
 ·exact .inl ⟨h1,Calls.mono h2 hr⟩
 exact .inr ⟨v,w',h1,hr _ _ h2⟩
def bF (P:Program) (G:Nat→Option (List D)) (f:Nat) (args:List AV) (bx:List aA) (res:jR) (aU:List aA):Prop:=
 ∀(β:Nat→Nat) (w:World) (vs:List Value) (X:Nat→Prop),cP G β bx w X→an β bx w (bp β bx w X) args vs→
  jD P f ⟨vs⟩ w fun e w'=>∃β',Ext β bx w β' aU w'∧cP G β' aU w' X∧mh β' aU w' (bp β' aU w' X) res e
mutual
theorem pY {β β':Nat→Nat} {bx aU:List aA} {w:World} {ok ok':Nat→Prop} (h:∀blk,ok blk→ok' blk):∀(x:AV) (v:Value),x.shut=true→ak β bx w ok x v→ak β' aU w ok' x v
 |.any,_,_,_=>by simp [ak]
 |.d x,v,_,hv=>by simp only [ak] at hv ⊢;exact aL.mono (fun blk hb=>⟨h blk hb,rfl⟩) _ _ hv
 |.k c,v,_,hv=>by simpa [ak] using hv
 |.agg cs,v,hs,hv=>by
  simp only [ak] at hv ⊢;obtain ⟨vs,h1,h2⟩:=hv
  exact ⟨vs,h1,lR h cs vs (by simpa [AV.shut] using hs) h2⟩
 |.eA cs,v,hs,hv=>by
  simp only [ak] at hv ⊢;obtain ⟨vs,h1,h2⟩:=hv
  exact ⟨vs,h1,lR h cs vs (by simpa [AV.shut] using hs) h2⟩
 |.ptr _ _,_,hs,_=>by simp [AV.shut] at hs
 |.rp _ _ _ _,_,hs,_=>by simp [AV.shut] at hs
 |.ow _ _ _,_,hs,_=>by simp [AV.shut] at hs
 |.vw _ _ _ _ _ _,_,hs,_=>by simp [AV.shut] at hs
 |.ep ds,v,_,hv=>by
  simp only [ak] at hv ⊢;obtain ⟨blk,off,h1,h2,h3⟩:=hv
  exact ⟨blk,off,h1,h blk h2,aY.mono (fun blk hb=>⟨h blk hb,rfl⟩) blk (fun _=>rfl) _ _ h3⟩
 |.cl es,v,_,hv=>by
  simp only [ak] at hv ⊢;obtain ⟨base,h1,h2⟩:=hv
  refine ⟨base,h1,h2.imp id ?_⟩
  rintro ⟨blk,off,sz,e1,e2,e3⟩
  exact ⟨blk,off,sz,e1,h blk e2,ay.mono (fun blk hb=>⟨h blk hb,rfl⟩) blk sz (fun _=>rfl) _ _ e3⟩
 |.fn f cs,v,hs,hv=>by
  simp only [ak] at hv ⊢;obtain ⟨vs,h1,h2⟩:=hv
  exact ⟨vs,h1,lR h cs vs (by simpa [AV.shut] using hs) h2⟩
 |.rY t x,v,hs,hv=>by
  simp only [ak] at hv ⊢;obtain ⟨u,h1,h2⟩:=hv
  exact ⟨u,h1,pY h x u (by simpa [AV.shut] using hs) h2⟩
 |.cond p x,v,hs,hv=>by
  simp only [ak] at hv ⊢
  exact ⟨fun hp=>pY h x v (by simpa [AV.shut] using hs) (hv.1 hp),hv.2⟩
theorem lR {β β':Nat→Nat} {bx aU:List aA} {w:World} {ok ok':Nat→Prop} (h:∀blk,ok blk→ok' blk):∀(xs:List AV) (vs:List Value),AV.shut.mV xs=true→an β bx w ok xs vs→an β' aU w ok' xs vs
 |[],vs,_,hv=>by simpa [an] using hv
 |x::xs,vs,hs,hv=>by
  simp only [an] at hv ⊢
  obtain ⟨u,us,h1,h2,h3⟩:=hv
  simp only [AV.shut.mV,Bool.and_eq_true] at hs
  exact ⟨u,us,h1,pY h x u hs.1 h2,lR h xs us hs.2 h3⟩
end
theorem rI {β β':Nat→Nat} {bx aU:List aA} {w w':World} {ok ok':Nat→Prop}:∀(xs:List AV) (vs:List Value),AV.flat.zw xs=true→an β bx w ok xs vs→an β' aU w' ok' xs vs
 |[],vs,_,hv=>by simpa [an] using hv
 |x::xs,vs,hs,hv=>by
  simp only [an] at hv ⊢
  obtain ⟨u,us,h1,h2,h3⟩:=hv
  cases x with
  |d y=>cases y<;>simp [AV.flat.zw] at hs<;>exact ⟨u,us,h1,by simpa [ak,aL] using h2,rI xs us hs h3⟩
  |k c=>simp [AV.flat.zw] at hs;exact ⟨u,us,h1,by simpa [ak] using h2,rI xs us hs h3⟩
  |_=>simp [AV.flat.zw] at hs
theorem oB {β β':Nat→Nat} {bx aU:List aA} {w w':World} {ok ok':Nat→Prop}:∀(xs:List AV) (vs:List Value),AV.flat.pN xs=true→an β bx w ok xs vs→an β' aU w' ok' xs vs
 |[],vs,_,hv=>by simpa [an] using hv
 |x::xs,vs,hs,hv=>by
  simp only [an] at hv ⊢
  obtain ⟨u,us,h1,h2,h3⟩:=hv
  cases x with
  |d y=>cases y<;>simp [AV.flat.pN] at hs<;>exact ⟨u,us,h1,by simpa [ak,aL] using h2,oB xs us hs h3⟩
  |k c=>simp [AV.flat.pN] at hs;exact ⟨u,us,h1,by simpa [ak] using h2,oB xs us hs h3⟩
  |agg cs=>
   simp [AV.flat.pN] at hs
   simp only [ak] at h2
   obtain ⟨v2,e1,e2⟩:=h2
   exact ⟨u,us,h1,by simp only [ak];exact ⟨v2,e1,rI cs v2 hs.1 e2⟩,oB xs us hs.2 h3⟩
  |_=>simp [AV.flat.pN] at hs
theorem FK {β β':Nat→Nat} {bx aU:List aA} {w w':World} {ok ok':Nat→Prop} (x:AV) (v:Value) (hf:x.flat=true) (hv:ak β bx w ok x v):ak β' aU w' ok' x v:=by
 cases x with
 |d y=>cases y<;>simp [AV.flat] at hf<;>simpa [ak,aL] using hv
 |k c=>simpa [ak] using hv
 |agg cs=>simp only [ak] at hv ⊢;obtain ⟨vs,h1,h2⟩:=hv;exact ⟨vs,h1,rI cs vs (by simpa [AV.flat] using hf) h2⟩
 |eA cs=>simp only [ak] at hv ⊢;obtain ⟨vs,h1,h2⟩:=hv;exact ⟨vs,h1,oB cs vs (by simpa [AV.flat] using hf) h2⟩
 |_=>simp [AV.flat] at hf
theorem Mp {w w':World} {ok ok':Nat→Prop}:∀(x:D) (v:Value),x.flat=true→aL w ok x v→aL w' ok' x v:=by
 intro x v hf hv
 cases x<;>simp [D.flat] at hf<;>simpa [aL] using hv
theorem xD {w:World} {ok ok':Nat→Prop} {blk:Nat}:∀(xs:List D) (off:Nat),(∀x∈xs,x.flat=true)→aY w ok blk xs off→aY w ok' blk xs off
 |[],_,_,_=>by simp [aY]
 |x::xs,off,hf,hv=>by
  simp only [aY] at hv ⊢
  obtain ⟨⟨u,h1,h2⟩,h3⟩:=hv
  exact ⟨⟨u,h1,Mp x u (hf x (by simp)) h2⟩,xD xs _ (fun y hy=>hf y (by simp [hy])) h3⟩
theorem oC {w:World} {ok ok':Nat→Prop} {blk sz:Nat}:∀(rs:List (List D)) (off:Nat),(∀r∈rs,∀x∈r,x.flat=true)→ay w ok blk sz rs off→ay w ok' blk sz rs off
 |[],_,_,_=>by simp [ay]
 |r::rs,off,hf,hv=>by
  simp only [ay] at hv ⊢
  exact ⟨hv.1,xD r off (hf r (by simp)) hv.2.1,oC rs _ (fun s hs=>hf s (by simp [hs])) hv.2.2⟩
theorem uF (cx:cP G β bx w X) {x y:AV} {u:Value} (hd:fz bx x=some y) (h:ak β bx w (bp β bx w X) x u):
 Ext β bx w β (x.cC bx) w∧cP G β (x.cC bx) w X∧ak β (x.cC bx) w (bp β (x.cC bx) w X) y u:=by
 cases x with
 |cl es=>
  simp only [fz,osI] at hd;subst hd
  obtain ⟨g1,g2,g3⟩:=zF (y:=.sl es) cx rfl h
  exact ⟨g1,g2,by simpa [ak] using g3⟩
 |ow b sz n=>
  simp only [fz,Option.map_eq_some_iff] at hd
  obtain ⟨z,h1,rfl⟩:=hd
  obtain ⟨g1,g2,g3⟩:=zF cx h1 h
  exact ⟨g1,g2,by simpa [ak] using g3⟩
 |vw b sz off n c ex=>
  simp only [fz,Option.map_eq_some_iff] at hd
  obtain ⟨es,h1,rfl⟩:=hd
  obtain ⟨g1,g2,g3⟩:=kg cx h1 h
  exact ⟨g1,g2,by simpa [ak,aL] using g3⟩
 |_=>simp only [fz,osI] at hd;subst hd;exact ⟨Ext.refl _ _ _,cx,h⟩
theorem FL {x y z:AV} (h:fz bx x=some y):fz (z.cC bx) x=some y:=by
 cases x with
 |ow b sz n=>
  simp only [fz,Option.map_eq_some_iff] at h ⊢
  obtain ⟨q,h1,h2⟩:=h
  exact ⟨q,Cv h1,h2⟩
 |vw b sz off n c ex=>
  simp only [fz,Option.map_eq_some_iff] at h ⊢
  obtain ⟨q,h1,h2⟩:=h
  refine ⟨q,?_,h2⟩
  simp only [AV.rows] at h1 ⊢
  split at h1
  ·rename_i s es hb
   rcases ur (z:=z) (.inl hb) with g|g<;>simp [g,h1]
  ·rename_i s es hb
   rcases ur (z:=z) (.inr hb) with g|g<;>simp [g,h1]
  simp at h1
 |_=>exact h
theorem wi {z:AV}:∀{xs ys:List AV},Ir bx xs=some ys→Ir (z.cC bx) xs=some ys
 |[],ys,h=>h
 |x::xs,ys,h=>by
  simp only [Ir] at h ⊢
  split at h
  ·rename_i y ys' hy hys
   rw [FL hy,wi hys];exact h
  simp at h
theorem IL {x y z:AV} (h:pM bx x=some y):pM (z.cC bx) x=some y:=by
 cases x with
 |agg cs=>
  simp only [pM,Option.map_eq_some_iff] at h ⊢
  obtain ⟨q,h1,h2⟩:=h
  exact ⟨q,wi h1,h2⟩
 |_=>simp only [pM] at h ⊢;exact FL h
theorem sZ {z:AV}:∀{xs ys:List AV},fe bx xs=some ys→fe (z.cC bx) xs=some ys
 |[],ys,h=>h
 |x::xs,ys,h=>by
  simp only [fe] at h ⊢
  split at h
  ·rename_i y ys' hy hys
   rw [IL hy,sZ hys];exact h
  simp at h
theorem xE {xs ys:List AV}:∀(zs:List AV) (bx:List aA),fe bx xs=some ys→fe (eE bx zs) xs=some ys
 |[],_,h=>h
 |_::zs,_,h=>xE zs _ (sZ h)
theorem FM {xs ys:List AV} {z:AV} (h:fe bx xs=some ys):fe (lW bx z) xs=some ys:=by
 cases z with
 |agg cs=>exact xE cs bx h
 |_=>simp only [lW];exact sZ h
theorem FN:∀(xs:List AV) (bx:List aA) (ys:List AV) (vs:List Value),cP G β bx w X→Ir bx xs=some ys→an β bx w (bp β bx w X) xs vs→
 Ext β bx w β (eE bx xs) w∧cP G β (eE bx xs) w X∧an β (eE bx xs) w (bp β (eE bx xs) w X) ys vs
 |[],bx,ys,vs,cx,hd,h=>by simp [Ir] at hd;subst hd;exact ⟨Ext.refl _ _ _,cx,by simpa [eE] using h⟩
 |x::xs,bx,ys,vs,cx,hd,h=>by
  simp only [Ir] at hd
  split at hd
  ·rename_i y ys' hy hys
   simp at hd;subst hd
   simp only [an] at h
   obtain ⟨u,us,rfl,g1,g2⟩:=h
   obtain ⟨e1,c1,r1⟩:=uF cx hy g1
   obtain ⟨e2,c2,r2⟩:=FN xs (x.cC bx) ys' us c1 (wi hys) (an.mono (e1.eX X) _ _ g2)
   refine ⟨e1.trans e2,c2,?_⟩
   simp only [eE,an]
   exact ⟨u,us,rfl,ak.mono (e2.eX X) _ _ r1,r2⟩
  simp at hd
theorem Cz (cx:cP G β bx w X) {x y:AV} {u:Value} (hd:pM bx x=some y) (h:ak β bx w (bp β bx w X) x u):
 Ext β bx w β (lW bx x) w∧cP G β (lW bx x) w X∧ak β (lW bx x) w (bp β (lW bx x) w X) y u:=by
 cases x with
 |agg cs=>
  simp only [pM,Option.map_eq_some_iff] at hd
  obtain ⟨ys,h1,rfl⟩:=hd
  simp only [ak] at h
  obtain ⟨vs,rfl,hvs⟩:=h
  obtain ⟨g1,g2,g3⟩:=FN cs bx ys vs cx h1 hvs
  exact ⟨g1,g2,by simp only [ak];exact ⟨vs,rfl,g3⟩⟩
 |_=>simp only [pM] at hd;simp only [lW];exact uF cx hd h
theorem lS:∀(xs:List AV) (bx:List aA) (ys:List AV) (vs:List Value),cP G β bx w X→fe bx xs=some ys→an β bx w (bp β bx w X) xs vs→
 Ext β bx w β (fw bx xs) w∧cP G β (fw bx xs) w X∧an β (fw bx xs) w (bp β (fw bx xs) w X) ys vs
 |[],bx,ys,vs,cx,hd,h=>by simp [fe] at hd;subst hd;exact ⟨Ext.refl _ _ _,cx,by simpa [fw] using h⟩
 |x::xs,bx,ys,vs,cx,hd,h=>by
  simp only [fe] at hd
  split at hd
  ·rename_i y ys' hy hys
   simp at hd;subst hd
   simp only [an] at h
   obtain ⟨u,us,rfl,g1,g2⟩:=h
   obtain ⟨e1,c1,r1⟩:=Cz cx hy g1
   obtain ⟨e2,c2,r2⟩:=lS xs (lW bx x) ys' us c1 (FM hys) (an.mono (e1.eX X) _ _ g2)
   refine ⟨e1.trans e2,c2,?_⟩
   simp only [fw,an]
   exact ⟨u,us,rfl,ak.mono (e2.eX X) _ _ r1,r2⟩
  simp at hd
theorem Lc {x y:AV} (h:fz [] x=some y) (bx:List aA):x.cC bx=bx:=by
 cases x with
 |ow b sz n=>simp [fz,AV.rm] at h
 |vw b sz off n c ex=>simp [fz,AV.rows] at h
 |_=>rfl
theorem FO:∀{xs ys:List AV} (bx:List aA),Ir [] xs=some ys→eE bx xs=bx
 |[],_,_,_=>rfl
 |x::xs,ys,bx,h=>by
  simp only [Ir] at h
  split at h
  ·rename_i y ys' hy hys
   simp only [eE,Lc hy bx];exact FO bx hys
  simp at h
theorem ki:∀{xs ys:List AV} (bx:List aA),fe [] xs=some ys→fw bx xs=bx
 |[],_,_,_=>rfl
 |x::xs,ys,bx,h=>by
  simp only [fe] at h
  split at h
  ·rename_i y ys' hy hys
   have:lW bx x=bx:=by
    cases x with
    |agg cs=>
     simp only [pM,Option.map_eq_some_iff] at hy
     obtain ⟨q,h1,_⟩:=hy
     exact FO bx h1
    |_=>simp only [pM] at hy;simp only [lW];exact Lc hy bx
   simp only [fw,this];exact ki bx hys
  simp at h
def pZ (β:Nat→Nat) (bx:List aA) (X:Nat→Prop) (blk:Nat):Prop:=X blk∨∃i b,bx[i]?=some b∧b.live=true∧β i=blk
theorem FP (cx:cP G β bx w X):cP G β [] w (pZ β bx X):=by
 refine ⟨?_,?_,by simp,by simp,by simp⟩
 ·rintro blk (h|⟨i,b,h1,h2,rfl⟩)
  ·exact cx.xs blk h
  exact dz.fJ (cx.box i b h1) h2
 intro g ds hg
 obtain ⟨h1,h2⟩:=cx.yH g ds hg
 have key:∀blk,bp β bx w X blk→bp β [] w (pZ β bx X) blk:=by
  rintro blk ⟨k1,k2,k3⟩
  refine ⟨k1,?_,by simp⟩
  rintro (h|⟨i,b,e1,e2,e3⟩)
  ·exact k2 h
  exact k3 i b e1 e2 e3
 exact ⟨key g h1,aY.mono (fun blk hb=>⟨key blk hb,rfl⟩) g (fun _=>rfl) _ _ h2⟩
theorem FQ (blk:Nat) (h:bp β bx w X blk):bp β [] w (pZ β bx X) blk:=by
 obtain ⟨k1,k2,k3⟩:=h
 refine ⟨k1,?_,by simp⟩
 rintro (h|⟨i,b,e1,e2,e3⟩)
 ·exact k2 h
 exact k3 i b e1 e2 e3
theorem uG {β':Nat→Nat} {aU:List aA} {w':World} (ex:Ext β [] w β' aU w'):Ext β bx w β bx w':=
 ⟨ex.os,ex.tape,ex.output,ex.size,fun k hk _=>ex.block k hk (by simp),ex.shape,fun i hi=>⟨rfl,hi⟩,fun i b h1 h2=>.inr ⟨i,b,h1,h2,rfl⟩⟩
theorem OF {β':Nat→Nat} {aU:List aA} {w':World} (cx:cP G β bx w X) (ex:Ext β [] w β' aU w'):cP G β bx w' X:=
 cx.step (uG ex) (fun i b h=>.inl ⟨h,fun hl=>ex.block _ (dz.fJ (cx.box i b h) hl) (by simp)⟩) cx.inj
theorem RY {β':Nat→Nat} {w':World} {sz n:Nat} {es:List (List D)} {pO:List aA} {u:Value} (cx:cP G β bx w X) (ex:Ext β [] w β' [.row sz es] w') (mO:cP G β' [.row sz es] w' (pZ β pO X))
 (hv:(∀r∈es,∀x∈r,x.flat=true)∨pO=bx) (hr:ak β' [.row sz es] w' (bp β' [.row sz es] w' (pZ β pO X)) (.ow 0 sz n) u):
 Ext β bx w (lg β bx.length (β' 0)) (bx++[.row sz es]) w'∧cP G (lg β bx.length (β' 0)) (bx++[.row sz es]) w' X∧
  ak (lg β bx.length (β' 0)) (bx++[.row sz es]) w' (bp (lg β bx.length (β' 0)) (bx++[.row sz es]) w' X) (.ow bx.length sz n) u:=by
 have e0:=uG (bx:=bx) ex
 have hnew:aA.live (.row sz es)=true→w.heap.size≤β' 0:=by
  intro hl
  rcases ex.live 0 (.row sz es) rfl hl with h|⟨j,b',h1,_⟩
  ·exact h
  simp at h1
 have hold:∀i b,bx[i]?=some b→lg β bx.length (β' 0) i=β i:=by
  intro i b h
  exact dm _ _ (by have:=jz h;omega)
 have e1:Ext β bx w (lg β bx.length (β' 0)) (bx++[.row sz es]) w':=by
  refine ⟨e0.os,e0.tape,e0.output,e0.size,e0.block,e0.shape,?_,?_⟩
  ·rintro i ⟨b,h1,h2⟩
   exact ⟨hold i b h1,b,eJ h1,h2⟩
  intro i b h hl
  rcases bz h with ⟨h1,_⟩|⟨rfl,rfl⟩
  ·exact .inr ⟨i,b,h1,hl,(hold i b h1).symm⟩
  exact .inl (by rw [bu];exact hnew hl)
 have hlt:∀i b,bx[i]?=some b→b.live=true→β i<w.heap.size:=fun i b h hl=>dz.fJ (cx.box i b h) hl
 have hok:pO=bx→∀blk,bp β' [.row sz es] w' (pZ β pO X) blk→bp (lg β bx.length (β' 0)) (bx++[.row sz es]) w' X blk:=by
  rintro rfl blk ⟨k1,k2,k3⟩
  refine ⟨k1,fun hX=>k2 (.inl hX),?_⟩
  intro i b h hl
  rcases bz h with ⟨h1,_⟩|⟨rfl,rfl⟩
  ·rw [hold i b h1];exact fun he=>k2 (.inr ⟨i,b,h1,hl,he⟩)
  rw [bu];exact k3 0 _ rfl hl
 refine ⟨e1,cx.step e1 ?_ ?_,?_⟩
 ·intro i b h
  rcases bz h with ⟨h1,_⟩|⟨rfl,rfl⟩
  ·exact .inl ⟨h1,fun hl=>ex.block _ (hlt i b h1 hl) (by simp)⟩
  refine .inr ?_
  have:=mO.box 0 _ rfl
  rw [bu]
  simp only [dz] at this ⊢
  refine this.imp id ?_
  rintro ⟨c,e,h1,h2⟩
  refine ⟨c,e,h1,?_⟩
  rcases hv with hfl|hb
  ·exact oC _ _ hfl h2
  exact ay.mono (fun blk hb'=>⟨hok hb blk hb',rfl⟩) _ _ (fun _=>rfl) _ _ h2
 ·intro i j bi bj hi hj mP oD he
  rcases bz hi with ⟨h1,_⟩|⟨rfl,rfl⟩<;>rcases bz hj with ⟨h2,_⟩|⟨rfl,rfl⟩
  ·rw [hold i bi h1,hold j bj h2] at he
   exact cx.inj i j bi bj h1 h2 mP oD he
  ·rw [hold i bi h1,bu] at he
   have:=hlt i bi h1 mP;have:=hnew oD;omega
  ·rw [hold j bj h2,bu] at he
   have:=hlt j bj h2 oD;have:=hnew mP;omega
  rfl
 simp only [ak] at hr ⊢
 obtain ⟨_,h2⟩:=hr
 refine ⟨⟨_,by simp;rfl,rfl⟩,?_⟩
 rw [bu];exact h2
theorem IM {f:Nat} {args:List AV} {vs:List Value} {K:AV→List aA→Prop} (cx:cP G β bx w X) (hx:an β bx w (bp β bx w X) args vs)
 (h:Fj (bF P G) f args bx K):
 jD P f ⟨vs⟩ w fun e w'=>∃β' aU v u,e=.returned u∧Ext β bx w β' aU w'∧cP G β' aU w' X∧ak β' aU w' (bp β' aU w' X) v u∧K v aU:=by
 obtain ⟨_,hz,hs,h⟩:=h
 obtain ⟨e1,c1,r1⟩:=lS args bx _ vs cx hz hx
 have cn:=FP c1
 have hn:an β [] w (bp β [] w (pZ β (fw bx args) X)) _ vs:=lR (fun blk hb=>FQ blk hb) _ _ hs r1
 rcases h with ⟨v,hf,hv,hK⟩|⟨sz,n,es,hf,hv,hK⟩
 ·refine jD.mono (hf β w vs _ cn hn) ?_
  rintro e w' ⟨β',ex,mO,hr⟩
  cases e with
  |returned u=>
   refine ⟨β,bx,v,u,rfl,uG ex,OF cx ex,?_,hK⟩
   rcases hv with hfl|⟨OG,hsh⟩
   ·exact FK v u hfl hr
   rw [ki bx OG] at hr
   refine pY ?_ v u hsh hr
   rintro blk ⟨k1,k2,_⟩
   exact ⟨k1,fun hX=>k2 (.inl hX),fun i b hb hl he=>k2 (.inr ⟨i,b,hb,hl,he⟩)⟩
  |_=>exact hr.elim
 refine jD.mono (hf β w vs _ cn hn) ?_
 rintro e w' ⟨β',ex,mO,hr⟩
 cases e with
 |returned u=>
  simp only [mh] at hr
  obtain ⟨x1,x2,x3⟩:=RY cx ex mO (by
   rcases hv with hfl|OG
   ·exact .inl hfl
   refine .inr ?_
   rw [ki bx OG]) hr
  exact ⟨_,_,_,u,rfl,x1,x2,x3,hK⟩
 |_=>exact hr.elim
end
end Dem
end
section
open Go
namespace Dem
section
variable {P:Program} {G:Nat→Option (List D)} {β β':Nat→Nat} {bx aU:List aA} {w w':World} {X:Nat→Prop}
theorem mj {i:Nat} (h:Ob bx i=true):cj bx i:=by
 unfold Ob at h
 split at h
 ·rename_i b hb;exact ⟨b,hb,h⟩
 cases h
mutual
theorem CA {ok ok':Nat→Prop} {jS:List aA} {dt:Bool} (h:∀b,cj jS b→β' b=β b∧cj aU b) (hd:dt=true→∀d v,aL w ok d v→aL w' ok' d v):∀(x:AV) (v:Value),x.loose dt=true→x.bU jS=true→ak β bx w ok x v→ak β' aU w' ok' x v
 |.any,_,_,_,_=>by simp [ak]
 |.d y,v,hs,_,hv=>by
  simp only [ak] at hv ⊢
  cases hdt:dt with
  |true=>exact hd hdt y v hv
  |false=>subst hdt;cases y<;>simp [AV.loose] at hs<;>simpa [aL] using hv
 |.k c,v,_,_,hv=>by simpa [ak] using hv
 |.agg cs,v,hs,hn,hv=>by
  simp only [ak] at hv ⊢;obtain ⟨vs,h1,h2⟩:=hv
  exact ⟨vs,h1,mo h hd cs vs (by simpa [AV.loose] using hs) (by simpa [AV.bU] using hn) h2⟩
 |.eA cs,v,hs,_,hv=>by simp [AV.loose] at hs
 |.ptr b off,v,_,hn,hv=>by
  have g:=mj (by simpa [AV.bU] using hn)
  simp only [ak] at hv ⊢;obtain ⟨e,_⟩:=hv;exact ⟨by rw [(h b g).1];exact e,(h b g).2⟩
 |.rp b sz i j,v,_,hn,hv=>by
  have g:=mj (by simpa [AV.bU] using hn)
  simp only [ak] at hv ⊢;obtain ⟨e,_⟩:=hv;exact ⟨by rw [(h b g).1];exact e,(h b g).2⟩
 |.ow _ _ _,_,hs,_,_=>by simp [AV.loose] at hs
 |.BJ _,_,hs,_,_=>by simp [AV.loose] at hs
 |.vw _ _ _ _ _ _,_,hs,_,_=>by simp [AV.loose] at hs
 |.ep _,_,hs,_,_=>by simp [AV.loose] at hs
 |.cl _,_,hs,_,_=>by simp [AV.loose] at hs
 |.fn f cs,v,hs,hn,hv=>by
  simp only [ak] at hv ⊢;obtain ⟨vs,h1,h2⟩:=hv
  exact ⟨vs,h1,mo h hd cs vs (by simpa [AV.loose] using hs) (by simpa [AV.bU] using hn) h2⟩
 |.rY t x,v,hs,hn,hv=>by
  simp only [ak] at hv ⊢;obtain ⟨u,h1,h2⟩:=hv
  exact ⟨u,h1,CA h hd x u (by simpa [AV.loose] using hs) (by simpa [AV.bU] using hn) h2⟩
 |.cond _ _,_,hs,_,_=>by simp [AV.loose] at hs
theorem mo {ok ok':Nat→Prop} {jS:List aA} {dt:Bool} (h:∀b,cj jS b→β' b=β b∧cj aU b) (hd:dt=true→∀d v,aL w ok d v→aL w' ok' d v):∀(xs:List AV) (vs:List Value),AV.nv dt xs=true→AV.bU.dw jS xs=true→an β bx w ok xs vs→an β' aU w' ok' xs vs
 |[],vs,_,_,hv=>by simpa [an] using hv
 |x::xs,vs,hs,hn,hv=>by
  simp only [an] at hv ⊢
  obtain ⟨u,us,h1,h2,h3⟩:=hv
  simp only [AV.nv] at hs
  simp only [AV.bU.dw,Bool.and_eq_true] at hn
  cases hx:x.loose dt with
  |false=>simp [hx] at hs
  |true=>
   simp only [hx,cond_true] at hs
   exact ⟨u,us,h1,CA h hd x u hx hn.1 h2,mo h hd xs us hs hn.2 h3⟩
end
mutual
theorem wj {ok ok':Nat→Prop} {jS:List aA} (h:∀blk,ok blk→ok' blk):∀(x:AV) (v:Value),x.bU jS=true→ak β bx w ok x v→ak β jS w ok' x v
 |.any,_,_,_=>by simp [ak]
 |.d x,v,_,hv=>by simp only [ak] at hv ⊢;exact aL.mono (fun blk hb=>⟨h blk hb,rfl⟩) _ _ hv
 |.k c,v,_,hv=>by simpa [ak] using hv
 |.agg cs,v,hs,hv=>by
  simp only [ak] at hv ⊢;obtain ⟨vs,h1,h2⟩:=hv
  exact ⟨vs,h1,mq h cs vs (by simpa [AV.bU] using hs) h2⟩
 |.eA cs,v,hs,hv=>by
  simp only [ak] at hv ⊢;obtain ⟨vs,h1,h2⟩:=hv
  exact ⟨vs,h1,mq h cs vs (by simpa [AV.bU] using hs) h2⟩
 |.ptr b off,v,hs,hv=>by
  have g:=mj (by simpa [AV.bU] using hs)
  simp only [ak] at hv ⊢;exact ⟨hv.1,g⟩
 |.rp b sz i j,v,hs,hv=>by
  have g:=mj (by simpa [AV.bU] using hs)
  simp only [ak] at hv ⊢;exact ⟨hv.1,g⟩
 |.BJ b,v,hs,hv=>by
  have g:=mj (by simpa [AV.bU] using hs)
  simp only [ak] at hv ⊢;exact ⟨hv.1,g⟩
 |.ow b sz m,v,hs,hv=>by
  have g:=mj (by simpa [AV.bU] using hs)
  simp only [ak] at hv ⊢;exact ⟨g,hv.2⟩
 |.vw b sz off m c ex,v,hs,hv=>by
  have g:=mj (by simpa [AV.bU] using hs)
  simp only [ak] at hv ⊢;exact ⟨g,hv.2⟩
 |.ep ds,v,_,hv=>by
  simp only [ak] at hv ⊢;obtain ⟨blk,off,h1,h2,h3⟩:=hv
  exact ⟨blk,off,h1,h blk h2,aY.mono (fun blk hb=>⟨h blk hb,rfl⟩) blk (fun _=>rfl) _ _ h3⟩
 |.cl es,v,_,hv=>by
  simp only [ak] at hv ⊢;obtain ⟨base,h1,h2⟩:=hv
  refine ⟨base,h1,h2.imp id ?_⟩
  rintro ⟨blk,off,sz,e1,e2,e3⟩
  exact ⟨blk,off,sz,e1,h blk e2,ay.mono (fun blk hb=>⟨h blk hb,rfl⟩) blk sz (fun _=>rfl) _ _ e3⟩
 |.fn f cs,v,hs,hv=>by
  simp only [ak] at hv ⊢;obtain ⟨vs,h1,h2⟩:=hv
  exact ⟨vs,h1,mq h cs vs (by simpa [AV.bU] using hs) h2⟩
 |.rY t x,v,hs,hv=>by
  simp only [ak] at hv ⊢;obtain ⟨u,h1,h2⟩:=hv
  exact ⟨u,h1,wj h x u (by simpa [AV.bU] using hs) h2⟩
 |.cond p x,v,hs,hv=>by
  simp only [ak] at hv ⊢
  exact ⟨fun hp=>wj h x v (by simpa [AV.bU] using hs) (hv.1 hp),hv.2⟩
theorem mq {ok ok':Nat→Prop} {jS:List aA} (h:∀blk,ok blk→ok' blk):∀(xs:List AV) (vs:List Value),AV.bU.dw jS xs=true→an β bx w ok xs vs→an β jS w ok' xs vs
 |[],vs,_,hv=>by simpa [an] using hv
 |x::xs,vs,hs,hv=>by
  simp only [an] at hv ⊢
  obtain ⟨u,us,h1,h2,h3⟩:=hv
  simp only [AV.bU.dw,Bool.and_eq_true] at hs
  exact ⟨u,us,h1,wj h x u hs.1 h2,mq h xs us hs.2 h3⟩
end
theorem mr {dt:Bool} {jS:List aA}:∀{bs:List aA} {i:Nat} {b:aA},eB dt jS bs=true→bs[i]?=some b→(∃cs,b=.var cs∧AV.nv dt cs=true∧AV.bU.dw jS cs=true)∨b=.dead∨b=.bw
 |[],i,b,_,hi=>by simp at hi
 |b0::bs,i,b,h,hi=>by
  have hr:eB dt jS bs=true∧((∃cs,b0=.var cs∧AV.nv dt cs=true∧AV.bU.dw jS cs=true)∨b0=.dead∨b0=.bw):=by
   cases b0 with
   |var cs=>
    simp only [eB] at h
    cases hc:(AV.nv dt cs&&AV.bU.dw jS cs) with
    |false=>simp [hc] at h
    |true=>simp only [hc,cond_true] at h;simp at hc;exact ⟨h,.inl ⟨cs,rfl,hc.1,hc.2⟩⟩
   |dead=>exact ⟨h,.inr (.inl rfl)⟩
   |bw=>exact ⟨h,.inr (.inr rfl)⟩
   |_=>simp [eB] at h
  cases i with
  |zero=>simp only [List.getElem?_cons_zero,osI] at hi;subst hi;exact hr.2
  |succ i=>simp only [List.getElem?_cons_succ] at hi;exact mr hr.1 hi
theorem zS {x:AV} {i:Nat} {b:aA} (h:(x.cC bx)[i]?=some b):bx[i]?=some b∨∃s es,bx[i]?=some (.row s es)∧b=.kI s es:=by
 have go:∀k:Nat,(match bx[k]? with|some (.row s es)=>bx.set k (.kI s es)|_=>bx)[i]?=some b→bx[i]?=some b∨∃s es,bx[i]?=some (.row s es)∧b=.kI s es:=by
  intro k h
  split at h
  ·rename_i s es hk
   rcases aP h with ⟨rfl,rfl,_⟩|⟨_,h2⟩
   ·exact .inr ⟨s,es,hk,rfl⟩
   exact .inl h2
  exact .inl h
 cases x with
 |ow k _ _=>exact go k h
 |vw k _ _ _ _ _=>exact go k h
 |_=>exact .inl h
theorem CB:∀{xs:List AV} {bx:List aA} {i:Nat} {b:aA},(eE bx xs)[i]?=some b→bx[i]?=some b∨∃s es,bx[i]?=some (.row s es)∧b=.kI s es
 |[],_,_,_,h=>.inl h
 |x::xs,bx,i,b,h=>by
  rcases CB (xs:=xs) (bx:=x.cC bx) h with h1|⟨s,es,h1,rfl⟩
  ·exact zS h1
  rcases zS h1 with h2|⟨_,_,_,h3⟩
  ·exact .inr ⟨s,es,h2,rfl⟩
  cases h3
theorem tc:∀{xs:List AV} {bx:List aA} {i:Nat} {b:aA},(fw bx xs)[i]?=some b→bx[i]?=some b∨∃s es,bx[i]?=some (.row s es)∧b=.kI s es
 |[],_,_,_,h=>.inl h
 |x::xs,bx,i,b,h=>by
  have one:∀{b:aA},(lW bx x)[i]?=some b→bx[i]?=some b∨∃s es,bx[i]?=some (.row s es)∧b=.kI s es:=by
   intro b h
   cases x with
   |agg cs=>exact CB h
   |_=>simp only [lW] at h;exact zS h
  rcases tc (xs:=xs) (bx:=lW bx x) h with h1|⟨s,es,h1,rfl⟩
  ·exact one h1
  rcases one h1 with h2|⟨_,_,_,h3⟩
  ·exact .inr ⟨s,es,h2,rfl⟩
  cases h3
theorem xF {f:Nat} {args:List AV} {vs:List Value} {v:AV} (cx:cP G β bx w X) (hx:an β bx w (bp β bx w X) args vs) (h:mW (bF P G) f args bx v):
 jD P f ⟨vs⟩ w fun e w'=>∃u,e=.returned u∧Ext β bx w β bx w'∧cP G β bx w' X∧ak β bx w' (bp β bx w' X) v u:=by
 obtain ⟨nP,jS,hz,hnm,⟨dt,hl,hdt⟩,hin,hf,hv⟩:=h
 obtain ⟨e1,cxS,hargs⟩:=lS args bx nP vs cx hz hx
 have cG:∀(i:Nat) (b:aA),jS[i]?=some b→b.live=true→bx[i]?=some b:=by
  intro i b hi hb
  obtain ⟨b',h1,h2,h3⟩:=hin i b hi (rE hb)
  rw [h3 hb] at h1;exact h1
 have dW:∀i,cj jS i→cj bx i:=by
  rintro i ⟨b,h1,h2⟩
  obtain ⟨b',h3,h4,_⟩:=hin i b h1 h2
  exact ⟨b',h3,h4⟩
 have Wj:∀(i:Nat) (b:aA),(fw bx args)[i]?=some b→b.live=true→bx[i]?=some b:=by
  intro i b hi hb
  rcases tc hi with h1|⟨s,es,_,rfl⟩
  ·exact h1
  simp [aA.live] at hb
 have T2:∀(i:Nat) (b:aA),jS[i]?=some b→b.live=true→∃cs,b=.var cs∧AV.nv dt cs=true∧AV.bU.dw jS cs=true:=by
  intro i b hi hb
  rcases mr hl hi with h1|rfl|rfl
  ·exact h1
  ·simp [aA.live] at hb
  simp [aA.live] at hb
 let XV:Nat→Prop:=fun blk=>X blk∨∃(i:Nat) (b:aA),(fw bx args)[i]?=some b∧b.live=true∧(∀b',jS[i]?=some b'→b'.live=false)∧β i=blk
 have hok:∀blk,bp β (fw bx args) w X blk→bp β jS w XV blk:=by
  rintro blk ⟨k1,k2,k3⟩
  refine ⟨k1,?_,?_⟩
  ·rintro (hX|⟨i,b,h1,h2,_,h3⟩)
   ·exact k2 hX
   exact k3 i b h1 h2 h3
  intro i b hi hb he
  obtain ⟨cs,rfl,_⟩:=T2 i b hi hb
  have rG:=cG i _ hi hb
  obtain ⟨_,b',hb',_⟩:=e1.born i ⟨_,rG,rfl⟩
  rcases tc hb' with h4|⟨s,es,h4,_⟩
  ·rw [rG] at h4;cases h4
   exact k3 i _ hb' rfl he
  rw [rG] at h4;cases h4
 have uH:∀{β1:Nat→Nat} {w':World},fe [] args=some nP→Ext β jS w β1 jS w'→∀blk,bp β1 jS w' XV blk→bp β bx w' X blk:=by
  rintro β1 w' OG zN blk ⟨k1,k2,k3⟩
  refine ⟨k1,fun hX=>k2 (.inl hX),?_⟩
  intro i b hi hb he
  by_cases hk:∃b',jS[i]?=some b'∧b'.live=true
  ·obtain ⟨b',h1,h2⟩:=hk
   refine k3 i b' h1 h2 ?_
   rw [(zN.born i ⟨b',h1,rE h2⟩).1];exact he
  refine k2 (.inr ⟨i,b,by rw [ki bx OG];exact hi,hb,?_,he⟩)
  intro b' hb'
  cases hq:b'.live with
  |false=>rfl
  |true=>exact absurd ⟨b',hb',hq⟩ hk
 have cxV:cP G β jS w XV:=by
  refine ⟨?_,?_,?_,?_,?_⟩
  ·rintro blk (hX|⟨i,b,h1,h2,_,rfl⟩)
   ·exact cx.xs blk hX
   exact dz.fJ (cx.box i b (Wj i b h1 h2)) h2
  ·intro g ds hg
   obtain ⟨k1,k2⟩:=cxS.yH g ds hg
   exact ⟨hok g k1,aY.mono (fun blk hb=>⟨hok blk hb,rfl⟩) g (fun _=>rfl) _ _ k2⟩
  ·intro i j bi bj hi hj li lj
   exact cx.inj i j bi bj (cG i bi hi li) (cG j bj hj lj) li lj
  ·intro i b hi
   rcases mr hl hi with ⟨cs,rfl,hcs,fF⟩|rfl|rfl
   ·have hb:=cx.box i _ (cG i _ hi rfl)
    simp only [dz] at hb ⊢
    obtain ⟨c,e,g1,g2⟩:=hb
    exact ⟨c,e,g1,mo (jS:=jS) (fun b hb=>⟨rfl,hb⟩) (fun hd d v hv=>aL.mono (fun blk hb=>⟨hok blk (by rw [ki bx (hdt hd)];exact hb),rfl⟩) d v hv) cs _ hcs fF g2⟩
   ·trivial
   trivial
  intro i b hi hb
  rintro (hX|⟨j,b2,h1,h2,h3,h4⟩)
  ·exact cx.apart i b (cG i b hi hb) hb hX
  have:j=i:=cx.inj j i b2 b (Wj j b2 h1 h2) (cG i b hi hb) h2 hb h4
  subst this
  rw [h3 b hi] at hb;cases hb
 have UM:an β jS w (bp β jS w XV) nP vs:=mq hok _ _ hnm hargs
 refine jD.mono (hf β w vs XV cxV UM) ?_
 rintro e w' ⟨β1,zN,RR,hres⟩
 have ex:Ext β bx w β bx w':=⟨zN.os,zN.tape,zN.output,zN.size,fun k hk hn=>zN.block k hk (fun i b hi hb=>hn i b (cG i b hi hb) hb),zN.shape,fun i hi=>⟨rfl,hi⟩,fun i b h1 h2=>.inr ⟨i,b,h1,h2,rfl⟩⟩
 cases e with
 |returned u=>
  refine ⟨u,rfl,ex,cx.step ex ?_ cx.inj,?_⟩
  ·intro i b hi
   by_cases hk:∃b',jS[i]?=some b'∧b'.live=true
   ·obtain ⟨b',h1,h2⟩:=hk
    have h3:=cG i b' h1 h2
    rw [hi] at h3;cases h3
    obtain ⟨cs,rfl,hcs,fF⟩:=T2 i b h1 h2
    refine .inr ?_
    have hb:=RR.box i _ h1
    simp only [dz] at hb ⊢
    obtain ⟨c,e,g1,g2⟩:=hb
    have xu:cj jS i:=⟨_,h1,rfl⟩
    rw [(zN.born i xu).1] at g1
    exact ⟨c,e,g1,mo (jS:=jS) (fun b hb=>⟨((zN.born b hb).1).symm,dW b hb⟩) (fun hd d v hv=>aL.mono (fun blk hb=>⟨uH (hdt hd) zN blk hb,rfl⟩) d v hv) cs _ hcs fF g2⟩
   refine .inl ⟨hi,fun hlv=>zN.block _ (dz.fJ (cx.box i b hi) hlv) ?_⟩
   intro j b2 hj sE he
   have:=cx.inj j i b2 b (cG j b2 hj sE) hi sE hlv he
   subst this
   exact hk ⟨b2,hj,sE⟩
  rcases hv with hfl|⟨OG,hsh⟩
  ·exact FK v u hfl hres
  refine pY ?_ v u hsh hres
  rintro blk ⟨k1,k2,k3⟩
  refine ⟨k1,fun hX=>k2 (.inl hX),?_⟩
  intro i b hi hb he
  by_cases hk:∃b',jS[i]?=some b'∧b'.live=true
  ·obtain ⟨b',h1,h2⟩:=hk
   refine k3 i b' h1 h2 ?_
   rw [(zN.born i ⟨b',h1,rE h2⟩).1];exact he
  refine k2 (.inr ⟨i,b,by rw [ki bx OG];exact hi,hb,?_,he⟩)
  intro b' hb'
  cases hq:b'.live with
  |false=>rfl
  |true=>exact absurd ⟨b',hb',hq⟩ hk
 |panicked ch=>exact hres.elim
 |outgrown=>exact hres.elim
theorem lC {f:Nat} {args:List AV} {vs:List Value} {v:AV} {K:AV→List aA→Prop} (cx:cP G β bx w X) (hx:an β bx w (bp β bx w X) args vs) (h:mW (bF P G) f args bx v) (hK:K v bx):
 jD P f ⟨vs⟩ w fun e w'=>∃β' aU v u,e=.returned u∧Ext β bx w β' aU w'∧cP G β' aU w' X∧ak β' aU w' (bp β' aU w' X) v u∧K v aU:=
 jD.mono (xF cx hx h) fun _ _ ⟨u,h1,h2,h3,h4⟩=>⟨β,bx,v,u,h1,h2,h3,h4,hK⟩
end
end Dem
end
section
open Go
namespace Dem
section
variable {P:Program} {T:Nat→Option TI} {G:Nat→Option (List D)} {β:Nat→Nat} {bx:List aA} {w:World} {X:Nat→Prop}
theorem OH {a b:D} (h:pe a b=true):a=b:=by
 cases a<;>cases b<;>simp [pe] at h
 ·rw [h.1,h.2]
 rw [h]
theorem FR {d:TypeDesc} {a b:D} {u v:Value} {ok:Nat→Prop} (ha:nJ (cY d) a=true) (hb:nJ (cY d) b=true) (hu:aL w ok a u) (hv:aL w ok b v):Instr.sameNow d u v=some (pe a b):=by
 cases d<;>cases a<;>simp [cY,nJ] at ha<;>cases b<;>simp [cY,nJ] at hb<;>simp only [aL] at hu hv<;>subst hu hv
 ·subst ha hb;simp only [Instr.sameNow,pe,if_true,beq_self_eq_true,Bool.true_and];congr 1
 rename_i a b
 have:(⟨a.toArray⟩:ByteArray)=⟨b.toArray⟩↔a=b:=by
  constructor
  ·intro h;simpa using h
  rintro rfl;rfl
 by_cases h:a=b
 ·subst h;simp only [Instr.sameNow,pe];congr 1;show (a.toArray==a.toArray)=decide True;simp
 have h2:¬((⟨a.toArray⟩:ByteArray)=⟨b.toArray⟩):=fun e=>h (this.1 e)
 simp only [Instr.sameNow,pe];congr 1;show (a.toArray==b.toArray)=decide (a=b);rw [show decide (a=b)=false by simp [h]];exact beq_eq_false_iff_ne.2 (fun e=>h (by simpa using e))
theorem Mq {kd:Kd} {a:D} {u v:Value} {ok:Nat→Prop} (ha:nJ kd a=true) (hu:aL w ok a u) (hv:aL w ok a v):u=v:=by
 cases a<;>cases kd<;>simp [nJ] at ha<;>simp only [aL] at hu hv<;>rw [hu,hv]
theorem p7 {d:TypeDesc} {ag:Bool} {n:Nat} {k:D} {kv:Value} {ok:Nat→Prop} (hk:nJ (cY d) k=true) (hkv:aL w ok k kv):
 ∀(es:List (List D)) (ms:List MapEntry) (i:Nat),bt w ok ag es ms→(∀r∈es,rowIs (cY d) n r)→
  (vV es k=none∧Instr.findNow d kv ms i=some none∧∀v,rZ es k v=es++[k::v])∨
  (∃(j:Nat) (m:MapEntry) (ds:List D),Instr.findNow d kv ms i=some (some (i+j,m.val))∧ms[j]?=some m∧vV es k=some ds∧ds.length=n∧m.key=kv∧ia w ok ag (k::ds) m∧∀v,rZ es k v=es.set j (k::v))
 |[],ms,i,h,_=>by
  simp only [bt] at h;subst h
  exact .inl ⟨rfl,rfl,fun _=>rfl⟩
 |r::rs,ms,i,h,hr=>by
  simp only [bt] at h
  obtain ⟨m,Fc,rfl,h1,h2⟩:=h
  obtain ⟨x,ds,rfl,hx,hl⟩:=hr r (by simp)
  have La:=h1
  simp only [ia] at h1
  obtain ⟨g1,g2⟩:=h1
  have hs:=FR hk hx hkv g1
  simp only [vV,rZ,Instr.findNow,hs]
  cases he:pe k x with
  |true=>
   obtain rfl:=OH he
   refine .inr ⟨0,m,ds,by simp,by simp,by simp,hl,Mq hk g1 hkv,La,fun v=>by simp⟩
  |false=>
   simp only [cond_false]
   rcases p7 hk hkv rs Fc (i+1) h2 (fun r hr'=>hr r (by simp [hr'])) with ⟨k1,k2,k3⟩|⟨j,m',ds',k1,k2,k3,k4,k5,k6,k7⟩
   ·exact .inl ⟨k1,k2,fun v=>by rw [k3];rfl⟩
   refine .inr ⟨j+1,m',ds',?_,by simpa using k2,k3,k4,k5,k6,fun v=>by rw [k7];rfl⟩
   rw [k1,show i+1+j=i+(j+1) by omega]
theorem run_checkKey {e:Bool} {t:Nat} {d:TypeDesc} {k:D} {kv:Value} {ok:Nat→Prop} (ht:P.underlying t=some d) (hk:nJ (cY d) k=true) (hkv:aL w ok k kv):(Instr.checkKey e 10000 t kv).run P w=.ok () w:=by
 show (Instr.checkKey e (9999+1) t kv).run P w=.ok () w
 unfold Instr.checkKey
 cases d<;>cases k<;>simp [cY,nJ] at hk<;>simp only [aL] at hkv<;>subst hkv<;>simp [aV ht]
theorem run_findKey {t:Nat} {d:TypeDesc} {kv:Value} {ms:List MapEntry} {r:Option (Nat×Value)} (ht:P.underlying t=some d) (h:Instr.findNow d kv ms 0=some r):(Instr.findKey t kv ms).run P w=.ok r w:=by
 unfold Instr.findKey
 simp [aV ht,h]
theorem bt.append {ag:Bool} {ok:Nat→Prop}:∀{es:List (List D)} {ms:List MapEntry} {fs:List (List D)} {ns:List MapEntry},bt w ok ag es ms→bt w ok ag fs ns→bt w ok ag (es++fs) (ms++ns)
 |[],ms,fs,ns,h,g=>by simp only [bt] at h;subst h;exact g
 |r::rs,ms,fs,ns,h,g=>by
  simp only [bt] at h
  obtain ⟨m,Fc,rfl,h1,h2⟩:=h
  simp only [List.cons_append,bt]
  exact ⟨m,_,rfl,h1,h2.append g⟩
theorem bt.set {ag:Bool} {ok:Nat→Prop} {r:List D} {m:MapEntry} (hm:ia w ok ag r m):∀{es:List (List D)} {ms:List MapEntry} (j:Nat),bt w ok ag es ms→bt w ok ag (es.set j r) (ms.set j m)
 |[],ms,j,h=>by simp only [bt] at h;subst h;simp [bt]
 |x::xs,ms,0,h=>by
  simp only [bt] at h
  obtain ⟨m',Fc,rfl,h1,h2⟩:=h
  simp only [List.set_cons_zero,bt]
  exact ⟨m,Fc,rfl,hm,h2⟩
 |x::xs,ms,j+1,h=>by
  simp only [bt] at h
  obtain ⟨m',Fc,rfl,h1,h2⟩:=h
  simp only [List.set_cons_succ,bt]
  exact ⟨m',_,rfl,h1,bt.set hm j h2⟩
theorem cN.WR {ok:Nat→Prop}:∀{ds:List D} {vs:List Value},cN w ok ds vs→an β bx w ok (ds.map .d) vs
 |[],vs,h=>by simp only [cN] at h;subst h;simp [an]
 |d::ds,vs,h=>by
  simp only [cN] at h
  obtain ⟨v,r,rfl,h1,h2⟩:=h
  simp only [List.map_cons,an]
  exact ⟨v,r,rfl,by simpa [ak] using h1,h2.WR⟩
theorem cN.length {ok:Nat→Prop}:∀{ds:List D} {vs:List Value},cN w ok ds vs→vs.length=ds.length
 |[],vs,h=>by simp only [cN] at h;subst h;rfl
 |d::ds,vs,h=>by
  simp only [cN] at h
  obtain ⟨v,r,rfl,_,h2⟩:=h
  simp [cN.length h2]
theorem ia.val {ag:Bool} {ok:Nat→Prop} {k:D} {ds:List D} {m:MapEntry} (h:ia w ok ag (k::ds) m) {n:Nat} (hn:ds.length=n) {v:AV} (hv:cR ag n (ds.map .d)=some v):ak β bx w ok v m.val:=by
 simp only [ia] at h
 obtain ⟨_,cs,h2,h3,h4⟩:=h
 have hl:=h4.length
 have ha:=h4.WR (β:=β) (bx:=bx)
 cases ag with
 |true=>
  simp only [cR,cond_true] at hv
  rw [cond_true] at h2
  have hle:Nat.ble n (ds.map AV.d).length=true:=by simp [hn]
  simp only [hle,cond_true,osI] at hv
  subst hv
  rw [h2];simp only [ak]
  refine ⟨cs,rfl,?_⟩
  rw [List.take_of_length_le (by simp [hn])];exact ha
 |false=>
  simp only [cR,cond_false] at hv
  rw [cond_false] at h2
  have h1:=h3 rfl
  obtain ⟨c,rfl⟩:∃c,cs=[c]:=by
   match cs,h1 with
   |[c],_=>exact ⟨c,rfl⟩
  cases ds with
  |nil=>simp at hl
  |cons d ds=>
   simp at hv;subst hv
   rw [h2]
   simp only [List.map_cons,an] at ha
   obtain ⟨u,us,e,g,_⟩:=ha
   simp at e;obtain ⟨rfl,rfl⟩:=e
   simpa [ak] using g
theorem yU {r c:Nat} {es:Array MapEntry} (h:w.heap[r]?=some (.map es c)):(getObj r).run P w=.ok (.map es c) w:=by simp [getObj,Sem.run,h]
theorem run_setObj_map {r c:Nat} {es:Array MapEntry} (o:Obj) (h:w.heap[r]?=some (.map es c)):(setObj r o).run P w=.ok () {w with heap:=w.heap.setIfInBounds r o}:=by simp [setObj,Sem.run,h]
theorem CC (hT:kD P T) (cx:cP G β bx w X) {ty:Nat} {m:AV} {u:Value} {tk te:TI} {ag:Bool} {es:List (List D)} (h:zy T ty m bx=some (tk,te,ag,es)) (hu:ak β bx w (bp β bx w X) m u):
 ∃(kt et:Nat) (dk:TypeDesc),P.underlying ty=some (.map kt et)∧P.underlying kt=some dk∧tk.kd=cY dk∧pF P et=some te∧
  ((u=.map none∧es=[])∨∃r ms clock,u=.map (some r)∧w.heap[r]?=some (.map ms clock)∧lZ ms clock∧bt w (bp β bx w X) ag es ms.toList):=by
 unfold zy at h
 split at h
 ·rename_i ti ht
  obtain ⟨i,d,h1,h2,h3,h4,h5,h6⟩:=aJ (hT.ti _ _ ht)
  split at h
  ·rename_i k e hk
   rw [h5] at hk
   cases d<;>simp [cY] at hk
   obtain ⟨vT,hk2⟩:=hk
   rw [vT,hk2] at h2
   have fin:∀{Ld UN:TI} {Rx:Bool} {es':List (List D)},T k=some Ld→T e=some UN→(Ld,UN,Rx,es')=(tk,te,ag,es)→
    ((u=.map none∧es=[])∨∃r ms clock,u=.map (some r)∧w.heap[r]?=some (.map ms clock)∧lZ ms clock∧bt w (bp β bx w X) ag es ms.toList)→∃(kt et:Nat) (dk:TypeDesc),P.underlying ty=some (.map kt et)∧P.underlying kt=some dk∧tk.kd=cY dk∧pF P et=some te∧
    ((u=.map none∧es=[])∨∃r ms clock,u=.map (some r)∧w.heap[r]?=some (.map ms clock)∧lZ ms clock∧bt w (bp β bx w X) ag es ms.toList):=by
    intro Ld UN Rx es' a1 a2 a3 a4
    simp only [Prod.mk.injEq] at a3
    obtain ⟨rfl,rfl,rfl,rfl⟩:=a3
    obtain ⟨_,dk,_,b2,_,_,b5,_⟩:=aJ (hT.ti _ _ a1)
    exact ⟨k,e,dk,h2,b2,b5,hT.ti _ _ a2,a4⟩
   split at h
   ·rename_i Ld UN Rx es' a1 a2
    simp only [osI] at h
    refine fin a1 a2 h ?_
    simp only [Prod.mk.injEq] at h
    obtain ⟨rfl,rfl,rfl,rfl⟩:=h
    simp only [ak,aL] at hu
    obtain ⟨r,ms,clock,g1,_,g2,g3,g4⟩:=hu
    exact .inr ⟨r,ms,clock,g1,g2,g3,g4⟩
   ·rename_i Ld UN a1 a2
    simp only [osI] at h
    refine fin a1 a2 h ?_
    simp only [Prod.mk.injEq] at h
    obtain ⟨rfl,rfl,rfl,rfl⟩:=h
    simp only [ak,KC.val] at hu
    exact .inl ⟨hu,rfl⟩
   ·rename_i Ld UN b a1 a2
    split at h
    ·rename_i Rx es' hb
     simp only [osI] at h
     refine fin a1 a2 h ?_
     simp only [Prod.mk.injEq] at h
     obtain ⟨rfl,rfl,rfl,rfl⟩:=h
     simp only [ak] at hu
     obtain ⟨ms,clock,g2,g3,g4⟩:=cx.box b _ hb
     exact .inr ⟨β b,ms,clock,hu.1,g2,g3,g4⟩
    cases h
   cases h
  cases h
 cases h
theorem IN (hT:kD P T) (cx:cP G β bx w X) {ty:Nat} {m:AV} {u kv:Value} {k:D} {tk te:TI} {ag BN:Bool} {es:List (List D)} (h:zy T ty m bx=some (tk,te,ag,es)) (hu:ak β bx w (bp β bx w X) m u)
 (hkv:aL w (bp β bx w X) k kv) (hf:vW tk te ag es k) {K:AV→Prop} (hK:oo te BN K (vV es k)):
 ∃v x,(Instr.lookup ty u kv BN).run P w=.ok x w∧ak β bx w (bp β bx w X) v x∧K v:=by
 obtain ⟨kt,et,dk,u1,u2,u3,u4,hu⟩:=CC hT cx h hu
 obtain ⟨f1,f2,f3⟩:=hf
 rw [u3] at f2 f3
 have none_:∀ms:Array MapEntry,(∃e:Bool,Instr.findNow dk kv ms.toList 0=some none)→vV es k=none→(u=.map none∧ms=#[]∨∃r clock,u=.map (some r)∧w.heap[r]?=some (.map ms clock))→
  ∃v x,(Instr.lookup ty u kv BN).run P w=.ok x w∧ak β bx w (bp β bx w X) v x∧K v:=by
  rintro ms ⟨_,hfn⟩ hg hms
  rw [hg] at hK
  simp only [oo] at hK
  split at hK
  ·rename_i z hz
   obtain ⟨zv,z1,z2⟩:=FF (β:=β) (bx:=bx) (w:=w) (ok:=bp β bx w X) u4 hz
   refine ⟨_,bif BN then .tuple #[zv,.bool false] else zv,?_,?_,hK⟩
   ·rcases hms with ⟨rfl,rfl⟩|⟨r,clock,rfl,hh⟩
    ·unfold Instr.lookup
     cases BN<;>simp [aV u1,run_checkKey u2 f2 hkv,run_findKey (w:=w) u2 hfn,z1]
    unfold Instr.lookup
    cases BN<;>simp [aV u1,yU hh,run_checkKey u2 f2 hkv,run_findKey (w:=w) u2 hfn,z1]
   cases BN with
   |true=>simp only [cond_true,ak,an,aL];exact ⟨_,rfl,_,_,rfl,z2,_,_,rfl,rfl,rfl⟩
   |false=>exact z2
  exact hK.elim
 rcases hu with ⟨rfl,rfl⟩|⟨r,ms,clock,rfl,hh,hst,OI⟩
 ·exact none_ #[] ⟨true,rfl⟩ rfl (.inl ⟨rfl,rfl⟩)
 rcases p7 f2 hkv es ms.toList 0 OI f3 with ⟨k1,k2,_⟩|⟨j,e,ds,k1,k2,k3,k4,k5,k6,_⟩
 ·exact none_ ms ⟨true,k2⟩ k1 (.inr ⟨r,clock,rfl,hh⟩)
 rw [k3] at hK
 simp only [oo] at hK
 split at hK
 ·rename_i v hv
  have hvv:=k6.val (β:=β) (bx:=bx) k4 (by rw [←f1] at hv;exact hv)
  refine ⟨_,bif BN then .tuple #[e.val,.bool true] else e.val,?_,?_,hK⟩
  ·unfold Instr.lookup
   cases BN<;>simp [aV u1,yU hh,run_checkKey u2 f2 hkv,run_findKey (w:=w) u2 k1]
  cases BN with
  |true=>simp only [cond_true,ak,an,aL];exact ⟨_,rfl,_,_,rfl,hvv,_,_,rfl,rfl,rfl⟩
  |false=>exact hvv
 exact hK.elim
theorem zT {b:Nat} {B B':aA} {o o':Obj} (hb:bx[b]?=some B) (hl:B.live=true) (hl':B'.live=true) (hh:w.heap[β b]?=some o) (ho:∀c e f,o≠.cells c e f):
 Ext β bx w β (bx.set b B') {w with heap:=w.heap.setIfInBounds (β b) o'}:=by
 refine ⟨rfl,rfl,rfl,by simp,?_,?_,fun i hi=>⟨rfl,iE (rE hl') hi⟩,?_⟩
 ·intro k hk hlk
  have hne:β b≠k:=hlk b _ hb hl
  simp [Array.getElem?_setIfInBounds_ne hne]
 ·intro k c e f hk
  have hne:β b≠k:=by rintro rfl;rw [hh] at hk;cases hk;exact ho c e f rfl
  exact ⟨c,by simp [Array.getElem?_setIfInBounds_ne hne,hk],rfl⟩
 intro i Bi hi mP
 rcases aP hi with ⟨rfl,_,_⟩|⟨_,h⟩
 ·exact .inr ⟨i,_,hb,hl,rfl⟩
 exact .inr ⟨i,Bi,h,mP,rfl⟩
theorem IP (cx:cP G β bx w X) {b:Nat} {B B':aA} {o o':Obj} (hb:bx[b]?=some B) (hl:B.live=true) (hl':B'.live=true) (hh:w.heap[β b]?=some o) (ho:∀c e f,o≠.cells c e f)
 (hB:dz β (bx.set b B') {w with heap:=w.heap.setIfInBounds (β b) o'} (bp β (bx.set b B') {w with heap:=w.heap.setIfInBounds (β b) o'} X) B' (β b)):
 cP G β (bx.set b B') {w with heap:=w.heap.setIfInBounds (β b) o'} X:=by
 refine cx.step (zT hb hl hl' hh ho) ?_ ?_
 ·intro i Bi hi
  rcases aP hi with ⟨rfl,rfl,_⟩|⟨hne,h⟩
  ·exact .inr hB
  refine .inl ⟨h,fun mP=>?_⟩
  have Ow:β b≠β i:=fun he=>hne (cx.inj b i _ Bi hb h hl mP he).symm
  simp [Array.getElem?_setIfInBounds_ne Ow]
 intro i j bi bj hi hj mP oD he
 rcases aP hi with ⟨rfl,rfl,_⟩|⟨h1,h2⟩<;>rcases aP hj with ⟨rfl,rfl,_⟩|⟨h3,h4⟩
 ·rfl
 ·exact cx.inj _ _ _ _ hb h4 hl oD he
 ·exact cx.inj _ _ _ _ h2 hb mP hl he
 exact cx.inj _ _ _ _ h2 h4 mP oD he
theorem RZ {ok:Nat→Prop} {x:AV} {y:D} {u:Value} (hn:cM [x]=true) (h:x.rm bx=some y) (hx:ak β bx w ok x u):aL w ok y u:=by
 cases x with
 |d x=>simp only [AV.rm,osI] at h;subst h;simpa [ak] using hx
 |cl es=>
  simp only [AV.rm,osI] at h;subst h
  simp only [ak] at hx
  obtain ⟨base,rfl,g⟩:=hx
  simp only [aL];exact ⟨base,_,rfl,Nat.le_refl _,g⟩
 |ow b sz n=>simp [cM] at hn
 |fn f cs=>
  cases cs with
  |nil=>
   simp only [AV.rm,osI] at h;subst h
   simp only [ak,an] at hx
   obtain ⟨vs,rfl,rfl⟩:=hx
   simp [aL,zB]
  |cons c cs=>simp [AV.rm] at h
 |_=>simp [AV.rm] at h
theorem D1 {x:AV} {xs:List AV} (h:cM (x::xs)=true):cM [x]=true∧cM xs=true:=by
 cases x<;>simp_all [cM]
theorem zU {ok:Nat→Prop}:∀{xs:List AV} {ys:List D} {us:List Value},cM xs=true→iV bx xs=some ys→an β bx w ok xs us→cN w ok ys us
 |[],ys,us,_,h,hx=>by simp [iV] at h;subst h;simp only [an] at hx;subst hx;simp [cN]
 |x::xs,ys,us,hn,h,hx=>by
  simp only [iV] at h
  split at h
  ·rename_i y ys' h1 h2
   simp only [osI] at h;subst h
   simp only [an] at hx
   obtain ⟨u,Oh,rfl,g1,g2⟩:=hx
   obtain ⟨n1,n2⟩:=D1 hn
   simp only [cN]
   exact ⟨u,Oh,rfl,RZ n1 h1 g1,zU n2 h2 g2⟩
  simp at h
theorem D2 {kd:Kd} {k:D} {kv:Value} {ok:Nat→Prop} (hk:nJ kd k=true) (h:aL w ok k kv):Instr.sameBits 10000 kv kv=true:=by
 cases k<;>cases kd<;>simp [nJ] at hk<;>simp only [aL] at h<;>subst h
 ·simp [Instr.sameBits]
 rename_i s
 show (s.toArray==s.toArray)=true
 simp
theorem tg {ms:Array MapEntry} {j:Nat} {m:MapEntry} (h:ms.toList[j]?=some m) (f:MapEntry→MapEntry):(ms.modify j f).toList=ms.toList.set j (f m):=by
 rw [Array.toList_modify]
 obtain ⟨hj,rfl⟩:=List.getElem?_eq_some_iff.1 h
 apply List.ext_getElem?
 intro i
 rw [List.getElem?_modify,List.getElem?_set]
 by_cases hi:j=i
 ·subst hi
  have hj2:j<ms.size:=by simpa using hj
  simp [hj2]
 simp [hi]
theorem OJ {ok:Nat→Prop} {x:AV} {xv:Value} {vs:List AV} {ds:List D} {k:D} {e:MapEntry} {ag:Bool} (hc:x.cells?=some vs) (hx:ak β bx w ok x xv) (hn:cM vs=true) (hd:iV bx vs=some ds) (ha:x.isAgg=ag)
 (hk:aL w ok k e.key) (he:e.val=xv):ia w ok ag (k::ds) e:=by
 simp only [ia]
 refine ⟨hk,?_⟩
 rw [he]
 cases x with
 |agg cs=>
  simp only [AV.cells?] at hc
  cases hs:uf cs with
  |false=>simp [hs] at hc
  |true=>
   simp only [hs,cond_true,osI] at hc
   subst hc
   simp only [AV.isAgg] at ha;subst ha
   simp only [ak] at hx
   obtain ⟨us,rfl,g⟩:=hx
   exact ⟨us,rfl,fun h=>(by cases h),zU hn hd g⟩
 |any=>simp [AV.cells?] at hc
 |vw _ _ _ _ _ _=>simp [AV.cells?] at hc
 |eA _=>simp [AV.cells?] at hc
 |cond _ _=>simp [AV.cells?] at hc
 |_=>
  simp only [AV.cells?,osI] at hc
  subst hc
  simp only [AV.isAgg] at ha;subst ha
  exact ⟨[xv],rfl,fun _=>rfl,zU hn hd (by simp only [an];exact ⟨xv,[],rfl,hx,rfl⟩)⟩
theorem FT (hT:kD P T) (cx:cP G β bx w X) {ty b:Nat} {m x:AV} {u kv xv:Value} {k:D} {tk te:TI} {ag:Bool} {es:List (List D)} {vs:List AV} {ds:List D} (h:DP T ty m bx=some (b,tk,te,ag,es)) (hu:ak β bx w (bp β bx w X) m u)
 (hkv:aL w (bp β bx w X) k kv) (Fe:ak β bx w (bp β bx w X) x xv) (hc:x.cells?=some vs) (hn:cM vs=true) (hd:iV bx vs=some ds) (hf:vW tk te ag es k) (ha:x.isAgg=ag):
 ∃w',(Instr.mapUpdate ty u kv xv).run P w=.ok () w'∧Ext β bx w β (bx.set b (.mp ag (rZ es k ds))) w'∧cP G β (bx.set b (.mp ag (rZ es k ds))) w' X:=by
 unfold DP at h
 split at h
 case h_2=>cases h
 rename_i b' Ld UN Rx es' hm
 simp only [osI,Prod.mk.injEq] at h
 obtain ⟨rfl,rfl,rfl,rfl,rfl⟩:=h
 obtain ⟨kt,et,dk,u1,u2,u3,u4,_⟩:=CC hT cx hm hu
 obtain ⟨f1,f2,f3⟩:=hf
 rw [u3] at f2 f3
 have hb:bx[b']?=some (.mp Rx es'):=by
  unfold zy at hm
  split at hm
  ·split at hm
   ·split at hm
    ·rename_i _ _ h0;cases h0
    ·rename_i _ _ h0;cases h0
    ·rename_i _ _ h0
     cases h0
     split at hm
     ·rename_i hb
      simp only [osI,Prod.mk.injEq] at hm
      obtain ⟨_,_,rfl,rfl⟩:=hm
      exact hb
     cases hm
    cases hm
   cases hm
  cases hm
 simp only [ak] at hu
 obtain ⟨rfl,_⟩:=hu
 obtain ⟨ms,clock,hh,⟨UO,st2⟩,OI⟩:=cx.box b' _ hb
 have main:∀(Fc:Array MapEntry) (clock':Nat),lZ Fc clock'→bt w (bp β bx w X) Rx (rZ es' k ds) Fc.toList→
  (Instr.mapUpdate ty (.map (some (β b'))) kv xv).run P w=.ok () {w with heap:=w.heap.setIfInBounds (β b') (.map Fc clock')}→
  ∃w',(Instr.mapUpdate ty (.map (some (β b'))) kv xv).run P w=.ok () w'∧Ext β bx w β (bx.set b' (.mp Rx (rZ es' k ds))) w'∧cP G β (bx.set b' (.mp Rx (rZ es' k ds))) w' X:=by
  intro Fc clock' g1 g2 g3
  have ex:Ext β bx w β (bx.set b' (.mp Rx (rZ es' k ds))) {w with heap:=w.heap.setIfInBounds (β b') (.map Fc clock')}:=zT hb rfl rfl hh (fun c e f=>by simp)
  refine ⟨_,g3,ex,IP cx hb rfl rfl hh (fun c e f=>by simp) ?_⟩
  exact ⟨Fc,clock',by simp [fh hh],g1,bt.mono (ex.keeps X) _ _ _ g2⟩
 rcases p7 f2 hkv es' ms.toList 0 OI f3 with ⟨k1,k2,k3⟩|⟨j,e,ds',k1,k2,k3,k4,k5,k6,k7⟩
 ·refine main (ms.push {key:=kv,val:=xv,born:=clock}) (clock+1) ⟨?_,?_⟩ ?_ ?_
  ·rw [Array.all_push]
   simp only [Bool.and_eq_true,decide_eq_true_eq]
   refine ⟨?_,by omega⟩
   rw [Array.all_eq_true] at UO ⊢
   intro i hi
   have:=UO i hi
   simp only [decide_eq_true_eq] at this ⊢
   omega
  ·rw [Array.toList_push,List.map_append,List.nodup_append]
   refine ⟨st2,by simp,?_⟩
   intro a OK c BO
   simp at BO
   obtain ⟨m',hm',rfl⟩:=List.mem_map.1 OK
   have:m'.born<clock:=by
    rw [Array.all_eq_true_iff_forall_mem] at UO
    simpa using UO m' (by simpa using hm')
   omega
  ·rw [k3,Array.toList_push]
   refine OI.append ?_
   simp only [bt]
   exact ⟨_,[],rfl,OJ hc Fe hn hd ha hkv rfl,rfl⟩
  unfold Instr.mapUpdate
  simp [aV u1,yU hh,run_checkKey u2 f2 hkv,run_findKey (w:=w) u2 k2,run_setObj_map _ hh]
 have Zm:=D2 f2 hkv
 refine main (ms.modify j fun e=>{e with key:=kv,val:=xv}) clock ⟨?_,?_⟩ ?_ ?_
 ·rw [Array.all_eq_true_iff_forall_mem] at UO ⊢
  intro y hy
  have WS:y∈(ms.modify j fun e=>{e with key:=kv,val:=xv}).toList:=Array.mem_def.1 hy
  rw [tg k2] at WS
  rcases List.mem_or_eq_of_mem_set WS with h1|h1
  ·exact UO y (by simpa using h1)
  subst h1
  exact UO e (by simpa using List.mem_of_getElem? k2)
 ·rw [tg k2,List.map_set]
  have:(ms.toList.map (·.born)).set j ({e with key:=kv,val:=xv}:MapEntry).born=ms.toList.map (·.born):=by
   apply List.ext_getElem?
   intro i
   rw [List.getElem?_set]
   by_cases hi:j=i
   ·subst hi
    have:=(List.getElem?_eq_some_iff.1 k2).1
    simp [k2] at this ⊢
    simp [this]
   simp [hi]
  rw [this];exact st2
 ·rw [k7,tg k2]
  exact bt.set (OJ hc Fe hn hd ha hkv rfl) j OI
 unfold Instr.mapUpdate
 simp only [Nat.zero_add] at k1
 have k2':ms[j]?=some e:=by simpa using k2
 simp [aV u1,yU hh,run_checkKey u2 f2 hkv,run_findKey (w:=w) u2 k1,run_setObj_map _ hh,Instr.keyThatStays,k2',k5,Zm]
end
end Dem
end
section
open Go
namespace Dem
section
variable {P:Program} {T:Nat→Option TI} {G:Nat→Option (List D)} {β:Nat→Nat} {bx:List aA} {w:World} {X:Nat→Prop}
theorem IQ (cx:cP G β bx w X) {e size cap:Nat} {rows:List (List D)} {vs zs:List Value} (hl:∀r∈rows,r.length=size) (hv:an β bx w (bp β bx w X) (rows.flatten.map .d) vs)
 (hlen:rows.length≤cap):
 let w':World:={w with drawn:=w.drawn+1,heap:=w.heap.push (.cells ⟨vs++zs⟩ e)}
 Ext β bx w β bx w'∧cP G β bx w' X∧ak β bx w' (bp β bx w' X) (.d (.sl rows)) (.slice (some ⟨w.heap.size,0,none⟩) rows.length cap):=by
 intro w'
 have RR:=pS cx (fy w)
 have zN:Ext β bx w β bx {w with drawn:=w.drawn+1}:=jh (fy w)
 have WL:Ext β bx {w with drawn:=w.drawn+1} β bx w':=um (w:={w with drawn:=w.drawn+1}) (.cells ⟨vs++zs⟩ e)
 have hnew:w'.heap[w.heap.size]?=some (.cells ⟨vs++zs⟩ e):=jv {w with drawn:=w.drawn+1} _
 refine ⟨zN.trans WL,Fo (w:={w with drawn:=w.drawn+1}) RR _,?_⟩
 simp only [ak,aL]
 refine ⟨_,_,rfl,hlen,.inr ⟨w.heap.size,0,size,rfl,⟨fh hnew,fun hX=>?_,fun i b hb hlv=>?_⟩,?_⟩⟩
 ·exact Nat.lt_irrefl _ (cx.xs _ hX)
 ·have:=(cx.box i b hb).fJ hlv;omega
 refine mY (β:=β) (bx:=bx) rows 0 vs hl ?_ (an.mono ((zN.trans WL).eX X) _ _ hv)
 intro k u hk
 have hk':k<vs.length:=by
  rcases Nat.lt_or_ge k vs.length with h|h
  ·exact h
  simp [List.getElem?_eq_none h] at hk
 show World.cell? w' ⟨w.heap.size,0+k,none⟩=some u
 simp only [World.cell?,hnew]
 simp [List.getElem?_append_left hk',hk]
theorem CD (hT:kD P T) (cx:cP G β bx w X) {ev:Operand→AV} {ρ:Operand→Value} {o:Oper} (hρ:∀x∈o.op.operands.toList,ak β bx w (bp β bx w X) (ev x) (ρ x))
 {c:Prop} {es:List (List D)} (hr:BQ T ev o.op=some (c,es)) (hc:c):dH G β bx w X ((execOp ρ o).run P w) (.d (.sl es)) bx:=by
 obtain ⟨dst,op,type,pos,after,guard⟩:=o
 simp only at hρ hr
 unfold BQ at hr
 split at hr
 case h_2=>cases hr
 rename_i b args ats
 split at hr
 case h_2=>cases hr
 rename_i x y t u ha UL
 cases ht:T t with
 |none=>simp [ht] at hr
 |some ti=>
 cases hu:T u with
 |none=>simp [ht,hu] at hr
 |some tu=>
 simp only [ht,hu] at hr
 obtain ⟨i,d,h1,h2,h3,h4,h5,h6⟩:=aJ (hT.ti _ _ ht)
 obtain ⟨ui,ud,u1,u2,u3,u4,u5,u6⟩:=aJ (hT.ti _ _ hu)
 cases hk:ti.kd with
 |slice e=>
  cases hku:tu.kd with
  |slice e2=>
   rw [hk] at hr h5
   rw [hku] at hr u5
   have DU:∀k,ud≠.int k:=by rintro k rfl;cases u5
   cases d<;>simp [cY] at h5
   subst h5
   cases hte:T e with
   |none=>simp [hte] at hr
   |some te=>
   obtain ⟨ei,ed,g1,g2,g3,g4,g5,g6⟩:=aJ (hT.ti _ _ hte)
   simp only [hte] at hr
   cases hz:eO te with
   |false=>simp [hz] at hr
   |true=>
   obtain ⟨z,hz1,Ox,YI,YJ⟩:=mg hz
   obtain ⟨zv,zc,k1,k2,k3,_⟩:=uz (β:=β) (bx:=bx) (w:=w) (ok:=bp β bx w X) (hT.ti _ _ hte) hz1
   have hzl:zc.length=ei.size:=by rw [an.length k3,Ox,g3]
   have yT:ei.zero=some zv:=by
    cases hq:ei.zero with
    |none=>rw [g6,hq] at hz1;simp [AV.cells?] at hz1
    |some q=>have:=gJ (P:=P) (w:=w) g1 hq;rw [k1] at this;simp at this;rw [this]
   simp only [hz,cond_true] at hr
   split at hr
   case h_2=>cases hr
   rename_i es x0 xr hx hy
   simp only [osI,Prod.mk.injEq] at hr
   obtain ⟨rfl,rfl⟩:=hr
   obtain ⟨BO,BP⟩:=hc
   have mx:x∈args.toList:=by rw [ha];simp
   have my:y∈args.toList:=by rw [ha];simp
   have hs:=hρ x (by simp [Op.operands,Call.operands];exact by simpa using mx)
   have hxx:=hρ y (by simp [Op.operands,Call.operands];exact by simpa using my)
   rw [hx] at hs
   rw [hy] at hxx
   obtain ⟨ws,f1,f2⟩:=lB (P:=P) (xs:=x0::xr) cx hxx (by simp [kJ,AV.rows]) (fun r hr=>BP r (List.mem_append.2 (.inr hr)))
   rw [g3] at f1
   simp only [ak] at hs
   obtain ⟨base,hsx,hbase⟩:=hs
   have fin:∀(os:List Value),gr P w ei.size es.length (.slice base es.length es.length) os→an β bx w (bp β bx w X) (es.flatten.map .d) os→dH G β bx w X ((execOp ρ ⟨dst,.call {callee:=.builtin .append,args:=args,argTypes:=ats},type,pos,after,guard⟩).run P w) (.d (.sl (es++x0::xr))) bx:=by
    intro os o1 o2
    obtain ⟨cap,rest,q1,q2,zs,q3,q4⟩:=jC h2 u2 DU g1 yT k2 hzl f1 o1 (by simp) (by omega) (by rw [←g4];exact BO) type
    obtain ⟨r1,r2,r3⟩:=IQ (e:=e) (size:=te.size) (cap:=cap) (rows:=es++(x0::xr)) (zs:=zs) (vs:=os++ws) cx BP (an.flatten_append o2 f2) (by rw [List.length_append];exact q1)
    rw [List.length_append] at r3
    refine ⟨β,_,r1,r2,.inl ⟨_,?_,r3⟩⟩
    simp only [execOp,resolve,Sem.run_bind,Sem.run_pure,Result.andThen_ok,invoke,fN args ρ]
    have ea:ats=⟨[t,u]⟩:=Array.toList_inj.1 (by rw [UL])
    rw [ha,List.map_cons,List.map_cons,List.map_nil,hsx,ea]
    exact bR _ q4
   cases es with
   |nil=>
    refine fin [] ⟨dB,by simp,fun w' _=>⟨dB,?_⟩⟩ (by simp [an])
    cases base<;>simp [Builtin.firstCells,loadCells,loadCellsFrom]
   |cons e0 er=>
    obtain ⟨os,o1,o2⟩:=dX (P:=P) (β:=β) (bx:=bx) (cap:=(e0::er).length) (base:=base) (es:=e0::er) (ok:=bp β bx w X) (fun r hr=>BP r (List.mem_append.2 (.inl hr))) (hbase.imp id fun ⟨blk,off,sz,a,_,c⟩=>⟨blk,off,sz,a,c⟩)
    rw [g3] at o1
    exact fin os o1 o2
  |_=>simp [hk,hku] at hr
 |_=>simp [hk] at hr
end
end Dem
end
