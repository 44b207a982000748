/- Parts of a proof, joined. -/
import Derived.Test.YtihohjnkkalgiaaGreatDoorQ04
set_option linter.all false
set_option maxRecDepth 100000
set_option maxHeartbeats 4000000
section
open Go
namespace Dem
section
variable {P:Program} {T:Nat→Option TI} {G:Nat→Option (List D)} {β:Nat→Nat} {bx:List aB} {w:World} {X:Nat→Prop}
def lV (β:Nat→Nat) (bx:List aB) (w:World) (ok:Nat→Prop):jN→Ending→Prop
 |.ret v,.returned u=>ak β bx w ok v u
 |.LZ v,.panicked ch=>∃u,ch=[{v:=u,recovered:=false}]∧ak β bx w ok v u
 |_,_=>False
def jv (P:Program) (f:Nat) (vs:Array Value) (w:World) (R:Ending→World→Prop):Prop:=
 ((callFunc f vs).run P w=.ok (.enter f vs) w∧Calls P f vs w R)∨∃v w',(callFunc f vs).run P w=.ok (.value v) w'∧R (.returned v) w'
theorem jv.mono {f:Nat} {vs:Array Value} {R R':Ending→World→Prop} (h:jv P f vs w R) (hr:∀e w',R e w'→R' e w'):jv P f vs w R':=by
 rcases h with ⟨h1,h2⟩|⟨v,w',h1,h2⟩
 ·exact .inl ⟨h1,Calls.mono h2 hr⟩
 exact .inr ⟨v,w',h1,hr _ _ h2⟩
def bH (P:Program) (G:Nat→Option (List D)) (f:Nat) (args:List AV) (bx:List aB) (res:jN) (aZ:List aB):Prop:=
 ∀(β:Nat→Nat) (w:World) (vs:List Value) (X:Nat→Prop),cJ G β bx w X→an β bx w (bz β bx w X) args vs→
  jv P f ⟨vs⟩ w fun e w'=>∃β',Ext β bx w β' aZ w'∧cJ G β' aZ w' X∧lV β' aZ w' (bz β' aZ w' X) res e
mutual
theorem pN {β β':Nat→Nat} {bx aZ:List aB} {w:World} {ok ok':Nat→Prop} (h:∀blk,ok blk→ok' blk):∀(x:AV) (v:Value),x.shut=true→ak β bx w ok x v→ak β' aZ w ok' x v
 |.any,_,_,_=>by simp [ak]
 |.d x,v,_,hv=>by simp only [ak] at hv ⊢;exact aS.mono (fun blk hb=>⟨h blk hb,rfl⟩) _ _ hv
 |.k c,v,_,hv=>by simpa [ak] using hv
 |.agg cs,v,hs,hv=>by
  simp only [ak] at hv ⊢;obtain ⟨vs,h1,h2⟩:=hv
  exact ⟨vs,h1,lE h cs vs (by simpa [AV.shut] using hs) h2⟩
 |.dX cs,v,hs,hv=>by
  simp only [ak] at hv ⊢;obtain ⟨vs,h1,h2⟩:=hv
  exact ⟨vs,h1,lE h cs vs (by simpa [AV.shut] using hs) h2⟩
 |.ptr _ _,_,hs,_=>by simp [AV.shut] at hs
 |.rp _ _ _ _,_,hs,_=>by simp [AV.shut] at hs
 |.ow _ _ _,_,hs,_=>by simp [AV.shut] at hs
 |.vw _ _ _ _ _ _,_,hs,_=>by simp [AV.shut] at hs
 |.ep ds,v,_,hv=>by
  simp only [ak] at hv ⊢;obtain ⟨blk,off,h1,h2,h3⟩:=hv
  exact ⟨blk,off,h1,h blk h2,bp.mono (fun blk hb=>⟨h blk hb,rfl⟩) blk (fun _=>rfl) _ _ h3⟩
 |.cl es,v,_,hv=>by
  simp only [ak] at hv ⊢;obtain ⟨base,h1,h2⟩:=hv
  refine ⟨base,h1,h2.imp id ?_⟩
  rintro ⟨blk,off,sz,e1,e2,e3⟩
  exact ⟨blk,off,sz,e1,h blk e2,ay.mono (fun blk hb=>⟨h blk hb,rfl⟩) blk sz (fun _=>rfl) _ _ e3⟩
 |.fn f cs,v,hs,hv=>by
  simp only [ak] at hv ⊢;obtain ⟨vs,h1,h2⟩:=hv
  exact ⟨vs,h1,lE h cs vs (by simpa [AV.shut] using hs) h2⟩
 |.rN t x,v,hs,hv=>by
  simp only [ak] at hv ⊢;obtain ⟨u,h1,h2⟩:=hv
  exact ⟨u,h1,pN h x u (by simpa [AV.shut] using hs) h2⟩
 |.cond p x,v,hs,hv=>by
  simp only [ak] at hv ⊢
  exact ⟨fun hp=>pN h x v (by simpa [AV.shut] using hs) (hv.1 hp),hv.2⟩
theorem lE {β β':Nat→Nat} {bx aZ:List aB} {w:World} {ok ok':Nat→Prop} (h:∀blk,ok blk→ok' blk):∀(xs:List AV) (vs:List Value),AV.shut.mI xs=true→an β bx w ok xs vs→an β' aZ w ok' xs vs
 |[],vs,_,hv=>by simpa [an] using hv
 |x::xs,vs,hs,hv=>by
  simp only [an] at hv ⊢
  obtain ⟨u,us,h1,h2,h3⟩:=hv
  simp only [AV.shut.mI,Bool.and_eq_true] at hs
  exact ⟨u,us,h1,pN h x u hs.1 h2,lE h xs us hs.2 h3⟩
end
theorem rj {β β':Nat→Nat} {bx aZ:List aB} {w w':World} {ok ok':Nat→Prop}:∀(xs:List AV) (vs:List Value),AV.flat.zf xs=true→an β bx w ok xs vs→an β' aZ w' ok' xs vs
 |[],vs,_,hv=>by simpa [an] using hv
 |x::xs,vs,hs,hv=>by
  simp only [an] at hv ⊢
  obtain ⟨u,us,h1,h2,h3⟩:=hv
  cases x with
  |d y=>cases y<;>simp [AV.flat.zf] at hs<;>exact ⟨u,us,h1,by simpa [ak,aS] using h2,rj xs us hs h3⟩
  |k c=>simp [AV.flat.zf] at hs;exact ⟨u,us,h1,by simpa [ak] using h2,rj xs us hs h3⟩
  |_=>simp [AV.flat.zf] at hs
theorem oq {β β':Nat→Nat} {bx aZ:List aB} {w w':World} {ok ok':Nat→Prop}:∀(xs:List AV) (vs:List Value),AV.flat.py xs=true→an β bx w ok xs vs→an β' aZ w' ok' xs vs
 |[],vs,_,hv=>by simpa [an] using hv
 |x::xs,vs,hs,hv=>by
  simp only [an] at hv ⊢
  obtain ⟨u,us,h1,h2,h3⟩:=hv
  cases x with
  |d y=>cases y<;>simp [AV.flat.py] at hs<;>exact ⟨u,us,h1,by simpa [ak,aS] using h2,oq xs us hs h3⟩
  |k c=>simp [AV.flat.py] at hs;exact ⟨u,us,h1,by simpa [ak] using h2,oq xs us hs h3⟩
  |agg cs=>
   simp [AV.flat.py] at hs
   simp only [ak] at h2
   obtain ⟨v2,e1,e2⟩:=h2
   exact ⟨u,us,h1,by simp only [ak];exact ⟨v2,e1,rj cs v2 hs.1 e2⟩,oq xs us hs.2 h3⟩
  |_=>simp [AV.flat.py] at hs
theorem Fo {β β':Nat→Nat} {bx aZ:List aB} {w w':World} {ok ok':Nat→Prop} (x:AV) (v:Value) (hf:x.flat=true) (hv:ak β bx w ok x v):ak β' aZ w' ok' x v:=by
 cases x with
 |d y=>cases y<;>simp [AV.flat] at hf<;>simpa [ak,aS] using hv
 |k c=>simpa [ak] using hv
 |agg cs=>simp only [ak] at hv ⊢;obtain ⟨vs,h1,h2⟩:=hv;exact ⟨vs,h1,rj cs vs (by simpa [AV.flat] using hf) h2⟩
 |dX cs=>simp only [ak] at hv ⊢;obtain ⟨vs,h1,h2⟩:=hv;exact ⟨vs,h1,oq cs vs (by simpa [AV.flat] using hf) h2⟩
 |_=>simp [AV.flat] at hf
theorem L9 {w w':World} {ok ok':Nat→Prop}:∀(x:D) (v:Value),x.flat=true→aS w ok x v→aS w' ok' x v:=by
 intro x v hf hv
 cases x<;>simp [D.flat] at hf<;>simpa [aS] using hv
theorem w8 {w:World} {ok ok':Nat→Prop} {blk:Nat}:∀(xs:List D) (off:Nat),(∀x∈xs,x.flat=true)→bp w ok blk xs off→bp w ok' blk xs off
 |[],_,_,_=>by simp [bp]
 |x::xs,off,hf,hv=>by
  simp only [bp] at hv ⊢
  obtain ⟨⟨u,h1,h2⟩,h3⟩:=hv
  exact ⟨⟨u,h1,L9 x u (hf x (by simp)) h2⟩,w8 xs _ (fun y hy=>hf y (by simp [hy])) h3⟩
theorem ot {w:World} {ok ok':Nat→Prop} {blk sz:Nat}:∀(rs:List (List D)) (off:Nat),(∀r∈rs,∀x∈r,x.flat=true)→ay w ok blk sz rs off→ay w ok' blk sz rs off
 |[],_,_,_=>by simp [ay]
 |r::rs,off,hf,hv=>by
  simp only [ay] at hv ⊢
  exact ⟨hv.1,w8 r off (hf r (by simp)) hv.2.1,ot rs _ (fun s hs=>hf s (by simp [hs])) hv.2.2⟩
theorem ul (cx:cJ G β bx w X) {x y:AV} {u:Value} (hd:fz bx x=some y) (h:ak β bx w (bz β bx w X) x u):
 Ext β bx w β (x.cu bx) w∧cJ G β (x.cu bx) w X∧ak β (x.cu bx) w (bz β (x.cu bx) w X) y u:=by
 cases x with
 |cl es=>
  simp only [fz,osI] at hd;subst hd
  obtain ⟨g1,g2,g3⟩:=zn (y:=.sl es) cx rfl h
  exact ⟨g1,g2,by simpa [ak] using g3⟩
 |ow b sz n=>
  simp only [fz,Option.map_eq_some_iff] at hd
  obtain ⟨z,h1,rfl⟩:=hd
  obtain ⟨g1,g2,g3⟩:=zn cx h1 h
  exact ⟨g1,g2,by simpa [ak] using g3⟩
 |vw b sz off n c ex=>
  simp only [fz,Option.map_eq_some_iff] at hd
  obtain ⟨es,h1,rfl⟩:=hd
  obtain ⟨g1,g2,g3⟩:=jY cx h1 h
  exact ⟨g1,g2,by simpa [ak,aS] using g3⟩
 |_=>simp only [fz,osI] at hd;subst hd;exact ⟨Ext.refl _ _ _,cx,h⟩
theorem Fp {x y z:AV} (h:fz bx x=some y):fz (z.cu bx) x=some y:=by
 cases x with
 |ow b sz n=>
  simp only [fz,Option.map_eq_some_iff] at h ⊢
  obtain ⟨q,h1,h2⟩:=h
  exact ⟨q,Cc h1,h2⟩
 |vw b sz off n c ex=>
  simp only [fz,Option.map_eq_some_iff] at h ⊢
  obtain ⟨q,h1,h2⟩:=h
  refine ⟨q,?_,h2⟩
  simp only [AV.rows] at h1 ⊢
  split at h1
  ·rename_i s es hb
   rcases tX (z:=z) (.inl hb) with g|g<;>simp [g,h1]
  ·rename_i s es hb
   rcases tX (z:=z) (.inr hb) with g|g<;>simp [g,h1]
  simp at h1
 |_=>exact h
theorem vP {z:AV}:∀{xs ys:List AV},H8 bx xs=some ys→H8 (z.cu bx) xs=some ys
 |[],ys,h=>h
 |x::xs,ys,h=>by
  simp only [H8] at h ⊢
  split at h
  ·rename_i y ys' hy hys
   rw [Fp hy,vP hys];exact h
  simp at h
theorem Is {x y z:AV} (h:pu bx x=some y):pu (z.cu bx) x=some y:=by
 cases x with
 |agg cs=>
  simp only [pu,Option.map_eq_some_iff] at h ⊢
  obtain ⟨q,h1,h2⟩:=h
  exact ⟨q,vP h1,h2⟩
 |_=>simp only [pu] at h ⊢;exact Fp h
theorem sK {z:AV}:∀{xs ys:List AV},eX bx xs=some ys→eX (z.cu bx) xs=some ys
 |[],ys,h=>h
 |x::xs,ys,h=>by
  simp only [eX] at h ⊢
  split at h
  ·rename_i y ys' hy hys
   rw [Is hy,sK hys];exact h
  simp at h
theorem w9 {xs ys:List AV}:∀(zs:List AV) (bx:List aB),eX bx xs=some ys→eX (ek bx zs) xs=some ys
 |[],_,h=>h
 |_::zs,_,h=>w9 zs _ (sK h)
theorem Fq {xs ys:List AV} {z:AV} (h:eX bx xs=some ys):eX (lI bx z) xs=some ys:=by
 cases z with
 |agg cs=>exact w9 cs bx h
 |_=>simp only [lI];exact sK h
theorem Fs:∀(xs:List AV) (bx:List aB) (ys:List AV) (vs:List Value),cJ G β bx w X→H8 bx xs=some ys→an β bx w (bz β bx w X) xs vs→
 Ext β bx w β (ek bx xs) w∧cJ G β (ek bx xs) w X∧an β (ek bx xs) w (bz β (ek bx xs) w X) ys vs
 |[],bx,ys,vs,cx,hd,h=>by simp [H8] at hd;subst hd;exact ⟨Ext.refl _ _ _,cx,by simpa [ek] using h⟩
 |x::xs,bx,ys,vs,cx,hd,h=>by
  simp only [H8] at hd
  split at hd
  ·rename_i y ys' hy hys
   simp at hd;subst hd
   simp only [an] at h
   obtain ⟨u,us,rfl,g1,g2⟩:=h
   obtain ⟨e1,c1,r1⟩:=ul cx hy g1
   obtain ⟨e2,c2,r2⟩:=Fs xs (x.cu bx) ys' us c1 (vP hys) (an.mono (e1.eS X) _ _ g2)
   refine ⟨e1.trans e2,c2,?_⟩
   simp only [ek,an]
   exact ⟨u,us,rfl,ak.mono (e2.eS X) _ _ r1,r2⟩
  simp at hd
theorem Cf (cx:cJ G β bx w X) {x y:AV} {u:Value} (hd:pu bx x=some y) (h:ak β bx w (bz β bx w X) x u):
 Ext β bx w β (lI bx x) w∧cJ G β (lI bx x) w X∧ak β (lI bx x) w (bz β (lI bx x) w X) y u:=by
 cases x with
 |agg cs=>
  simp only [pu,Option.map_eq_some_iff] at hd
  obtain ⟨ys,h1,rfl⟩:=hd
  simp only [ak] at h
  obtain ⟨vs,rfl,hvs⟩:=h
  obtain ⟨g1,g2,g3⟩:=Fs cs bx ys vs cx h1 hvs
  exact ⟨g1,g2,by simp only [ak];exact ⟨vs,rfl,g3⟩⟩
 |_=>simp only [pu] at hd;simp only [lI];exact ul cx hd h
theorem lF:∀(xs:List AV) (bx:List aB) (ys:List AV) (vs:List Value),cJ G β bx w X→eX bx xs=some ys→an β bx w (bz β bx w X) xs vs→
 Ext β bx w β (fy bx xs) w∧cJ G β (fy bx xs) w X∧an β (fy bx xs) w (bz β (fy bx xs) w X) ys vs
 |[],bx,ys,vs,cx,hd,h=>by simp [eX] at hd;subst hd;exact ⟨Ext.refl _ _ _,cx,by simpa [fy] using h⟩
 |x::xs,bx,ys,vs,cx,hd,h=>by
  simp only [eX] at hd
  split at hd
  ·rename_i y ys' hy hys
   simp at hd;subst hd
   simp only [an] at h
   obtain ⟨u,us,rfl,g1,g2⟩:=h
   obtain ⟨e1,c1,r1⟩:=Cf cx hy g1
   obtain ⟨e2,c2,r2⟩:=lF xs (lI bx x) ys' us c1 (Fq hys) (an.mono (e1.eS X) _ _ g2)
   refine ⟨e1.trans e2,c2,?_⟩
   simp only [fy,an]
   exact ⟨u,us,rfl,ak.mono (e2.eS X) _ _ r1,r2⟩
  simp at hd
theorem KQ {x y:AV} (h:fz [] x=some y) (bx:List aB):x.cu bx=bx:=by
 cases x with
 |ow b sz n=>simp [fz,AV.qP] at h
 |vw b sz off n c ex=>simp [fz,AV.rows] at h
 |_=>rfl
theorem Fu:∀{xs ys:List AV} (bx:List aB),H8 [] xs=some ys→ek bx xs=bx
 |[],_,_,_=>rfl
 |x::xs,ys,bx,h=>by
  simp only [H8] at h
  split at h
  ·rename_i y ys' hy hys
   simp only [ek,KQ hy bx];exact Fu bx hys
  simp at h
theorem jZ:∀{xs ys:List AV} (bx:List aB),eX [] xs=some ys→fy bx xs=bx
 |[],_,_,_=>rfl
 |x::xs,ys,bx,h=>by
  simp only [eX] at h
  split at h
  ·rename_i y ys' hy hys
   have:lI bx x=bx:=by
    cases x with
    |agg cs=>
     simp only [pu,Option.map_eq_some_iff] at hy
     obtain ⟨q,h1,_⟩:=hy
     exact Fu bx h1
    |_=>simp only [pu] at hy;simp only [lI];exact KQ hy bx
   simp only [fy,this];exact jZ bx hys
  simp at h
def pO (β:Nat→Nat) (bx:List aB) (X:Nat→Prop) (blk:Nat):Prop:=X blk∨∃i b,bx[i]?=some b∧b.live=true∧β i=blk
theorem Fv (cx:cJ G β bx w X):cJ G β [] w (pO β bx X):=by
 refine ⟨?_,?_,by simp,by simp,by simp⟩
 ·rintro blk (h|⟨i,b,h1,h2,rfl⟩)
  ·exact cx.xs blk h
  exact dm.fI (cx.box i b h1) h2
 intro g ds hg
 obtain ⟨h1,h2⟩:=cx.ym g ds hg
 have key:∀blk,bz β bx w X blk→bz β [] w (pO β bx X) blk:=by
  rintro blk ⟨k1,k2,k3⟩
  refine ⟨k1,?_,by simp⟩
  rintro (h|⟨i,b,e1,e2,e3⟩)
  ·exact k2 h
  exact k3 i b e1 e2 e3
 exact ⟨key g h1,bp.mono (fun blk hb=>⟨key blk hb,rfl⟩) g (fun _=>rfl) _ _ h2⟩
theorem Fw (blk:Nat) (h:bz β bx w X blk):bz β [] w (pO β bx X) blk:=by
 obtain ⟨k1,k2,k3⟩:=h
 refine ⟨k1,?_,by simp⟩
 rintro (h|⟨i,b,e1,e2,e3⟩)
 ·exact k2 h
 exact k3 i b e1 e2 e3
theorem um {β':Nat→Nat} {aZ:List aB} {w':World} (ex:Ext β [] w β' aZ w'):Ext β bx w β bx w':=
 ⟨ex.os,ex.tape,ex.output,ex.size,fun k hk _=>ex.block k hk (by simp),ex.shape,fun i hi=>⟨rfl,hi⟩,fun i b h1 h2=>.inr ⟨i,b,h1,h2,rfl⟩⟩
theorem Ot {β':Nat→Nat} {aZ:List aB} {w':World} (cx:cJ G β bx w X) (ex:Ext β [] w β' aZ w'):cJ G β bx w' X:=
 cx.step (um ex) (fun i b h=>.inl ⟨h,fun hl=>ex.block _ (dm.fI (cx.box i b h) hl) (by simp)⟩) cx.inj
theorem RH {β':Nat→Nat} {w':World} {sz n:Nat} {es:List (List D)} {pz:List aB} {u:Value} (cx:cJ G β bx w X) (ex:Ext β [] w β' [.row sz es] w') (mB:cJ G β' [.row sz es] w' (pO β pz X))
 (hv:(∀r∈es,∀x∈r,x.flat=true)∨pz=bx) (hr:ak β' [.row sz es] w' (bz β' [.row sz es] w' (pO β pz X)) (.ow 0 sz n) u):
 Ext β bx w (kS β bx.length (β' 0)) (bx++[.row sz es]) w'∧cJ G (kS β bx.length (β' 0)) (bx++[.row sz es]) w' X∧
  ak (kS β bx.length (β' 0)) (bx++[.row sz es]) w' (bz (kS β bx.length (β' 0)) (bx++[.row sz es]) w' X) (.ow bx.length sz n) u:=by
 have e0:=um (bx:=bx) ex
 have hnew:aB.live (.row sz es)=true→w.heap.size≤β' 0:=by
  intro hl
  rcases ex.live 0 (.row sz es) rfl hl with h|⟨j,b',h1,_⟩
  ·exact h
  simp at h1
 have hold:∀i b,bx[i]?=some b→kS β bx.length (β' 0) i=β i:=by
  intro i b h
  exact c8 _ _ (by have:=jg h;omega)
 have e1:Ext β bx w (kS β bx.length (β' 0)) (bx++[.row sz es]) w':=by
  refine ⟨e0.os,e0.tape,e0.output,e0.size,e0.block,e0.shape,?_,?_⟩
  ·rintro i ⟨b,h1,h2⟩
   exact ⟨hold i b h1,b,eG h1,h2⟩
  intro i b h hl
  rcases bD h with ⟨h1,_⟩|⟨rfl,rfl⟩
  ·exact .inr ⟨i,b,h1,hl,(hold i b h1).symm⟩
  exact .inl (by rw [bB];exact hnew hl)
 have hlt:∀i b,bx[i]?=some b→b.live=true→β i<w.heap.size:=fun i b h hl=>dm.fI (cx.box i b h) hl
 have hok:pz=bx→∀blk,bz β' [.row sz es] w' (pO β pz X) blk→bz (kS β bx.length (β' 0)) (bx++[.row sz es]) w' X blk:=by
  rintro rfl blk ⟨k1,k2,k3⟩
  refine ⟨k1,fun hX=>k2 (.inl hX),?_⟩
  intro i b h hl
  rcases bD h with ⟨h1,_⟩|⟨rfl,rfl⟩
  ·rw [hold i b h1];exact fun he=>k2 (.inr ⟨i,b,h1,hl,he⟩)
  rw [bB];exact k3 0 _ rfl hl
 refine ⟨e1,cx.step e1 ?_ ?_,?_⟩
 ·intro i b h
  rcases bD h with ⟨h1,_⟩|⟨rfl,rfl⟩
  ·exact .inl ⟨h1,fun hl=>ex.block _ (hlt i b h1 hl) (by simp)⟩
  refine .inr ?_
  have:=mB.box 0 _ rfl
  rw [bB]
  simp only [dm] at this ⊢
  refine this.imp id ?_
  rintro ⟨c,e,h1,h2⟩
  refine ⟨c,e,h1,?_⟩
  rcases hv with hfl|hb
  ·exact ot _ _ hfl h2
  exact ay.mono (fun blk hb'=>⟨hok hb blk hb',rfl⟩) _ _ (fun _=>rfl) _ _ h2
 ·intro i j bi bj hi hj mC ou he
  rcases bD hi with ⟨h1,_⟩|⟨rfl,rfl⟩<;>rcases bD hj with ⟨h2,_⟩|⟨rfl,rfl⟩
  ·rw [hold i bi h1,hold j bj h2] at he
   exact cx.inj i j bi bj h1 h2 mC ou he
  ·rw [hold i bi h1,bB] at he
   have:=hlt i bi h1 mC;have:=hnew ou;omega
  ·rw [hold j bj h2,bB] at he
   have:=hlt j bj h2 ou;have:=hnew mC;omega
  rfl
 simp only [ak] at hr ⊢
 obtain ⟨_,h2⟩:=hr
 refine ⟨⟨_,by simp;rfl,rfl⟩,?_⟩
 rw [bB];exact h2
theorem Iu {f:Nat} {args:List AV} {vs:List Value} {K:AV→List aB→Prop} (cx:cJ G β bx w X) (hx:an β bx w (bz β bx w X) args vs)
 (h:EZ (bH P G) f args bx K):
 jv P f ⟨vs⟩ w fun e w'=>∃β' aZ v u,e=.returned u∧Ext β bx w β' aZ w'∧cJ G β' aZ w' X∧ak β' aZ w' (bz β' aZ w' X) v u∧K v aZ:=by
 obtain ⟨_,hz,hs,h⟩:=h
 obtain ⟨e1,c1,r1⟩:=lF args bx _ vs cx hz hx
 have cn:=Fv c1
 have hn:an β [] w (bz β [] w (pO β (fy bx args) X)) _ vs:=lE (fun blk hb=>Fw blk hb) _ _ hs r1
 rcases h with ⟨v,hf,hv,hK⟩|⟨sz,n,es,hf,hv,hK⟩
 ·refine jv.mono (hf β w vs _ cn hn) ?_
  rintro e w' ⟨β',ex,mB,hr⟩
  cases e with
  |returned u=>
   refine ⟨β,bx,v,u,rfl,um ex,Ot cx ex,?_,hK⟩
   rcases hv with hfl|⟨Ou,hsh⟩
   ·exact Fo v u hfl hr
   rw [jZ bx Ou] at hr
   refine pN ?_ v u hsh hr
   rintro blk ⟨k1,k2,_⟩
   exact ⟨k1,fun hX=>k2 (.inl hX),fun i b hb hl he=>k2 (.inr ⟨i,b,hb,hl,he⟩)⟩
  |_=>exact hr.elim
 refine jv.mono (hf β w vs _ cn hn) ?_
 rintro e w' ⟨β',ex,mB,hr⟩
 cases e with
 |returned u=>
  simp only [lV] at hr
  obtain ⟨x1,x2,x3⟩:=RH cx ex mB (by
   rcases hv with hfl|Ou
   ·exact .inl hfl
   refine .inr ?_
   rw [jZ bx Ou]) hr
  exact ⟨_,_,_,u,rfl,x1,x2,x3,hK⟩
 |_=>exact hr.elim
end
end Dem
end
section
open Go
namespace Dem
section
variable {P:Program} {G:Nat→Option (List D)} {β β':Nat→Nat} {bx aZ:List aB} {w w':World} {X:Nat→Prop}
theorem lW {i:Nat} (h:NY bx i=true):bX bx i:=by
 unfold NY at h
 split at h
 ·rename_i b hb;exact ⟨b,hb,h⟩
 cases h
mutual
theorem Cg {ok ok':Nat→Prop} {jO:List aB} {dt:Bool} (h:∀b,bX jO b→β' b=β b∧bX aZ b) (hd:dt=true→∀d v,aS w ok d v→aS w' ok' d v):∀(x:AV) (v:Value),x.loose dt=true→x.bS jO=true→ak β bx w ok x v→ak β' aZ w' ok' x v
 |.any,_,_,_,_=>by simp [ak]
 |.d y,v,hs,_,hv=>by
  simp only [ak] at hv ⊢
  cases hdt:dt with
  |true=>exact hd hdt y v hv
  |false=>subst hdt;cases y<;>simp [AV.loose] at hs<;>simpa [aS] using hv
 |.k c,v,_,_,hv=>by simpa [ak] using hv
 |.agg cs,v,hs,hn,hv=>by
  simp only [ak] at hv ⊢;obtain ⟨vs,h1,h2⟩:=hv
  exact ⟨vs,h1,lX h hd cs vs (by simpa [AV.loose] using hs) (by simpa [AV.bS] using hn) h2⟩
 |.dX cs,v,hs,_,hv=>by simp [AV.loose] at hs
 |.ptr b off,v,_,hn,hv=>by
  have g:=lW (by simpa [AV.bS] using hn)
  simp only [ak] at hv ⊢;obtain ⟨e,_⟩:=hv;exact ⟨by rw [(h b g).1];exact e,(h b g).2⟩
 |.rp b sz i j,v,_,hn,hv=>by
  have g:=lW (by simpa [AV.bS] using hn)
  simp only [ak] at hv ⊢;obtain ⟨e,_⟩:=hv;exact ⟨by rw [(h b g).1];exact e,(h b g).2⟩
 |.ow _ _ _,_,hs,_,_=>by simp [AV.loose] at hs
 |.Bx _,_,hs,_,_=>by simp [AV.loose] at hs
 |.vw _ _ _ _ _ _,_,hs,_,_=>by simp [AV.loose] at hs
 |.ep _,_,hs,_,_=>by simp [AV.loose] at hs
 |.cl _,_,hs,_,_=>by simp [AV.loose] at hs
 |.fn f cs,v,hs,hn,hv=>by
  simp only [ak] at hv ⊢;obtain ⟨vs,h1,h2⟩:=hv
  exact ⟨vs,h1,lX h hd cs vs (by simpa [AV.loose] using hs) (by simpa [AV.bS] using hn) h2⟩
 |.rN t x,v,hs,hn,hv=>by
  simp only [ak] at hv ⊢;obtain ⟨u,h1,h2⟩:=hv
  exact ⟨u,h1,Cg h hd x u (by simpa [AV.loose] using hs) (by simpa [AV.bS] using hn) h2⟩
 |.cond _ _,_,hs,_,_=>by simp [AV.loose] at hs
theorem lX {ok ok':Nat→Prop} {jO:List aB} {dt:Bool} (h:∀b,bX jO b→β' b=β b∧bX aZ b) (hd:dt=true→∀d v,aS w ok d v→aS w' ok' d v):∀(xs:List AV) (vs:List Value),AV.m0 dt xs=true→AV.bS.dg jO xs=true→an β bx w ok xs vs→an β' aZ w' ok' xs vs
 |[],vs,_,_,hv=>by simpa [an] using hv
 |x::xs,vs,hs,hn,hv=>by
  simp only [an] at hv ⊢
  obtain ⟨u,us,h1,h2,h3⟩:=hv
  simp only [AV.m0] at hs
  simp only [AV.bS.dg,Bool.and_eq_true] at hn
  cases hx:x.loose dt with
  |false=>simp [hx] at hs
  |true=>
   simp only [hx,cond_true] at hs
   exact ⟨u,us,h1,Cg h hd x u hx hn.1 h2,lX h hd xs us hs hn.2 h3⟩
end
mutual
theorem vQ {ok ok':Nat→Prop} {jO:List aB} (h:∀blk,ok blk→ok' blk):∀(x:AV) (v:Value),x.bS jO=true→ak β bx w ok x v→ak β jO w ok' x v
 |.any,_,_,_=>by simp [ak]
 |.d x,v,_,hv=>by simp only [ak] at hv ⊢;exact aS.mono (fun blk hb=>⟨h blk hb,rfl⟩) _ _ hv
 |.k c,v,_,hv=>by simpa [ak] using hv
 |.agg cs,v,hs,hv=>by
  simp only [ak] at hv ⊢;obtain ⟨vs,h1,h2⟩:=hv
  exact ⟨vs,h1,lY h cs vs (by simpa [AV.bS] using hs) h2⟩
 |.dX cs,v,hs,hv=>by
  simp only [ak] at hv ⊢;obtain ⟨vs,h1,h2⟩:=hv
  exact ⟨vs,h1,lY h cs vs (by simpa [AV.bS] using hs) h2⟩
 |.ptr b off,v,hs,hv=>by
  have g:=lW (by simpa [AV.bS] using hs)
  simp only [ak] at hv ⊢;exact ⟨hv.1,g⟩
 |.rp b sz i j,v,hs,hv=>by
  have g:=lW (by simpa [AV.bS] using hs)
  simp only [ak] at hv ⊢;exact ⟨hv.1,g⟩
 |.Bx b,v,hs,hv=>by
  have g:=lW (by simpa [AV.bS] using hs)
  simp only [ak] at hv ⊢;exact ⟨hv.1,g⟩
 |.ow b sz m,v,hs,hv=>by
  have g:=lW (by simpa [AV.bS] using hs)
  simp only [ak] at hv ⊢;exact ⟨g,hv.2⟩
 |.vw b sz off m c ex,v,hs,hv=>by
  have g:=lW (by simpa [AV.bS] using hs)
  simp only [ak] at hv ⊢;exact ⟨g,hv.2⟩
 |.ep ds,v,_,hv=>by
  simp only [ak] at hv ⊢;obtain ⟨blk,off,h1,h2,h3⟩:=hv
  exact ⟨blk,off,h1,h blk h2,bp.mono (fun blk hb=>⟨h blk hb,rfl⟩) blk (fun _=>rfl) _ _ h3⟩
 |.cl es,v,_,hv=>by
  simp only [ak] at hv ⊢;obtain ⟨base,h1,h2⟩:=hv
  refine ⟨base,h1,h2.imp id ?_⟩
  rintro ⟨blk,off,sz,e1,e2,e3⟩
  exact ⟨blk,off,sz,e1,h blk e2,ay.mono (fun blk hb=>⟨h blk hb,rfl⟩) blk sz (fun _=>rfl) _ _ e3⟩
 |.fn f cs,v,hs,hv=>by
  simp only [ak] at hv ⊢;obtain ⟨vs,h1,h2⟩:=hv
  exact ⟨vs,h1,lY h cs vs (by simpa [AV.bS] using hs) h2⟩
 |.rN t x,v,hs,hv=>by
  simp only [ak] at hv ⊢;obtain ⟨u,h1,h2⟩:=hv
  exact ⟨u,h1,vQ h x u (by simpa [AV.bS] using hs) h2⟩
 |.cond p x,v,hs,hv=>by
  simp only [ak] at hv ⊢
  exact ⟨fun hp=>vQ h x v (by simpa [AV.bS] using hs) (hv.1 hp),hv.2⟩
theorem lY {ok ok':Nat→Prop} {jO:List aB} (h:∀blk,ok blk→ok' blk):∀(xs:List AV) (vs:List Value),AV.bS.dg jO xs=true→an β bx w ok xs vs→an β jO w ok' xs vs
 |[],vs,_,hv=>by simpa [an] using hv
 |x::xs,vs,hs,hv=>by
  simp only [an] at hv ⊢
  obtain ⟨u,us,h1,h2,h3⟩:=hv
  simp only [AV.bS.dg,Bool.and_eq_true] at hs
  exact ⟨u,us,h1,vQ h x u hs.1 h2,lY h xs us hs.2 h3⟩
end
theorem lZ {dt:Bool} {jO:List aB}:∀{bs:List aB} {i:Nat} {b:aB},dY dt jO bs=true→bs[i]?=some b→(∃cs,b=.var cs∧AV.m0 dt cs=true∧AV.bS.dg jO cs=true)∨b=.dead∨b=.bC
 |[],i,b,_,hi=>by simp at hi
 |b0::bs,i,b,h,hi=>by
  have hr:dY dt jO bs=true∧((∃cs,b0=.var cs∧AV.m0 dt cs=true∧AV.bS.dg jO cs=true)∨b0=.dead∨b0=.bC):=by
   cases b0 with
   |var cs=>
    simp only [dY] at h
    cases hc:(AV.m0 dt cs&&AV.bS.dg jO cs) with
    |false=>simp [hc] at h
    |true=>simp only [hc,cond_true] at h;simp at hc;exact ⟨h,.inl ⟨cs,rfl,hc.1,hc.2⟩⟩
   |dead=>exact ⟨h,.inr (.inl rfl)⟩
   |bC=>exact ⟨h,.inr (.inr rfl)⟩
   |_=>simp [dY] at h
  cases i with
  |zero=>simp only [List.getElem?_cons_zero,osI] at hi;subst hi;exact hr.2
  |succ i=>simp only [List.getElem?_cons_succ] at hi;exact lZ hr.1 hi
theorem zG {x:AV} {i:Nat} {b:aB} (h:(x.cu bx)[i]?=some b):bx[i]?=some b∨∃s es,bx[i]?=some (.row s es)∧b=.kx s es:=by
 have go:∀k:Nat,(match bx[k]? with|some (.row s es)=>bx.set k (.kx s es)|_=>bx)[i]?=some b→bx[i]?=some b∨∃s es,bx[i]?=some (.row s es)∧b=.kx s es:=by
  intro k h
  split at h
  ·rename_i s es hk
   rcases aU h with ⟨rfl,rfl,_⟩|⟨_,h2⟩
   ·exact .inr ⟨s,es,hk,rfl⟩
   exact .inl h2
  exact .inl h
 cases x with
 |ow k _ _=>exact go k h
 |vw k _ _ _ _ _=>exact go k h
 |_=>exact .inl h
theorem Ch:∀{xs:List AV} {bx:List aB} {i:Nat} {b:aB},(ek bx xs)[i]?=some b→bx[i]?=some b∨∃s es,bx[i]?=some (.row s es)∧b=.kx s es
 |[],_,_,_,h=>.inl h
 |x::xs,bx,i,b,h=>by
  rcases Ch (xs:=xs) (bx:=x.cu bx) h with h1|⟨s,es,h1,rfl⟩
  ·exact zG h1
  rcases zG h1 with h2|⟨_,_,_,h3⟩
  ·exact .inr ⟨s,es,h2,rfl⟩
  cases h3
theorem sL:∀{xs:List AV} {bx:List aB} {i:Nat} {b:aB},(fy bx xs)[i]?=some b→bx[i]?=some b∨∃s es,bx[i]?=some (.row s es)∧b=.kx s es
 |[],_,_,_,h=>.inl h
 |x::xs,bx,i,b,h=>by
  have one:∀{b:aB},(lI bx x)[i]?=some b→bx[i]?=some b∨∃s es,bx[i]?=some (.row s es)∧b=.kx s es:=by
   intro b h
   cases x with
   |agg cs=>exact Ch h
   |_=>simp only [lI] at h;exact zG h
  rcases sL (xs:=xs) (bx:=lI bx x) h with h1|⟨s,es,h1,rfl⟩
  ·exact one h1
  rcases one h1 with h2|⟨_,_,_,h3⟩
  ·exact .inr ⟨s,es,h2,rfl⟩
  cases h3
theorem xe {f:Nat} {args:List AV} {vs:List Value} {v:AV} (cx:cJ G β bx w X) (hx:an β bx w (bz β bx w X) args vs) (h:mJ (bH P G) f args bx v):
 jv P f ⟨vs⟩ w fun e w'=>∃u,e=.returned u∧Ext β bx w β bx w'∧cJ G β bx w' X∧ak β bx w' (bz β bx w' X) v u:=by
 obtain ⟨nE,jO,hz,hnm,⟨dt,hl,hdt⟩,hin,hf,hv⟩:=h
 obtain ⟨e1,cxS,hargs⟩:=lF args bx nE vs cx hz hx
 have cB:∀(i:Nat) (b:aB),jO[i]?=some b→b.live=true→bx[i]?=some b:=by
  intro i b hi hb
  obtain ⟨b',h1,h2,h3⟩:=hin i b hi (q7 hb)
  rw [h3 hb] at h1;exact h1
 have dQ:∀i,bX jO i→bX bx i:=by
  rintro i ⟨b,h1,h2⟩
  obtain ⟨b',h3,h4,_⟩:=hin i b h1 h2
  exact ⟨b',h3,h4⟩
 have VU:∀(i:Nat) (b:aB),(fy bx args)[i]?=some b→b.live=true→bx[i]?=some b:=by
  intro i b hi hb
  rcases sL hi with h1|⟨s,es,_,rfl⟩
  ·exact h1
  simp [aB.live] at hb
 have TF:∀(i:Nat) (b:aB),jO[i]?=some b→b.live=true→∃cs,b=.var cs∧AV.m0 dt cs=true∧AV.bS.dg jO cs=true:=by
  intro i b hi hb
  rcases lZ hl hi with h1|rfl|rfl
  ·exact h1
  ·simp [aB.live] at hb
  simp [aB.live] at hb
 let XV:Nat→Prop:=fun blk=>X blk∨∃(i:Nat) (b:aB),(fy bx args)[i]?=some b∧b.live=true∧(∀b',jO[i]?=some b'→b'.live=false)∧β i=blk
 have hok:∀blk,bz β (fy bx args) w X blk→bz β jO w XV blk:=by
  rintro blk ⟨k1,k2,k3⟩
  refine ⟨k1,?_,?_⟩
  ·rintro (hX|⟨i,b,h1,h2,_,h3⟩)
   ·exact k2 hX
   exact k3 i b h1 h2 h3
  intro i b hi hb he
  obtain ⟨cs,rfl,_⟩:=TF i b hi hb
  have rf:=cB i _ hi hb
  obtain ⟨_,b',hb',_⟩:=e1.born i ⟨_,rf,rfl⟩
  rcases sL hb' with h4|⟨s,es,h4,_⟩
  ·rw [rf] at h4;cases h4
   exact k3 i _ hb' rfl he
  rw [rf] at h4;cases h4
 have uo:∀{β1:Nat→Nat} {w':World},eX [] args=some nE→Ext β jO w β1 jO w'→∀blk,bz β1 jO w' XV blk→bz β bx w' X blk:=by
  rintro β1 w' Ou zB blk ⟨k1,k2,k3⟩
  refine ⟨k1,fun hX=>k2 (.inl hX),?_⟩
  intro i b hi hb he
  by_cases hk:∃b',jO[i]?=some b'∧b'.live=true
  ·obtain ⟨b',h1,h2⟩:=hk
   refine k3 i b' h1 h2 ?_
   rw [(zB.born i ⟨b',h1,q7 h2⟩).1];exact he
  refine k2 (.inr ⟨i,b,by rw [jZ bx Ou];exact hi,hb,?_,he⟩)
  intro b' hb'
  cases hq:b'.live with
  |false=>rfl
  |true=>exact absurd ⟨b',hb',hq⟩ hk
 have cxV:cJ G β jO w XV:=by
  refine ⟨?_,?_,?_,?_,?_⟩
  ·rintro blk (hX|⟨i,b,h1,h2,_,rfl⟩)
   ·exact cx.xs blk hX
   exact dm.fI (cx.box i b (VU i b h1 h2)) h2
  ·intro g ds hg
   obtain ⟨k1,k2⟩:=cxS.ym g ds hg
   exact ⟨hok g k1,bp.mono (fun blk hb=>⟨hok blk hb,rfl⟩) g (fun _=>rfl) _ _ k2⟩
  ·intro i j bi bj hi hj li lj
   exact cx.inj i j bi bj (cB i bi hi li) (cB j bj hj lj) li lj
  ·intro i b hi
   rcases lZ hl hi with ⟨cs,rfl,hcs,fc⟩|rfl|rfl
   ·have hb:=cx.box i _ (cB i _ hi rfl)
    simp only [dm] at hb ⊢
    obtain ⟨c,e,g1,g2⟩:=hb
    exact ⟨c,e,g1,lX (jO:=jO) (fun b hb=>⟨rfl,hb⟩) (fun hd d v hv=>aS.mono (fun blk hb=>⟨hok blk (by rw [jZ bx (hdt hd)];exact hb),rfl⟩) d v hv) cs _ hcs fc g2⟩
   ·trivial
   trivial
  intro i b hi hb
  rintro (hX|⟨j,b2,h1,h2,h3,h4⟩)
  ·exact cx.apart i b (cB i b hi hb) hb hX
  have:j=i:=cx.inj j i b2 b (VU j b2 h1 h2) (cB i b hi hb) h2 hb h4
  subst this
  rw [h3 b hi] at hb;cases hb
 have Us:an β jO w (bz β jO w XV) nE vs:=lY hok _ _ hnm hargs
 refine jv.mono (hf β w vs XV cxV Us) ?_
 rintro e w' ⟨β1,zB,RA,hres⟩
 have ex:Ext β bx w β bx w':=⟨zB.os,zB.tape,zB.output,zB.size,fun k hk hn=>zB.block k hk (fun i b hi hb=>hn i b (cB i b hi hb) hb),zB.shape,fun i hi=>⟨rfl,hi⟩,fun i b h1 h2=>.inr ⟨i,b,h1,h2,rfl⟩⟩
 cases e with
 |returned u=>
  refine ⟨u,rfl,ex,cx.step ex ?_ cx.inj,?_⟩
  ·intro i b hi
   by_cases hk:∃b',jO[i]?=some b'∧b'.live=true
   ·obtain ⟨b',h1,h2⟩:=hk
    have h3:=cB i b' h1 h2
    rw [hi] at h3;cases h3
    obtain ⟨cs,rfl,hcs,fc⟩:=TF i b h1 h2
    refine .inr ?_
    have hb:=RA.box i _ h1
    simp only [dm] at hb ⊢
    obtain ⟨c,e,g1,g2⟩:=hb
    have wT:bX jO i:=⟨_,h1,rfl⟩
    rw [(zB.born i wT).1] at g1
    exact ⟨c,e,g1,lX (jO:=jO) (fun b hb=>⟨((zB.born b hb).1).symm,dQ b hb⟩) (fun hd d v hv=>aS.mono (fun blk hb=>⟨uo (hdt hd) zB blk hb,rfl⟩) d v hv) cs _ hcs fc g2⟩
   refine .inl ⟨hi,fun hlv=>zB.block _ (dm.fI (cx.box i b hi) hlv) ?_⟩
   intro j b2 hj tK he
   have:=cx.inj j i b2 b (cB j b2 hj tK) hi tK hlv he
   subst this
   exact hk ⟨b2,hj,tK⟩
  rcases hv with hfl|⟨Ou,hsh⟩
  ·exact Fo v u hfl hres
  refine pN ?_ v u hsh hres
  rintro blk ⟨k1,k2,k3⟩
  refine ⟨k1,fun hX=>k2 (.inl hX),?_⟩
  intro i b hi hb he
  by_cases hk:∃b',jO[i]?=some b'∧b'.live=true
  ·obtain ⟨b',h1,h2⟩:=hk
   refine k3 i b' h1 h2 ?_
   rw [(zB.born i ⟨b',h1,q7 h2⟩).1];exact he
  refine k2 (.inr ⟨i,b,by rw [jZ bx Ou];exact hi,hb,?_,he⟩)
  intro b' hb'
  cases hq:b'.live with
  |false=>rfl
  |true=>exact absurd ⟨b',hb',hq⟩ hk
 |panicked ch=>exact hres.elim
 |outgrown=>exact hres.elim
theorem k9 {f:Nat} {args:List AV} {vs:List Value} {v:AV} {K:AV→List aB→Prop} (cx:cJ G β bx w X) (hx:an β bx w (bz β bx w X) args vs) (h:mJ (bH P G) f args bx v) (hK:K v bx):
 jv P f ⟨vs⟩ w fun e w'=>∃β' aZ v u,e=.returned u∧Ext β bx w β' aZ w'∧cJ G β' aZ w' X∧ak β' aZ w' (bz β' aZ w' X) v u∧K v aZ:=
 jv.mono (xe cx hx h) fun _ _ ⟨u,h1,h2,h3,h4⟩=>⟨β,bx,v,u,h1,h2,h3,h4,hK⟩
end
end Dem
end
section
open Go
namespace Dem
section
variable {P:Program} {T:Nat→Option TI} {G:Nat→Option (List D)} {β:Nat→Nat} {bx:List aB} {w:World} {X:Nat→Prop}
theorem Ov {a b:D} (h:oY a b=true):a=b:=by
 cases a<;>cases b<;>simp [oY] at h
 ·rw [h.1,h.2]
 rw [h]
theorem Fx {d:TypeDesc} {a b:D} {u v:Value} {ok:Nat→Prop} (ha:nw (cR d) a=true) (hb:nw (cR d) b=true) (hu:aS w ok a u) (hv:aS w ok b v):Instr.sameNow d u v=some (oY a b):=by
 cases d<;>cases a<;>simp [cR,nw] at ha<;>cases b<;>simp [cR,nw] at hb<;>simp only [aS] at hu hv<;>subst hu hv
 ·subst ha hb;simp only [Instr.sameNow,oY,if_true,beq_self_eq_true,Bool.true_and];congr 1
 rename_i a b
 have:(⟨a.toArray⟩:ByteArray)=⟨b.toArray⟩↔a=b:=by
  constructor
  ·intro h;simpa using h
  rintro rfl;rfl
 by_cases h:a=b
 ·subst h;simp only [Instr.sameNow,oY];congr 1;show (a.toArray==a.toArray)=decide True;simp
 have h2:¬((⟨a.toArray⟩:ByteArray)=⟨b.toArray⟩):=fun e=>h (this.1 e)
 simp only [Instr.sameNow,oY];congr 1;show (a.toArray==b.toArray)=decide (a=b);rw [show decide (a=b)=false by simp [h]];exact beq_eq_false_iff_ne.2 (fun e=>h (by simpa using e))
theorem Ma {kd:Kd} {a:D} {u v:Value} {ok:Nat→Prop} (ha:nw kd a=true) (hu:aS w ok a u) (hv:aS w ok a v):u=v:=by
 cases a<;>cases kd<;>simp [nw] at ha<;>simp only [aS] at hu hv<;>rw [hu,hv]
theorem pP {d:TypeDesc} {ag:Bool} {n:Nat} {k:D} {kv:Value} {ok:Nat→Prop} (hk:nw (cR d) k=true) (hkv:aS w ok k kv):
 ∀(es:List (List D)) (ms:List MapEntry) (i:Nat),bA w ok ag es ms→(∀r∈es,rowIs (cR d) n r)→
  (vF es k=none∧Instr.findNow d kv ms i=some none∧∀v,rO es k v=es++[k::v])∨
  (∃(j:Nat) (m:MapEntry) (ds:List D),Instr.findNow d kv ms i=some (some (i+j,m.val))∧ms[j]?=some m∧vF es k=some ds∧ds.length=n∧m.key=kv∧ia w ok ag (k::ds) m∧∀v,rO es k v=es.set j (k::v))
 |[],ms,i,h,_=>by
  simp only [bA] at h;subst h
  exact .inl ⟨rfl,rfl,fun _=>rfl⟩
 |r::rs,ms,i,h,hr=>by
  simp only [bA] at h
  obtain ⟨m,ET,rfl,h1,h2⟩:=h
  obtain ⟨x,ds,rfl,hx,hl⟩:=hr r (by simp)
  have KO:=h1
  simp only [ia] at h1
  obtain ⟨g1,g2⟩:=h1
  have hs:=Fx hk hx hkv g1
  simp only [vF,rO,Instr.findNow,hs]
  cases he:oY k x with
  |true=>
   obtain rfl:=Ov he
   refine .inr ⟨0,m,ds,by simp,by simp,by simp,hl,Ma hk g1 hkv,KO,fun v=>by simp⟩
  |false=>
   simp only [cond_false]
   rcases pP hk hkv rs ET (i+1) h2 (fun r hr'=>hr r (by simp [hr'])) with ⟨k1,k2,k3⟩|⟨j,m',ds',k1,k2,k3,k4,k5,k6,k7⟩
   ·exact .inl ⟨k1,k2,fun v=>by rw [k3];rfl⟩
   refine .inr ⟨j+1,m',ds',?_,by simpa using k2,k3,k4,k5,k6,fun v=>by rw [k7];rfl⟩
   rw [k1,show i+1+j=i+(j+1) by omega]
theorem run_checkKey {e:Bool} {t:Nat} {d:TypeDesc} {k:D} {kv:Value} {ok:Nat→Prop} (ht:P.underlying t=some d) (hk:nw (cR d) k=true) (hkv:aS w ok k kv):(Instr.checkKey e 10000 t kv).run P w=.ok () w:=by
 show (Instr.checkKey e (9999+1) t kv).run P w=.ok () w
 unfold Instr.checkKey
 cases d<;>cases k<;>simp [cR,nw] at hk<;>simp only [aS] at hkv<;>subst hkv<;>simp [bc ht]
theorem run_findKey {t:Nat} {d:TypeDesc} {kv:Value} {ms:List MapEntry} {r:Option (Nat×Value)} (ht:P.underlying t=some d) (h:Instr.findNow d kv ms 0=some r):(Instr.findKey t kv ms).run P w=.ok r w:=by
 unfold Instr.findKey
 simp [bc ht,h]
theorem bA.append {ag:Bool} {ok:Nat→Prop}:∀{es:List (List D)} {ms:List MapEntry} {fs:List (List D)} {ns:List MapEntry},bA w ok ag es ms→bA w ok ag fs ns→bA w ok ag (es++fs) (ms++ns)
 |[],ms,fs,ns,h,g=>by simp only [bA] at h;subst h;exact g
 |r::rs,ms,fs,ns,h,g=>by
  simp only [bA] at h
  obtain ⟨m,ET,rfl,h1,h2⟩:=h
  simp only [List.cons_append,bA]
  exact ⟨m,_,rfl,h1,h2.append g⟩
theorem bA.set {ag:Bool} {ok:Nat→Prop} {r:List D} {m:MapEntry} (hm:ia w ok ag r m):∀{es:List (List D)} {ms:List MapEntry} (j:Nat),bA w ok ag es ms→bA w ok ag (es.set j r) (ms.set j m)
 |[],ms,j,h=>by simp only [bA] at h;subst h;simp [bA]
 |x::xs,ms,0,h=>by
  simp only [bA] at h
  obtain ⟨m',ET,rfl,h1,h2⟩:=h
  simp only [List.set_cons_zero,bA]
  exact ⟨m,ET,rfl,hm,h2⟩
 |x::xs,ms,j+1,h=>by
  simp only [bA] at h
  obtain ⟨m',ET,rfl,h1,h2⟩:=h
  simp only [List.set_cons_succ,bA]
  exact ⟨m',_,rfl,h1,bA.set hm j h2⟩
theorem cH.Wr {ok:Nat→Prop}:∀{ds:List D} {vs:List Value},cH w ok ds vs→an β bx w ok (ds.map .d) vs
 |[],vs,h=>by simp only [cH] at h;subst h;simp [an]
 |d::ds,vs,h=>by
  simp only [cH] at h
  obtain ⟨v,r,rfl,h1,h2⟩:=h
  simp only [List.map_cons,an]
  exact ⟨v,r,rfl,by simpa [ak] using h1,h2.Wr⟩
theorem cH.length {ok:Nat→Prop}:∀{ds:List D} {vs:List Value},cH w ok ds vs→vs.length=ds.length
 |[],vs,h=>by simp only [cH] at h;subst h;rfl
 |d::ds,vs,h=>by
  simp only [cH] at h
  obtain ⟨v,r,rfl,_,h2⟩:=h
  simp [cH.length h2]
theorem ia.val {ag:Bool} {ok:Nat→Prop} {k:D} {ds:List D} {m:MapEntry} (h:ia w ok ag (k::ds) m) {n:Nat} (hn:ds.length=n) {v:AV} (hv:cL ag n (ds.map .d)=some v):ak β bx w ok v m.val:=by
 simp only [ia] at h
 obtain ⟨_,cs,h2,h3,h4⟩:=h
 have hl:=h4.length
 have ha:=h4.Wr (β:=β) (bx:=bx)
 cases ag with
 |true=>
  simp only [cL,cond_true] at hv
  rw [cond_true] at h2
  have hle:Nat.ble n (ds.map AV.d).length=true:=by simp [hn]
  simp only [hle,cond_true,osI] at hv
  subst hv
  rw [h2];simp only [ak]
  refine ⟨cs,rfl,?_⟩
  rw [List.take_of_length_le (by simp [hn])];exact ha
 |false=>
  simp only [cL,cond_false] at hv
  rw [cond_false] at h2
  have h1:=h3 rfl
  obtain ⟨c,rfl⟩:∃c,cs=[c]:=by
   match cs,h1 with
   |[c],_=>exact ⟨c,rfl⟩
  cases ds with
  |nil=>simp at hl
  |cons d ds=>
   simp at hv;subst hv
   rw [h2]
   simp only [List.map_cons,an] at ha
   obtain ⟨u,us,e,g,_⟩:=ha
   simp at e;obtain ⟨rfl,rfl⟩:=e
   simpa [ak] using g
theorem yH {r c:Nat} {es:Array MapEntry} (h:w.heap[r]?=some (.map es c)):(getObj r).run P w=.ok (.map es c) w:=by simp [getObj,Sem.run,h]
theorem run_setObj_map {r c:Nat} {es:Array MapEntry} (o:Obj) (h:w.heap[r]?=some (.map es c)):(setObj r o).run P w=.ok () {w with heap:=w.heap.setIfInBounds r o}:=by simp [setObj,Sem.run,h]
theorem Ci (hT:ko P T) (cx:cJ G β bx w X) {ty:Nat} {m:AV} {u:Value} {tk te:TI} {ag:Bool} {es:List (List D)} (h:zh T ty m bx=some (tk,te,ag,es)) (hu:ak β bx w (bz β bx w X) m u):
 ∃(kt et:Nat) (dk:TypeDesc),P.underlying ty=some (.map kt et)∧P.underlying kt=some dk∧tk.kd=cR dk∧o9 P et=some te∧
  ((u=.map none∧es=[])∨∃r ms clock,u=.map (some r)∧w.heap[r]?=some (.map ms clock)∧lM ms clock∧bA w (bz β bx w X) ag es ms.toList):=by
 unfold zh at h
 split at h
 ·rename_i ti ht
  obtain ⟨i,d,h1,h2,h3,h4,h5,h6⟩:=aP (hT.ti _ _ ht)
  split at h
  ·rename_i k e hk
   rw [h5] at hk
   cases d<;>simp [cR] at hk
   obtain ⟨vC,hk2⟩:=hk
   rw [vC,hk2] at h2
   have fin:∀{KR Ut:TI} {Rh:Bool} {es':List (List D)},T k=some KR→T e=some Ut→(KR,Ut,Rh,es')=(tk,te,ag,es)→
    ((u=.map none∧es=[])∨∃r ms clock,u=.map (some r)∧w.heap[r]?=some (.map ms clock)∧lM ms clock∧bA w (bz β bx w X) ag es ms.toList)→∃(kt et:Nat) (dk:TypeDesc),P.underlying ty=some (.map kt et)∧P.underlying kt=some dk∧tk.kd=cR dk∧o9 P et=some te∧
    ((u=.map none∧es=[])∨∃r ms clock,u=.map (some r)∧w.heap[r]?=some (.map ms clock)∧lM ms clock∧bA w (bz β bx w X) ag es ms.toList):=by
    intro KR Ut Rh es' a1 a2 a3 a4
    simp only [Prod.mk.injEq] at a3
    obtain ⟨rfl,rfl,rfl,rfl⟩:=a3
    obtain ⟨_,dk,_,b2,_,_,b5,_⟩:=aP (hT.ti _ _ a1)
    exact ⟨k,e,dk,h2,b2,b5,hT.ti _ _ a2,a4⟩
   split at h
   ·rename_i KR Ut Rh es' a1 a2
    simp only [osI] at h
    refine fin a1 a2 h ?_
    simp only [Prod.mk.injEq] at h
    obtain ⟨rfl,rfl,rfl,rfl⟩:=h
    simp only [ak,aS] at hu
    obtain ⟨r,ms,clock,g1,_,g2,g3,g4⟩:=hu
    exact .inr ⟨r,ms,clock,g1,g2,g3,g4⟩
   ·rename_i KR Ut a1 a2
    simp only [osI] at h
    refine fin a1 a2 h ?_
    simp only [Prod.mk.injEq] at h
    obtain ⟨rfl,rfl,rfl,rfl⟩:=h
    simp only [ak,KC.val] at hu
    exact .inl ⟨hu,rfl⟩
   ·rename_i KR Ut b a1 a2
    split at h
    ·rename_i Rh es' hb
     simp only [osI] at h
     refine fin a1 a2 h ?_
     simp only [Prod.mk.injEq] at h
     obtain ⟨rfl,rfl,rfl,rfl⟩:=h
     simp only [ak] at hu
     obtain ⟨ms,clock,g2,g3,g4⟩:=cx.box b _ hb
     exact .inr ⟨β b,ms,clock,hu.1,g2,g3,g4⟩
    cases h
   cases h
  cases h
 cases h
theorem Iv (hT:ko P T) (cx:cJ G β bx w X) {ty:Nat} {m:AV} {u kv:Value} {k:D} {tk te:TI} {ag BA:Bool} {es:List (List D)} (h:zh T ty m bx=some (tk,te,ag,es)) (hu:ak β bx w (bz β bx w X) m u)
 (hkv:aS w (bz β bx w X) k kv) (hf:vG tk te ag es k) {K:AV→Prop} (hK:oa te BA K (vF es k)):
 ∃v x,(Instr.lookup ty u kv BA).run P w=.ok x w∧ak β bx w (bz β bx w X) v x∧K v:=by
 obtain ⟨kt,et,dk,u1,u2,u3,u4,hu⟩:=Ci hT cx h hu
 obtain ⟨f1,f2,f3⟩:=hf
 rw [u3] at f2 f3
 have none_:∀ms:Array MapEntry,(∃e:Bool,Instr.findNow dk kv ms.toList 0=some none)→vF es k=none→(u=.map none∧ms=#[]∨∃r clock,u=.map (some r)∧w.heap[r]?=some (.map ms clock))→
  ∃v x,(Instr.lookup ty u kv BA).run P w=.ok x w∧ak β bx w (bz β bx w X) v x∧K v:=by
  rintro ms ⟨_,hfn⟩ hg hms
  rw [hg] at hK
  simp only [oa] at hK
  split at hK
  ·rename_i z hz
   obtain ⟨zv,z1,z2⟩:=Fi (β:=β) (bx:=bx) (w:=w) (ok:=bz β bx w X) u4 hz
   refine ⟨_,bif BA then .tuple #[zv,.bool false] else zv,?_,?_,hK⟩
   ·rcases hms with ⟨rfl,rfl⟩|⟨r,clock,rfl,hh⟩
    ·unfold Instr.lookup
     cases BA<;>simp [bc u1,run_checkKey u2 f2 hkv,run_findKey (w:=w) u2 hfn,z1]
    unfold Instr.lookup
    cases BA<;>simp [bc u1,yH hh,run_checkKey u2 f2 hkv,run_findKey (w:=w) u2 hfn,z1]
   cases BA with
   |true=>simp only [cond_true,ak,an,aS];exact ⟨_,rfl,_,_,rfl,z2,_,_,rfl,rfl,rfl⟩
   |false=>exact z2
  exact hK.elim
 rcases hu with ⟨rfl,rfl⟩|⟨r,ms,clock,rfl,hh,hst,Ow⟩
 ·exact none_ #[] ⟨true,rfl⟩ rfl (.inl ⟨rfl,rfl⟩)
 rcases pP f2 hkv es ms.toList 0 Ow f3 with ⟨k1,k2,_⟩|⟨j,e,ds,k1,k2,k3,k4,k5,k6,_⟩
 ·exact none_ ms ⟨true,k2⟩ k1 (.inr ⟨r,clock,rfl,hh⟩)
 rw [k3] at hK
 simp only [oa] at hK
 split at hK
 ·rename_i v hv
  have hvv:=k6.val (β:=β) (bx:=bx) k4 (by rw [←f1] at hv;exact hv)
  refine ⟨_,bif BA then .tuple #[e.val,.bool true] else e.val,?_,?_,hK⟩
  ·unfold Instr.lookup
   cases BA<;>simp [bc u1,yH hh,run_checkKey u2 f2 hkv,run_findKey (w:=w) u2 k1]
  cases BA with
  |true=>simp only [cond_true,ak,an,aS];exact ⟨_,rfl,_,_,rfl,hvv,_,_,rfl,rfl,rfl⟩
  |false=>exact hvv
 exact hK.elim
theorem zH {b:Nat} {B B':aB} {o o':Obj} (hb:bx[b]?=some B) (hl:B.live=true) (hl':B'.live=true) (hh:w.heap[β b]?=some o) (ho:∀c e f,o≠.cells c e f):
 Ext β bx w β (bx.set b B') {w with heap:=w.heap.setIfInBounds (β b) o'}:=by
 refine ⟨rfl,rfl,rfl,by simp,?_,?_,fun i hi=>⟨rfl,iE (q7 hl') hi⟩,?_⟩
 ·intro k hk hlk
  have hne:β b≠k:=hlk b _ hb hl
  simp [Array.getElem?_setIfInBounds_ne hne]
 ·intro k c e f hk
  have hne:β b≠k:=by rintro rfl;rw [hh] at hk;cases hk;exact ho c e f rfl
  exact ⟨c,by simp [Array.getElem?_setIfInBounds_ne hne,hk],rfl⟩
 intro i Bi hi mC
 rcases aU hi with ⟨rfl,_,_⟩|⟨_,h⟩
 ·exact .inr ⟨i,_,hb,hl,rfl⟩
 exact .inr ⟨i,Bi,h,mC,rfl⟩
theorem Iw (cx:cJ G β bx w X) {b:Nat} {B B':aB} {o o':Obj} (hb:bx[b]?=some B) (hl:B.live=true) (hl':B'.live=true) (hh:w.heap[β b]?=some o) (ho:∀c e f,o≠.cells c e f)
 (hB:dm β (bx.set b B') {w with heap:=w.heap.setIfInBounds (β b) o'} (bz β (bx.set b B') {w with heap:=w.heap.setIfInBounds (β b) o'} X) B' (β b)):
 cJ G β (bx.set b B') {w with heap:=w.heap.setIfInBounds (β b) o'} X:=by
 refine cx.step (zH hb hl hl' hh ho) ?_ ?_
 ·intro i Bi hi
  rcases aU hi with ⟨rfl,rfl,_⟩|⟨hne,h⟩
  ·exact .inr hB
  refine .inl ⟨h,fun mC=>?_⟩
  have Oh:β b≠β i:=fun he=>hne (cx.inj b i _ Bi hb h hl mC he).symm
  simp [Array.getElem?_setIfInBounds_ne Oh]
 intro i j bi bj hi hj mC ou he
 rcases aU hi with ⟨rfl,rfl,_⟩|⟨h1,h2⟩<;>rcases aU hj with ⟨rfl,rfl,_⟩|⟨h3,h4⟩
 ·rfl
 ·exact cx.inj _ _ _ _ hb h4 hl ou he
 ·exact cx.inj _ _ _ _ h2 hb mC hl he
 exact cx.inj _ _ _ _ h2 h4 mC ou he
theorem RI {ok:Nat→Prop} {x:AV} {y:D} {u:Value} (hn:cG [x]=true) (h:x.qP bx=some y) (hx:ak β bx w ok x u):aS w ok y u:=by
 cases x with
 |d x=>simp only [AV.qP,osI] at h;subst h;simpa [ak] using hx
 |cl es=>
  simp only [AV.qP,osI] at h;subst h
  simp only [ak] at hx
  obtain ⟨base,rfl,g⟩:=hx
  simp only [aS];exact ⟨base,_,rfl,Nat.le_refl _,g⟩
 |ow b sz n=>simp [cG] at hn
 |fn f cs=>
  cases cs with
  |nil=>
   simp only [AV.qP,osI] at h;subst h
   simp only [ak,an] at hx
   obtain ⟨vs,rfl,rfl⟩:=hx
   simp [aS,zj]
  |cons c cs=>simp [AV.qP] at h
 |_=>simp [AV.qP] at h
theorem DE {x:AV} {xs:List AV} (h:cG (x::xs)=true):cG [x]=true∧cG xs=true:=by
 cases x<;>simp_all [cG]
theorem zI {ok:Nat→Prop}:∀{xs:List AV} {ys:List D} {us:List Value},cG xs=true→iR bx xs=some ys→an β bx w ok xs us→cH w ok ys us
 |[],ys,us,_,h,hx=>by simp [iR] at h;subst h;simp only [an] at hx;subst hx;simp [cH]
 |x::xs,ys,us,hn,h,hx=>by
  simp only [iR] at h
  split at h
  ·rename_i y ys' h1 h2
   simp only [osI] at h;subst h
   simp only [an] at hx
   obtain ⟨u,N4,rfl,g1,g2⟩:=hx
   obtain ⟨n1,n2⟩:=DE hn
   simp only [cH]
   exact ⟨u,N4,rfl,RI n1 h1 g1,zI n2 h2 g2⟩
  simp at h
theorem DF {kd:Kd} {k:D} {kv:Value} {ok:Nat→Prop} (hk:nw kd k=true) (h:aS w ok k kv):Instr.sameBits 10000 kv kv=true:=by
 cases k<;>cases kd<;>simp [nw] at hk<;>simp only [aS] at h<;>subst h
 ·simp [Instr.sameBits]
 rename_i s
 show (s.toArray==s.toArray)=true
 simp
theorem sM {ms:Array MapEntry} {j:Nat} {m:MapEntry} (h:ms.toList[j]?=some m) (f:MapEntry→MapEntry):(ms.modify j f).toList=ms.toList.set j (f m):=by
 rw [Array.toList_modify]
 obtain ⟨hj,rfl⟩:=List.getElem?_eq_some_iff.1 h
 apply List.ext_getElem?
 intro i
 rw [List.getElem?_modify,List.getElem?_set]
 by_cases hi:j=i
 ·subst hi
  have hj2:j<ms.size:=by simpa using hj
  simp [hj2]
 simp [hi]
theorem Ox {ok:Nat→Prop} {x:AV} {xv:Value} {vs:List AV} {ds:List D} {k:D} {e:MapEntry} {ag:Bool} (hc:x.cells?=some vs) (hx:ak β bx w ok x xv) (hn:cG vs=true) (hd:iR bx vs=some ds) (ha:x.isAgg=ag)
 (hk:aS w ok k e.key) (he:e.val=xv):ia w ok ag (k::ds) e:=by
 simp only [ia]
 refine ⟨hk,?_⟩
 rw [he]
 cases x with
 |agg cs=>
  simp only [AV.cells?] at hc
  cases hs:tL cs with
  |false=>simp [hs] at hc
  |true=>
   simp only [hs,cond_true,osI] at hc
   subst hc
   simp only [AV.isAgg] at ha;subst ha
   simp only [ak] at hx
   obtain ⟨us,rfl,g⟩:=hx
   exact ⟨us,rfl,fun h=>(by cases h),zI hn hd g⟩
 |any=>simp [AV.cells?] at hc
 |vw _ _ _ _ _ _=>simp [AV.cells?] at hc
 |dX _=>simp [AV.cells?] at hc
 |cond _ _=>simp [AV.cells?] at hc
 |_=>
  simp only [AV.cells?,osI] at hc
  subst hc
  simp only [AV.isAgg] at ha;subst ha
  exact ⟨[xv],rfl,fun _=>rfl,zI hn hd (by simp only [an];exact ⟨xv,[],rfl,hx,rfl⟩)⟩
theorem Fy (hT:ko P T) (cx:cJ G β bx w X) {ty b:Nat} {m x:AV} {u kv xv:Value} {k:D} {tk te:TI} {ag:Bool} {es:List (List D)} {vs:List AV} {ds:List D} (h:Ds T ty m bx=some (b,tk,te,ag,es)) (hu:ak β bx w (bz β bx w X) m u)
 (hkv:aS w (bz β bx w X) k kv) (EU:ak β bx w (bz β bx w X) x xv) (hc:x.cells?=some vs) (hn:cG vs=true) (hd:iR bx vs=some ds) (hf:vG tk te ag es k) (ha:x.isAgg=ag):
 ∃w',(Instr.mapUpdate ty u kv xv).run P w=.ok () w'∧Ext β bx w β (bx.set b (.mp ag (rO es k ds))) w'∧cJ G β (bx.set b (.mp ag (rO es k ds))) w' X:=by
 unfold Ds at h
 split at h
 case h_2=>cases h
 rename_i b' KR Ut Rh es' hm
 simp only [osI,Prod.mk.injEq] at h
 obtain ⟨rfl,rfl,rfl,rfl,rfl⟩:=h
 obtain ⟨kt,et,dk,u1,u2,u3,u4,_⟩:=Ci hT cx hm hu
 obtain ⟨f1,f2,f3⟩:=hf
 rw [u3] at f2 f3
 have hb:bx[b']?=some (.mp Rh es'):=by
  unfold zh at hm
  split at hm
  ·split at hm
   ·split at hm
    ·rename_i _ _ h0;cases h0
    ·rename_i _ _ h0;cases h0
    ·rename_i _ _ h0
     cases h0
     split at hm
     ·rename_i hb
      simp only [osI,Prod.mk.injEq] at hm
      obtain ⟨_,_,rfl,rfl⟩:=hm
      exact hb
     cases hm
    cases hm
   cases hm
  cases hm
 simp only [ak] at hu
 obtain ⟨rfl,_⟩:=hu
 obtain ⟨ms,clock,hh,⟨Uu,st2⟩,Ow⟩:=cx.box b' _ hb
 have main:∀(ET:Array MapEntry) (clock':Nat),lM ET clock'→bA w (bz β bx w X) Rh (rO es' k ds) ET.toList→
  (Instr.mapUpdate ty (.map (some (β b'))) kv xv).run P w=.ok () {w with heap:=w.heap.setIfInBounds (β b') (.map ET clock')}→
  ∃w',(Instr.mapUpdate ty (.map (some (β b'))) kv xv).run P w=.ok () w'∧Ext β bx w β (bx.set b' (.mp Rh (rO es' k ds))) w'∧cJ G β (bx.set b' (.mp Rh (rO es' k ds))) w' X:=by
  intro ET clock' g1 g2 g3
  have ex:Ext β bx w β (bx.set b' (.mp Rh (rO es' k ds))) {w with heap:=w.heap.setIfInBounds (β b') (.map ET clock')}:=zH hb rfl rfl hh (fun c e f=>by simp)
  refine ⟨_,g3,ex,Iw cx hb rfl rfl hh (fun c e f=>by simp) ?_⟩
  exact ⟨ET,clock',by simp [eZ hh],g1,bA.mono (ex.keeps X) _ _ _ g2⟩
 rcases pP f2 hkv es' ms.toList 0 Ow f3 with ⟨k1,k2,k3⟩|⟨j,e,ds',k1,k2,k3,k4,k5,k6,k7⟩
 ·refine main (ms.push {key:=kv,val:=xv,born:=clock}) (clock+1) ⟨?_,?_⟩ ?_ ?_
  ·rw [Array.all_push]
   simp only [Bool.and_eq_true,decide_eq_true_eq]
   refine ⟨?_,by omega⟩
   rw [Array.all_eq_true] at Uu ⊢
   intro i hi
   have:=Uu i hi
   simp only [decide_eq_true_eq] at this ⊢
   omega
  ·rw [Array.toList_push,List.map_append,List.nodup_append]
   refine ⟨st2,by simp,?_⟩
   intro a TG c BB
   simp at BB
   obtain ⟨m',hm',rfl⟩:=List.mem_map.1 TG
   have:m'.born<clock:=by
    rw [Array.all_eq_true_iff_forall_mem] at Uu
    simpa using Uu m' (by simpa using hm')
   omega
  ·rw [k3,Array.toList_push]
   refine Ow.append ?_
   simp only [bA]
   exact ⟨_,[],rfl,Ox hc EU hn hd ha hkv rfl,rfl⟩
  unfold Instr.mapUpdate
  simp [bc u1,yH hh,run_checkKey u2 f2 hkv,run_findKey (w:=w) u2 k2,run_setObj_map _ hh]
 have YT:=DF f2 hkv
 refine main (ms.modify j fun e=>{e with key:=kv,val:=xv}) clock ⟨?_,?_⟩ ?_ ?_
 ·rw [Array.all_eq_true_iff_forall_mem] at Uu ⊢
  intro y hy
  have Ws:y∈(ms.modify j fun e=>{e with key:=kv,val:=xv}).toList:=Array.mem_def.1 hy
  rw [sM k2] at Ws
  rcases List.mem_or_eq_of_mem_set Ws with h1|h1
  ·exact Uu y (by simpa using h1)
  subst h1
  exact Uu e (by simpa using List.mem_of_getElem? k2)
 ·rw [sM k2,List.map_set]
  have:(ms.toList.map (·.born)).set j ({e with key:=kv,val:=xv}:MapEntry).born=ms.toList.map (·.born):=by
   apply List.ext_getElem?
   intro i
   rw [List.getElem?_set]
   by_cases hi:j=i
   ·subst hi
    have:=(List.getElem?_eq_some_iff.1 k2).1
    simp [k2] at this ⊢
    simp [this]
   simp [hi]
  rw [this];exact st2
 ·rw [k7,sM k2]
  exact bA.set (Ox hc EU hn hd ha hkv rfl) j Ow
 unfold Instr.mapUpdate
 simp only [Nat.zero_add] at k1
 have k2':ms[j]?=some e:=by simpa using k2
 simp [bc u1,yH hh,run_checkKey u2 f2 hkv,run_findKey (w:=w) u2 k1,run_setObj_map _ hh,Instr.keyThatStays,k2',k5,YT]
end
end Dem
end
section
open Go
namespace Dem
section
variable {P:Program} {T:Nat→Option TI} {G:Nat→Option (List D)} {β:Nat→Nat} {bx:List aB} {w:World} {X:Nat→Prop}
theorem Ix (cx:cJ G β bx w X) {e size cap:Nat} {rows:List (List D)} {vs zs:List Value} (hl:∀r∈rows,r.length=size) (hv:an β bx w (bz β bx w X) (rows.flatten.map .d) vs)
 (hlen:rows.length≤cap):
 let w':World:={w with drawn:=w.drawn+1,heap:=w.heap.push (.cells ⟨vs++zs⟩ e)}
 Ext β bx w β bx w'∧cJ G β bx w' X∧ak β bx w' (bz β bx w' X) (.d (.sl rows)) (.slice (some ⟨w.heap.size,0,none⟩) rows.length cap):=by
 intro w'
 have RA:=pH cx (fB w)
 have zB:Ext β bx w β bx {w with drawn:=w.drawn+1}:=iX (fB w)
 have Wm:Ext β bx {w with drawn:=w.drawn+1} β bx w':=tU (w:={w with drawn:=w.drawn+1}) (.cells ⟨vs++zs⟩ e)
 have hnew:w'.heap[w.heap.size]?=some (.cells ⟨vs++zs⟩ e):=iZ {w with drawn:=w.drawn+1} _
 refine ⟨zB.trans Wm,E3 (w:={w with drawn:=w.drawn+1}) RA _,?_⟩
 simp only [ak,aS]
 refine ⟨_,_,rfl,hlen,.inr ⟨w.heap.size,0,size,rfl,⟨eZ hnew,fun hX=>?_,fun i b hb hlv=>?_⟩,?_⟩⟩
 ·exact Nat.lt_irrefl _ (cx.xs _ hX)
 ·have:=(cx.box i b hb).fI hlv;omega
 refine mL (β:=β) (bx:=bx) rows 0 vs hl ?_ (an.mono ((zB.trans Wm).eS X) _ _ hv)
 intro k u hk
 have hk':k<vs.length:=by
  rcases Nat.lt_or_ge k vs.length with h|h
  ·exact h
  simp [List.getElem?_eq_none h] at hk
 show World.cell? w' ⟨w.heap.size,0+k,none⟩=some u
 simp only [World.cell?,hnew]
 simp [List.getElem?_append_left hk',hk]
theorem Cj (hT:ko P T) (cx:cJ G β bx w X) {ev:Operand→AV} {ρ:Operand→Value} {o:Oper} (hρ:∀x∈o.op.operands.toList,ak β bx w (bz β bx w X) (ev x) (ρ x))
 {c:Prop} {es:List (List D)} (hr:BE T ev o.op=some (c,es)) (hc:c):dF G β bx w X ((execOp ρ o).run P w) (.d (.sl es)) bx:=by
 obtain ⟨dst,op,type,pos,after,guard⟩:=o
 simp only at hρ hr
 unfold BE at hr
 split at hr
 case h_2=>cases hr
 rename_i b args ats
 split at hr
 case h_2=>cases hr
 rename_i x y t u ha Ur
 cases ht:T t with
 |none=>simp [ht] at hr
 |some ti=>
 cases hu:T u with
 |none=>simp [ht,hu] at hr
 |some tu=>
 simp only [ht,hu] at hr
 obtain ⟨i,d,h1,h2,h3,h4,h5,h6⟩:=aP (hT.ti _ _ ht)
 obtain ⟨ui,ud,u1,u2,u3,u4,u5,u6⟩:=aP (hT.ti _ _ hu)
 cases hk:ti.kd with
 |slice e=>
  cases hku:tu.kd with
  |slice e2=>
   rw [hk] at hr h5
   rw [hku] at hr u5
   have Dy:∀k,ud≠.int k:=by rintro k rfl;cases u5
   cases d<;>simp [cR] at h5
   subst h5
   cases hte:T e with
   |none=>simp [hte] at hr
   |some te=>
   obtain ⟨ei,ed,g1,g2,g3,g4,g5,g6⟩:=aP (hT.ti _ _ hte)
   simp only [hte] at hr
   cases hz:eJ te with
   |false=>simp [hz] at hr
   |true=>
   obtain ⟨z,hz1,Oi,Yj,Yk⟩:=lU hz
   obtain ⟨zv,zc,k1,k2,k3,_⟩:=ue (β:=β) (bx:=bx) (w:=w) (ok:=bz β bx w X) (hT.ti _ _ hte) hz1
   have hzl:zc.length=ei.size:=by rw [an.length k3,Oi,g3]
   have yG:ei.zero=some zv:=by
    cases hq:ei.zero with
    |none=>rw [g6,hq] at hz1;simp [AV.cells?] at hz1
    |some q=>have:=gH (P:=P) (w:=w) g1 hq;rw [k1] at this;simp at this;rw [this]
   simp only [hz,cond_true] at hr
   split at hr
   case h_2=>cases hr
   rename_i es x0 xr hx hy
   simp only [osI,Prod.mk.injEq] at hr
   obtain ⟨rfl,rfl⟩:=hr
   obtain ⟨BB,BC⟩:=hc
   have mx:x∈args.toList:=by rw [ha];simp
   have my:y∈args.toList:=by rw [ha];simp
   have hs:=hρ x (by simp [Op.operands,Call.operands];exact by simpa using mx)
   have hxx:=hρ y (by simp [Op.operands,Call.operands];exact by simpa using my)
   rw [hx] at hs
   rw [hy] at hxx
   obtain ⟨ws,f1,f2⟩:=kZ (P:=P) (xs:=x0::xr) cx hxx (by simp [kB,AV.rows]) (fun r hr=>BC r (List.mem_append.2 (.inr hr)))
   rw [g3] at f1
   simp only [ak] at hs
   obtain ⟨base,hsx,hbase⟩:=hs
   have fin:∀(os:List Value),gq P w ei.size es.length (.slice base es.length es.length) os→an β bx w (bz β bx w X) (es.flatten.map .d) os→dF G β bx w X ((execOp ρ ⟨dst,.call {callee:=.builtin .append,args:=args,argTypes:=ats},type,pos,after,guard⟩).run P w) (.d (.sl (es++x0::xr))) bx:=by
    intro os o1 o2
    obtain ⟨cap,rest,q1,q2,zs,q3,q4⟩:=jk h2 u2 Dy g1 yG k2 hzl f1 o1 (by simp) (by omega) (by rw [←g4];exact BB) type
    obtain ⟨r1,r2,r3⟩:=Ix (e:=e) (size:=te.size) (cap:=cap) (rows:=es++(x0::xr)) (zs:=zs) (vs:=os++ws) cx BC (an.flatten_append o2 f2) (by rw [List.length_append];exact q1)
    rw [List.length_append] at r3
    refine ⟨β,_,r1,r2,.inl ⟨_,?_,r3⟩⟩
    simp only [execOp,resolve,Sem.run_bind,Sem.run_pure,Result.andThen_ok,invoke,fM args ρ]
    have ea:ats=⟨[t,u]⟩:=Array.toList_inj.1 (by rw [Ur])
    rw [ha,List.map_cons,List.map_cons,List.map_nil,hsx,ea]
    exact bQ _ q4
   cases es with
   |nil=>
    refine fin [] ⟨dy,by simp,fun w' _=>⟨dy,?_⟩⟩ (by simp [an])
    cases base<;>simp [Builtin.firstCells,loadCells,loadCellsFrom]
   |cons e0 er=>
    obtain ⟨os,o1,o2⟩:=dR (P:=P) (β:=β) (bx:=bx) (cap:=(e0::er).length) (base:=base) (es:=e0::er) (ok:=bz β bx w X) (fun r hr=>BC r (List.mem_append.2 (.inl hr))) (hbase.imp id fun ⟨blk,off,sz,a,_,c⟩=>⟨blk,off,sz,a,c⟩)
    rw [g3] at o1
    exact fin os o1 o2
  |_=>simp [hk,hku] at hr
 |_=>simp [hk] at hr
end
end Dem
end
