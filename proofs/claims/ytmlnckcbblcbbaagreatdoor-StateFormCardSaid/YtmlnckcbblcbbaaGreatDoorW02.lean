/- Parts of a proof, joined. -/
import Derived.Test.YtmlnckcbblcbbaaGreatDoorW01
import Derived.WalkSpells
import Derived.Lib.LazyBuf
import Derived.Deep.LoopGhost
import Derived.Defers
import Derived.ChangeSame
import Derived.ChangeArms
import Derived.OpenShut
import Derived.WideShapes
import Derived.Deep.Slices
import Derived.Orders
set_option linter.all false
set_option maxRecDepth 100000
set_option maxHeartbeats 4000000
section
open Go
namespace Dem
section
variable {P:Program}{T:Nat->Option TI}{G:Nat->Option (List D)}{β:Nat->Nat}{bx:List av}{w:World}{X:Nat->Prop}
def eH(β:Nat->Nat)(bx:List av)(w:World)(ok:Nat->Prop):eP->Ending->Prop
 |.ret v,.returned u=>ai β bx w ok v u|.zh v,.panicked ch=>∃u,ch=[{v:=u,recovered:=false}]/\ai β bx w ok v u|_,_=>False
def lg(P:Program)(f:Nat)(vs:Array Value)(w:World)(R:Ending->World->Prop):Prop:=
 ((callFunc f vs).run P w=.ok (.enter f vs) w/\Calls P f vs w R)∨∃v w',(callFunc f vs).run P w=.ok (.value v) w'/\R (.returned v) w'
theorem lg.mono {f:Nat} {vs:Array Value} {R R':Ending->World->Prop} (h:lg P f vs w R) (hr:∀e w',R e w'->R' e w'):lg P f vs w R':=by
 rcases h with⟨h1,h2⟩|⟨v,w',h1,h2⟩
 .exact .inl ⟨h1,Calls.mono h2 hr⟩
 exact .inr ⟨v,w',h1,hr _ _ h2⟩
def be(P:Program)(G:Nat->Option (List D))(f:Nat)(args:List AV)(bx:List av)(res:eP)(aE:List av):Prop:=
 ∀(β:Nat->Nat) (w:World) (vs:List Value) (X:Nat->Prop),cB G β bx w X->an β bx w (bq β bx w X) args vs->
  lg P f ⟨vs⟩ w λe w'=>∃β',Ext β bx w β' aE w'/\cB G β' aE w' X/\eH β' aE w' (bq β' aE w' X) res e
mutual
theorem sS{β β':Nat->Nat}{bx aE:List av}{w:World}{ok ok':Nat->Prop}(h:∀blk,ok blk->ok' blk):∀(x:AV) (v:Value),x.shut=true->ai β bx w ok x v->ai β' aE w ok' x v
 |.any,_,_,_=>by simp[ai]|.d x,v,_,hv=>by simp only[ai]at hv ⊢;exact aP.mono (λblk hb=>⟨h blk hb,rfl⟩) _ _ hv|.k c,v,_,hv=>by simpa[ai]using hv|.agg cs,v,hs,hv=>by simp only[ai]at hv ⊢;obtain⟨vs,h1,h2⟩:=hv;exact⟨vs,h1,nG h cs vs (by simpa[AV.shut]using hs) h2⟩
 |.c5 cs,v,hs,hv=>by simp only[ai]at hv ⊢;obtain⟨vs,h1,h2⟩:=hv;exact⟨vs,h1,nG h cs vs (by simpa[AV.shut]using hs) h2⟩
 |.ptr _ _,_,hs,_=>by simp[AV.shut]at hs|.rp _ _ _ _,_,hs,_=>by simp[AV.shut]at hs|.ow _ _ _,_,hs,_=>by simp[AV.shut]at hs|.vw _ _ _ _ _ _,_,hs,_=>by simp[AV.shut]at hs|.ep ds,v,_,hv=>by simp only[ai]at hv ⊢;obtain⟨blk,off,h1,h2,h3⟩:=hv;exact⟨blk,off,h1,h blk h2,bg.mono (λblk hb=>⟨h blk hb,rfl⟩) blk (λ_=>rfl) _ _ h3⟩
 |.cl es,v,_,hv=>by simp only[ai]at hv ⊢;obtain⟨base,h1,h2⟩:=hv;refine⟨base,h1,h2.imp id ?_⟩;rintro⟨blk,off,sz,e1,e2,e3⟩;exact⟨blk,off,sz,e1,h blk e2,ax.mono (λblk hb=>⟨h blk hb,rfl⟩) blk sz (λ_=>rfl) _ _ e3⟩
 |.fn f cs,v,hs,hv=>by simp only[ai]at hv ⊢;obtain⟨vs,h1,h2⟩:=hv;exact⟨vs,h1,nG h cs vs (by simpa[AV.shut]using hs) h2⟩
 |.sG t x,v,hs,hv=>by simp only[ai]at hv ⊢;obtain⟨u,h1,h2⟩:=hv;exact⟨u,h1,sS h x u (by simpa[AV.shut]using hs) h2⟩
 |.cond p x,v,hs,hv=>by simp only[ai]at hv ⊢;exact⟨λhp=>sS h x v (by simpa[AV.shut]using hs) (hv.1 hp),hv.2⟩
theorem nG{β β':Nat->Nat}{bx aE:List av}{w:World}{ok ok':Nat->Prop}(h:∀blk,ok blk->ok' blk):∀(xs:List AV) (vs:List Value),AV.shut.mZ xs=true->an β bx w ok xs vs->an β' aE w ok' xs vs
 |[],vs,_,hv=>by simpa[an]using hv|x::xs,vs,hs,hv=>by simp only[an]at hv ⊢;obtain⟨u,us,h1,h2,h3⟩:=hv;simp only[AV.shut.mZ,vae]at hs;exact⟨u,us,h1,sS h x u hs.1 h2,nG h xs us hs.2 h3⟩
end
theorem uE{β β':Nat->Nat}{bx aE:List av}{w w':World}{ok ok':Nat->Prop}:∀(xs:List AV) (vs:List Value),AV.flat.BX xs=true->an β bx w ok xs vs->an β' aE w' ok' xs vs
 |[],vs,_,hv=>by simpa[an]using hv|x::xs,vs,hs,hv=>by
  simp only[an]at hv ⊢;obtain⟨u,us,h1,h2,h3⟩:=hv;cases x with
  |d y=>cases y<;>simp[AV.flat.BX]at hs<;>exact⟨u,us,h1,by simpa[ai,aP]using h2,uE xs us hs h3⟩
  |k c=>simp[AV.flat.BX]at hs;exact⟨u,us,h1,by simpa[ai]using h2,uE xs us hs h3⟩|_=>simp[AV.flat.BX]at hs
theorem qX{β β':Nat->Nat}{bx aE:List av}{w w':World}{ok ok':Nat->Prop}:∀(xs:List AV) (vs:List Value),AV.flat.sK xs=true->an β bx w ok xs vs->an β' aE w' ok' xs vs
 |[],vs,_,hv=>by simpa[an]using hv|x::xs,vs,hs,hv=>by
  simp only[an]at hv ⊢;obtain⟨u,us,h1,h2,h3⟩:=hv;cases x with
  |d y=>cases y<;>simp[AV.flat.sK]at hs<;>exact⟨u,us,h1,by simpa[ai,aP]using h2,qX xs us hs h3⟩
  |k c=>simp[AV.flat.sK]at hs;exact⟨u,us,h1,by simpa[ai]using h2,qX xs us hs h3⟩|agg cs=>simp[AV.flat.sK]at hs;simp only[ai]at h2;obtain⟨v2,e1,e2⟩:=h2;exact⟨u,us,h1,by simp only[ai];exact⟨v2,e1,uE cs v2 hs.1 e2⟩,qX xs us hs.2 h3⟩
  |_=>simp[AV.flat.sK]at hs
theorem Iy{β β':Nat->Nat}{bx aE:List av}{w w':World}{ok ok':Nat->Prop}(x:AV)(v:Value)(hf:x.flat=true)(hv:ai β bx w ok x v):ai β' aE w' ok' x v:=by
 cases x with
 |d y=>cases y<;>simp[AV.flat]at hf<;>simpa[ai,aP]using hv
 |k c=>simpa[ai]using hv|agg cs=>simp only[ai]at hv ⊢;obtain⟨vs,h1,h2⟩:=hv;exact⟨vs,h1,uE cs vs (by simpa[AV.flat]using hf) h2⟩
 |c5 cs=>simp only[ai]at hv ⊢;obtain⟨vs,h1,h2⟩:=hv;exact⟨vs,h1,qX cs vs (by simpa[AV.flat]using hf) h2⟩
 |_=>simp[AV.flat]at hf
theorem Pr{w w':World}{ok ok':Nat->Prop}:∀(x:D) (v:Value),x.flat=true->aP w ok x v->aP w' ok' x v:=by intro x v hf hv;cases x<;>simp[D.flat]at hf<;>simpa[aP]using hv
theorem As{w:World}{ok ok':Nat->Prop}{blk:Nat}:∀(xs:List D) (off:Nat),(∀x∈xs,x.flat=true)->bg w ok blk xs off->bg w ok' blk xs off
 |[],_,_,_=>by simp[bg]|x::xs,off,hf,hv=>by simp only[bg]at hv ⊢;obtain⟨⟨u,h1,h2⟩,h3⟩:=hv;exact⟨⟨u,h1,Pr x u (hf x (by simp)) h2⟩,As xs _ (λy hy=>hf y (by simp[hy])) h3⟩
theorem qZ{w:World}{ok ok':Nat->Prop}{blk sz:Nat}:∀(rs:List (List D)) (off:Nat),(∀r∈rs,∀x∈r,x.flat=true)->ax w ok blk sz rs off->ax w ok' blk sz rs off
 |[],_,_,_=>by simp[ax]|r::rs,off,hf,hv=>by simp only[ax]at hv ⊢;exact⟨hv.1,As r off (hf r (by simp)) hv.2.1,qZ rs _ (λs hs=>hf s (by simp[hs])) hv.2.2⟩
theorem xz(cx:cB G β bx w X){x y:AV}{u:Value}(hd:fz bx x=some y)(h:ai β bx w (bq β bx w X) x u):
 Ext β bx w β (x.cE bx) w/\cB G β (x.cE bx) w X/\ai β (x.cE bx) w (bq β (x.cE bx) w X) y u:=by
 cases x with
 |cl es=>
  simp only[fz,osI]at hd;subst hd
  obtain⟨g1,g2,g3⟩:=Cb (y:=.sl es) cx rfl h
  exact⟨g1,g2,by simpa[ai]using g3⟩
 |ow b sz n=>
  simp only[fz,Option.map_eq_some_iff]at hd
  obtain⟨z,h1,rfl⟩:=hd
  obtain⟨g1,g2,g3⟩:=Cb cx h1 h
  exact⟨g1,g2,by simpa[ai]using g3⟩
 |vw b sz off n c ex=>
  simp only[fz,Option.map_eq_some_iff]at hd
  obtain⟨es,h1,rfl⟩:=hd
  obtain⟨g1,g2,g3⟩:=lz cx h1 h
  exact⟨g1,g2,by simpa[ai,aP]using g3⟩
 |_=>simp only[fz,osI]at hd;subst hd;exact⟨Ext.refl _ _ _,cx,h⟩
theorem Iz{x y z:AV}(h:fz bx x=some y):fz (z.cE bx) x=some y:=by
 cases x with
 |ow b sz n=>simp only[fz,Option.map_eq_some_iff]at h ⊢;obtain⟨q,h1,h2⟩:=h;exact⟨q,Ez h1,h2⟩
 |vw b sz off n c ex=>
  simp only[fz,Option.map_eq_some_iff]at h ⊢;obtain⟨q,h1,h2⟩:=h;refine⟨q,?_,h2⟩;simp only[AV.rows]at h1 ⊢;split at h1
  .rename_i s es hb;rcases w8 (z:=z) (.inl hb)with g|g<;>simp[g,h1]
  .rename_i s es hb;rcases w8 (z:=z) (.inr hb)with g|g<;>simp[g,h1]
  simp at h1
 |_=>exact h
theorem zA{z:AV}:∀{xs ys:List AV},Lm bx xs=some ys->Lm (z.cE bx) xs=some ys
 |[],ys,h=>h|x::xs,ys,h=>by
  simp only[Lm]at h ⊢;split at h
  .rename_i y ys' hy hys;rw[Iz hy,zA hys];exact h
  simp at h
theorem LJ{x y z:AV}(h:sJ bx x=some y):sJ (z.cE bx) x=some y:=by
 cases x with
 |agg cs=>simp only[sJ,Option.map_eq_some_iff]at h ⊢;obtain⟨q,h1,h2⟩:=h;exact⟨q,zA h1,h2⟩
 |_=>simp only[sJ]at h ⊢;exact Iz h
theorem vY{z:AV}:∀{xs ys:List AV},fq bx xs=some ys->fq (z.cE bx) xs=some ys
 |[],ys,h=>h|x::xs,ys,h=>by
  simp only[fq]at h ⊢;split at h
  .rename_i y ys' hy hys;rw[LJ hy,vY hys];exact h
  simp at h
theorem At{xs ys:List AV}:∀(zs:List AV) (bx:List av),fq bx xs=some ys->fq (eW bx zs) xs=some ys
 |[],_,h=>h|_::zs,_,h=>At zs _ (vY h)
theorem IA{xs ys:List AV}{z:AV}(h:fq bx xs=some ys):fq (nL bx z) xs=some ys:=by
 cases z with
 |agg cs=>exact At cs bx h|_=>simp only[nL];exact vY h
theorem IB:∀(xs:List AV) (bx:List av) (ys:List AV) (vs:List Value),cB G β bx w X->Lm bx xs=some ys->an β bx w (bq β bx w X) xs vs->
 Ext β bx w β (eW bx xs) w/\cB G β (eW bx xs) w X/\an β (eW bx xs) w (bq β (eW bx xs) w X) ys vs
 |[],bx,ys,vs,cx,hd,h=>by simp[Lm]at hd;subst hd;exact⟨Ext.refl _ _ _,cx,by simpa[eW]using h⟩|x::xs,bx,ys,vs,cx,hd,h=>by
  simp only[Lm]at hd;split at hd
  .rename_i y ys' hy hys;simp at hd;subst hd;simp only[an]at h;obtain⟨u,us,rfl,g1,g2⟩:=h;obtain⟨e1,c1,r1⟩:=xz cx hy g1;obtain⟨e2,c2,r2⟩:=IB xs (x.cE bx) ys' us c1 (zA hys) (an.mono (e1.dL X) _ _ g2);refine⟨e1.trans e2,c2,?_⟩;simp only[eW,an];exact⟨u,us,rfl,ai.mono (e2.dL X) _ _ r1,r2⟩
  simp at hd
theorem EE(cx:cB G β bx w X){x y:AV}{u:Value}(hd:sJ bx x=some y)(h:ai β bx w (bq β bx w X) x u):
 Ext β bx w β (nL bx x) w/\cB G β (nL bx x) w X/\ai β (nL bx x) w (bq β (nL bx x) w X) y u:=by
 cases x with
 |agg cs=>
  simp only[sJ,Option.map_eq_some_iff]at hd
  obtain⟨ys,h1,rfl⟩:=hd
  simp only[ai]at h
  obtain⟨vs,rfl,hvs⟩:=h
  obtain⟨g1,g2,g3⟩:=IB cs bx ys vs cx h1 hvs
  exact⟨g1,g2,by simp only[ai];exact⟨vs,rfl,g3⟩⟩
 |_=>simp only[sJ]at hd;simp only[nL];exact xz cx hd h
theorem nH:∀(xs:List AV) (bx:List av) (ys:List AV) (vs:List Value),cB G β bx w X->fq bx xs=some ys->an β bx w (bq β bx w X) xs vs->
 Ext β bx w β (fI bx xs) w/\cB G β (fI bx xs) w X/\an β (fI bx xs) w (bq β (fI bx xs) w X) ys vs
 |[],bx,ys,vs,cx,hd,h=>by simp[fq]at hd;subst hd;exact⟨Ext.refl _ _ _,cx,by simpa[fI]using h⟩|x::xs,bx,ys,vs,cx,hd,h=>by
  simp only[fq]at hd;split at hd
  .rename_i y ys' hy hys;simp at hd;subst hd;simp only[an]at h;obtain⟨u,us,rfl,g1,g2⟩:=h;obtain⟨e1,c1,r1⟩:=EE cx hy g1;obtain⟨e2,c2,r2⟩:=nH xs (nL bx x) ys' us c1 (IA hys) (an.mono (e1.dL X) _ _ g2);refine⟨e1.trans e2,c2,?_⟩;simp only[fI,an];exact⟨u,us,rfl,ai.mono (e2.dL X) _ _ r1,r2⟩
  simp at hd
theorem N9{x y:AV}(h:fz [] x=some y)(bx:List av):x.cE bx=bx:=by
 cases x with
 |ow b sz n=>simp[fz,AV.um]at h|vw b sz off n c ex=>simp[fz,AV.rows]at h|_=>rfl
theorem IC:∀{xs ys:List AV} (bx:List av),Lm [] xs=some ys->eW bx xs=bx
 |[],_,_,_=>rfl|x::xs,ys,bx,h=>by
  simp only[Lm]at h;split at h
  .rename_i y ys' hy hys;simp only[eW,N9 hy bx];exact IC bx hys
  simp at h
theorem lA:∀{xs ys:List AV} (bx:List av),fq [] xs=some ys->fI bx xs=bx
 |[],_,_,_=>rfl|x::xs,ys,bx,h=>by
  simp only[fq]at h;split at h
  .rename_i y ys' hy hys;have:nL bx x=bx:=by
    cases x with
    |agg cs=>simp only[sJ,Option.map_eq_some_iff]at hy;obtain⟨q,h1,_⟩:=hy;exact IC bx h1
    |_=>simp only[sJ]at hy;simp only[nL];exact N9 hy bx
   simp only[fI,this];exact lA bx hys
  simp at h
def sU(β:Nat->Nat)(bx:List av)(X:Nat->Prop)(blk:Nat):Prop:=X blk∨∃i b,bx[i]?=some b/\b.live=true/\β i=blk
theorem ID(cx:cB G β bx w X):cB G β [] w (sU β bx X):=by
 refine⟨?_,?_,by simp,by simp,by simp⟩
 .rintro blk (h|⟨i,b,h1,h2,rfl⟩)
  .exact cx.xs blk h
  exact dV.fF (cx.box i b h1) h2
 intro g ds hg;obtain⟨h1,h2⟩:=cx.B7 g ds hg;have key:∀blk,bq β bx w X blk->bq β [] w (sU β bx X) blk:=by
  rintro blk ⟨k1,k2,k3⟩;refine⟨k1,?_,by simp⟩;rintro(h|⟨i,b,e1,e2,e3⟩)
  .exact k2 h
  exact k3 i b e1 e2 e3
 exact⟨key g h1,bg.mono (λblk hb=>⟨key blk hb,rfl⟩) g (λ_=>rfl) _ _ h2⟩
theorem IE(blk:Nat)(h:bq β bx w X blk):bq β [] w (sU β bx X) blk:=by
 obtain⟨k1,k2,k3⟩:=h;refine⟨k1,?_,by simp⟩;rintro(h|⟨i,b,e1,e2,e3⟩)
 .exact k2 h
 exact k3 i b e1 e2 e3
theorem xC{β':Nat->Nat}{aE:List av}{w':World}(ex:Ext β [] w β' aE w'):Ext β bx w β bx w':=
 ⟨ex.os,ex.tape,ex.output,ex.size,λk hk _=>ex.block k hk (by simp),ex.shape,λi hi=>⟨rfl,hi⟩,λi b h1 h2=>.inr ⟨i,b,h1,h2,rfl⟩⟩
theorem RR{β':Nat->Nat}{aE:List av}{w':World}(cx:cB G β bx w X)(ex:Ext β [] w β' aE w'):cB G β bx w' X:=
 cx.step (xC ex) (λi b h=>.inl ⟨h,λhl=>ex.block _ (dV.fF (cx.box i b h) hl) (by simp)⟩) cx.inj
theorem Vj{β':Nat->Nat}{w':World}{sz n:Nat}{es:List (List D)}{sL:List av}{u:Value}(cx:cB G β bx w X)(ex:Ext β [] w β' [.row sz es] w')(oA:cB G β' [.row sz es] w' (sU β sL X))
 (hv:(∀r∈es,∀x∈r,x.flat=true)∨sL=bx) (hr:ai β' [.row sz es] w' (bq β' [.row sz es] w' (sU β sL X)) (.ow 0 sz n) u):
 Ext β bx w (m5 β bx.length (β' 0)) (bx++[.row sz es]) w'/\cB G (m5 β bx.length (β' 0)) (bx++[.row sz es]) w' X/\
  ai (m5 β bx.length (β' 0)) (bx++[.row sz es]) w' (bq (m5 β bx.length (β' 0)) (bx++[.row sz es]) w' X) (.ow bx.length sz n) u:=by
 have e0:=xC (bx:=bx) ex
 have hnew:av.live (.row sz es)=true->w.heap.size<=β' 0:=by
  intro hl;rcases ex.live 0 (.row sz es) rfl hl with h|⟨j,b',h1,_⟩
  .exact h
  simp at h1
 have hold:∀i b,bx[i]?=some b->m5 β bx.length (β' 0) i=β i:=by intro i b h;exact de _ _ (by have:=kx h;omega)
 have e1:Ext β bx w (m5 β bx.length (β' 0)) (bx++[.row sz es]) w':=by
  refine⟨e0.os,e0.tape,e0.output,e0.size,e0.block,e0.shape,?_,?_⟩
  .rintro i ⟨b,h1,h2⟩;exact⟨hold i b h1,b,fh h1,h2⟩
  intro i b h hl;rcases bF h with⟨h1,_⟩|⟨rfl,rfl⟩
  .exact .inr ⟨i,b,h1,hl,(hold i b h1).symm⟩
  exact .inl (by rw[bC];exact hnew hl)
 have hlt:∀i b,bx[i]?=some b->b.live=true->β i<w.heap.size:=λi b h hl=>dV.fF (cx.box i b h) hl
 have hok:sL=bx->∀blk,bq β' [.row sz es] w' (sU β sL X) blk->bq (m5 β bx.length (β' 0)) (bx++[.row sz es]) w' X blk:=by
  rintro rfl blk ⟨k1,k2,k3⟩;refine⟨k1,λhX=>k2 (.inl hX),?_⟩;intro i b h hl;rcases bF h with⟨h1,_⟩|⟨rfl,rfl⟩
  .rw[hold i b h1];exact λhe=>k2 (.inr ⟨i,b,h1,hl,he⟩)
  rw[bC];exact k3 0 _ rfl hl
 refine⟨e1,cx.step e1 ?_ ?_,?_⟩
 .intro i b h;rcases bF h with⟨h1,_⟩|⟨rfl,rfl⟩
  .exact .inl ⟨h1,λhl=>ex.block _ (hlt i b h1 hl) (by simp)⟩
  refine .inr ?_;have:=oA.box 0 _ rfl
  rw[bC];simp only[dV]at this ⊢;refine this.imp id ?_;rintro⟨c,e,h1,h2⟩;refine⟨c,e,h1,?_⟩;rcases hv with hfl|hb
  .exact qZ _ _ hfl h2
  exact ax.mono (λblk hb'=>⟨hok hb blk hb',rfl⟩) _ _ (λ_=>rfl) _ _ h2
 .intro i j bi bj hi hj pL sB he;rcases bF hi with⟨h1,_⟩|⟨rfl,rfl⟩<;>rcases bF hj with⟨h2,_⟩|⟨rfl,rfl⟩
  .rw[hold i bi h1,hold j bj h2]at he;exact cx.inj i j bi bj h1 h2 pL sB he
  .rw[hold i bi h1,bC]at he;have:=hlt i bi h1 pL;have:=hnew sB;omega
  .rw[hold j bj h2,bC]at he;have:=hlt j bj h2 sB;have:=hnew pL;omega
  rfl
 simp only[ai]at hr ⊢
 obtain⟨_,h2⟩:=hr
 refine⟨⟨_,by simp;rfl,rfl⟩,?_⟩
 rw[bC];exact h2
theorem LK{f:Nat}{args:List AV}{vs:List Value}{K:AV->List av->Prop}(cx:cB G β bx w X)(hx:an β bx w (bq β bx w X) args vs)
 (h:HY (be P G) f args bx K):
 lg P f ⟨vs⟩ w λe w'=>∃β' aE v u,e=.returned u/\Ext β bx w β' aE w'/\cB G β' aE w' X/\ai β' aE w' (bq β' aE w' X) v u/\K v aE:=by
 obtain⟨_,hz,hs,h⟩:=h;obtain⟨e1,c1,r1⟩:=nH args bx _ vs cx hz hx;have cn:=ID c1
 have hn:an β [] w (bq β [] w (sU β (fI bx args) X)) _ vs:=nG (λblk hb=>IE blk hb) _ _ hs r1;rcases h with⟨v,hf,hv,hK⟩|⟨sz,n,es,hf,hv,hK⟩
 .refine lg.mono (hf β w vs _ cn hn) ?_;rintro e w' ⟨β',ex,oA,hr⟩;cases e with
  |returned u=>
   refine⟨β,bx,v,u,rfl,xC ex,RR cx ex,?_,hK⟩;rcases hv with hfl|⟨IF,hsh⟩
   .exact Iy v u hfl hr
   rw[lA bx IF]at hr;refine sS ?_ v u hsh hr;rintro blk ⟨k1,k2,_⟩;exact⟨k1,λhX=>k2 (.inl hX),λi b hb hl he=>k2 (.inr ⟨i,b,hb,hl,he⟩)⟩
  |_=>exact hr.elim
 refine lg.mono (hf β w vs _ cn hn) ?_;rintro e w' ⟨β',ex,oA,hr⟩;cases e with
 |returned u=>
  simp only[eH]at hr
  obtain⟨x1,x2,x3⟩:=Vj cx ex oA (by
   rcases hv with hfl|IF
   .exact .inl hfl
   refine .inr ?_;rw[lA bx IF]) hr
  exact⟨_,_,_,u,rfl,x1,x2,x3,hK⟩
 |_=>exact hr.elim
end
end Dem
end
section
open Go
namespace Dem
section
variable {P:Program}{G:Nat->Option (List D)}{β β':Nat->Nat}{bx aE:List av}{w w':World}{X:Nat->Prop}
theorem nW{i:Nat}(h:Rr bx i=true):cr bx i:=by
 unfold Rr at h;split at h
 .rename_i b hb;exact⟨b,hb,h⟩
 cases h
mutual
theorem EF{ok ok':Nat->Prop}{kY:List av}{dt:Bool}(h:∀b,cr kY b->β' b=β b/\cr aE b)(hd:dt=true->∀d v,aP w ok d v->aP w' ok' d v):∀(x:AV) (v:Value),x.loose dt=true->x.bV kY=true->ai β bx w ok x v->ai β' aE w' ok' x v
 |.any,_,_,_,_=>by simp[ai]|.d y,v,hs,_,hv=>by
  simp only[ai]at hv ⊢;cases hdt:dt with
  |true=>exact hd hdt y v hv|false=>subst hdt;cases y<;>simp[AV.loose]at hs<;>simpa[aP]using hv
 |.k c,v,_,_,hv=>by simpa[ai]using hv|.agg cs,v,hs,hn,hv=>by simp only[ai]at hv ⊢;obtain⟨vs,h1,h2⟩:=hv;exact⟨vs,h1,nX h hd cs vs (by simpa[AV.loose]using hs) (by simpa[AV.bV]using hn) h2⟩
 |.c5 cs,v,hs,_,hv=>by simp[AV.loose]at hs|.ptr b off,v,_,hn,hv=>by have g:=nW (by simpa[AV.bV]using hn);simp only[ai]at hv ⊢;obtain⟨e,_⟩:=hv;exact⟨by rw[(h b g).1];exact e,(h b g).2⟩
 |.rp b sz i j,v,_,hn,hv=>by have g:=nW (by simpa[AV.bV]using hn);simp only[ai]at hv ⊢;obtain⟨e,_⟩:=hv;exact⟨by rw[(h b g).1];exact e,(h b g).2⟩
 |.ow _ _ _,_,hs,_,_=>by simp[AV.loose]at hs|.BS _,_,hs,_,_=>by simp[AV.loose]at hs|.vw _ _ _ _ _ _,_,hs,_,_=>by simp[AV.loose]at hs|.ep _,_,hs,_,_=>by simp[AV.loose]at hs|.cl _,_,hs,_,_=>by simp[AV.loose]at hs|.fn f cs,v,hs,hn,hv=>by simp only[ai]at hv ⊢;obtain⟨vs,h1,h2⟩:=hv;exact⟨vs,h1,nX h hd cs vs (by simpa[AV.loose]using hs) (by simpa[AV.bV]using hn) h2⟩
 |.sG t x,v,hs,hn,hv=>by simp only[ai]at hv ⊢;obtain⟨u,h1,h2⟩:=hv;exact⟨u,h1,EF h hd x u (by simpa[AV.loose]using hs) (by simpa[AV.bV]using hn) h2⟩
 |.cond _ _,_,hs,_,_=>by simp[AV.loose]at hs
theorem nX{ok ok':Nat->Prop}{kY:List av}{dt:Bool}(h:∀b,cr kY b->β' b=β b/\cr aE b)(hd:dt=true->∀d v,aP w ok d v->aP w' ok' d v):∀(xs:List AV) (vs:List Value),AV.oY dt xs=true->AV.bV.c6 kY xs=true->an β bx w ok xs vs->an β' aE w' ok' xs vs
 |[],vs,_,_,hv=>by simpa[an]using hv|x::xs,vs,hs,hn,hv=>by
  simp only[an]at hv ⊢;obtain⟨u,us,h1,h2,h3⟩:=hv;simp only[AV.oY]at hs;simp only[AV.bV.c6,vae]at hn;cases hx:x.loose dt with
  |false=>simp[hx]at hs|true=>simp only[hx,cond_true]at hs;exact⟨u,us,h1,EF h hd x u hx hn.1 h2,nX h hd xs us hs hn.2 h3⟩
end
mutual
theorem zB{ok ok':Nat->Prop}{kY:List av}(h:∀blk,ok blk->ok' blk):∀(x:AV) (v:Value),x.bV kY=true->ai β bx w ok x v->ai β kY w ok' x v
 |.any,_,_,_=>by simp[ai]|.d x,v,_,hv=>by simp only[ai]at hv ⊢;exact aP.mono (λblk hb=>⟨h blk hb,rfl⟩) _ _ hv|.k c,v,_,hv=>by simpa[ai]using hv|.agg cs,v,hs,hv=>by simp only[ai]at hv ⊢;obtain⟨vs,h1,h2⟩:=hv;exact⟨vs,h1,nY h cs vs (by simpa[AV.bV]using hs) h2⟩
 |.c5 cs,v,hs,hv=>by simp only[ai]at hv ⊢;obtain⟨vs,h1,h2⟩:=hv;exact⟨vs,h1,nY h cs vs (by simpa[AV.bV]using hs) h2⟩
 |.ptr b off,v,hs,hv=>by have g:=nW (by simpa[AV.bV]using hs);simp only[ai]at hv ⊢;exact⟨hv.1,g⟩|.rp b sz i j,v,hs,hv=>by have g:=nW (by simpa[AV.bV]using hs);simp only[ai]at hv ⊢;exact⟨hv.1,g⟩|.BS b,v,hs,hv=>by have g:=nW (by simpa[AV.bV]using hs);simp only[ai]at hv ⊢;exact⟨hv.1,g⟩|.ow b sz m,v,hs,hv=>by have g:=nW (by simpa[AV.bV]using hs);simp only[ai]at hv ⊢;exact⟨g,hv.2⟩|.vw b sz off m c ex,v,hs,hv=>by have g:=nW (by simpa[AV.bV]using hs);simp only[ai]at hv ⊢;exact⟨g,hv.2⟩|.ep ds,v,_,hv=>by simp only[ai]at hv ⊢;obtain⟨blk,off,h1,h2,h3⟩:=hv;exact⟨blk,off,h1,h blk h2,bg.mono (λblk hb=>⟨h blk hb,rfl⟩) blk (λ_=>rfl) _ _ h3⟩
 |.cl es,v,_,hv=>by simp only[ai]at hv ⊢;obtain⟨base,h1,h2⟩:=hv;refine⟨base,h1,h2.imp id ?_⟩;rintro⟨blk,off,sz,e1,e2,e3⟩;exact⟨blk,off,sz,e1,h blk e2,ax.mono (λblk hb=>⟨h blk hb,rfl⟩) blk sz (λ_=>rfl) _ _ e3⟩
 |.fn f cs,v,hs,hv=>by simp only[ai]at hv ⊢;obtain⟨vs,h1,h2⟩:=hv;exact⟨vs,h1,nY h cs vs (by simpa[AV.bV]using hs) h2⟩
 |.sG t x,v,hs,hv=>by simp only[ai]at hv ⊢;obtain⟨u,h1,h2⟩:=hv;exact⟨u,h1,zB h x u (by simpa[AV.bV]using hs) h2⟩
 |.cond p x,v,hs,hv=>by simp only[ai]at hv ⊢;exact⟨λhp=>zB h x v (by simpa[AV.bV]using hs) (hv.1 hp),hv.2⟩
theorem nY{ok ok':Nat->Prop}{kY:List av}(h:∀blk,ok blk->ok' blk):∀(xs:List AV) (vs:List Value),AV.bV.c6 kY xs=true->an β bx w ok xs vs->an β kY w ok' xs vs
 |[],vs,_,hv=>by simpa[an]using hv|x::xs,vs,hs,hv=>by simp only[an]at hv ⊢;obtain⟨u,us,h1,h2,h3⟩:=hv;simp only[AV.bV.c6,vae]at hs;exact⟨u,us,h1,zB h x u hs.1 h2,nY h xs us hs.2 h3⟩
end
theorem nZ{dt:Bool}{kY:List av}:∀{bs:List av} {i:Nat} {b:av},eA dt kY bs=true->bs[i]?=some b->(∃cs,b=.var cs/\AV.oY dt cs=true/\AV.bV.c6 kY cs=true)∨b=.dead∨b=.bJ
 |[],i,b,_,hi=>by simp at hi|b0::bs,i,b,h,hi=>by
  have hr:eA dt kY bs=true/\((∃cs,b0=.var cs/\AV.oY dt cs=true/\AV.bV.c6 kY cs=true)∨b0=.dead∨b0=.bJ):=by
   cases b0 with
   |var cs=>
    simp only[eA]at h;cases hc:(AV.oY dt cs&&AV.bV.c6 kY cs)with
    |false=>simp[hc]at h|true=>simp only[hc,cond_true]at h;simp at hc;exact⟨h,.inl ⟨cs,rfl,hc.1,hc.2⟩⟩
   |dead=>exact⟨h,.inr (.inl rfl)⟩|bJ=>exact⟨h,.inr (.inr rfl)⟩|_=>simp[eA]at h
  cases i with
  |zero=>simp only[List.getElem?_cons_zero,osI]at hi;subst hi;exact hr.2|succ i=>simp only[List.getElem?_cons_succ]at hi;exact nZ hr.1 hi
theorem Cn{x:AV}{i:Nat}{b:av}(h:(x.cE bx)[i]?=some b):bx[i]?=some b∨∃s es,bx[i]?=some (.row s es)/\b=.mr s es:=by
 have go:∀k:Nat,(match bx[k]? with|some (.row s es)=>bx.set k (.mr s es)|_=>bx)[i]?=some b->bx[i]?=some b∨∃s es,bx[i]?=some (.row s es)/\b=.mr s es:=by
  intro k h;split at h
  .rename_i s es hk;rcases aQ h with⟨rfl,rfl,_⟩|⟨_,h2⟩
   .exact .inr ⟨s,es,hk,rfl⟩
   exact .inl h2
  exact .inl h
 cases x with
 |ow k _ _=>exact go k h|vw k _ _ _ _ _=>exact go k h|_=>exact .inl h
theorem EG:∀{xs:List AV} {bx:List av} {i:Nat} {b:av},(eW bx xs)[i]?=some b->bx[i]?=some b∨∃s es,bx[i]?=some (.row s es)/\b=.mr s es
 |[],_,_,_,h=>.inl h|x::xs,bx,i,b,h=>by
  rcases EG (xs:=xs) (bx:=x.cE bx) h with h1|⟨s,es,h1,rfl⟩
  .exact Cn h1
  rcases Cn h1 with h2|⟨_,_,_,h3⟩
  .exact .inr ⟨s,es,h2,rfl⟩
  cases h3
theorem vZ:∀{xs:List AV} {bx:List av} {i:Nat} {b:av},(fI bx xs)[i]?=some b->bx[i]?=some b∨∃s es,bx[i]?=some (.row s es)/\b=.mr s es
 |[],_,_,_,h=>.inl h|x::xs,bx,i,b,h=>by
  have one:∀{b:av},(nL bx x)[i]?=some b->bx[i]?=some b∨∃s es,bx[i]?=some (.row s es)/\b=.mr s es:=by
   intro b h;cases x with
   |agg cs=>exact EG h|_=>simp only[nL]at h;exact Cn h
  rcases vZ (xs:=xs) (bx:=nL bx x) h with h1|⟨s,es,h1,rfl⟩
  .exact one h1
  rcases one h1 with h2|⟨_,_,_,h3⟩
  .exact .inr ⟨s,es,h2,rfl⟩
  cases h3
theorem Au{f:Nat}{args:List AV}{vs:List Value}{v:AV}(cx:cB G β bx w X)(hx:an β bx w (bq β bx w X) args vs)(h:oI (be P G) f args bx v):
 lg P f ⟨vs⟩ w λe w'=>∃u,e=.returned u/\Ext β bx w β bx w'/\cB G β bx w' X/\ai β bx w' (bq β bx w' X) v u:=by
 obtain⟨pU,kY,hz,hnm,⟨dt,hl,hdt⟩,hin,hf,hv⟩:=h;obtain⟨e1,cxS,hargs⟩:=nH args bx pU vs cx hz hx;have cH:∀(i:Nat) (b:av),kY[i]?=some b->b.live=true->bx[i]?=some b:=by intro i b hi hb;obtain⟨b',h1,h2,h3⟩:=hin i b hi (uA hb);rw[h3 hb]at h1;exact h1
 have dM:∀i,cr kY i->cr bx i:=by rintro i ⟨b,h1,h2⟩;obtain⟨b',h3,h4,_⟩:=hin i b h1 h2;exact⟨b',h3,h4⟩
 have Yl:∀(i:Nat) (b:av),(fI bx args)[i]?=some b->b.live=true->bx[i]?=some b:=by
  intro i b hi hb;rcases vZ hi with h1|⟨s,es,_,rfl⟩
  .exact h1
  simp[av.live]at hb
 have Xw:∀(i:Nat) (b:av),kY[i]?=some b->b.live=true->∃cs,b=.var cs/\AV.oY dt cs=true/\AV.bV.c6 kY cs=true:=by
  intro i b hi hb;rcases nZ hl hi with h1|rfl|rfl
  .exact h1
  .simp[av.live]at hb
  simp[av.live]at hb
 let XV:Nat->Prop:=λblk=>X blk∨∃(i:Nat) (b:av),(fI bx args)[i]?=some b/\b.live=true/\(∀b',kY[i]?=some b'->b'.live=false)/\β i=blk;have hok:∀blk,bq β (fI bx args) w X blk->bq β kY w XV blk:=by
  rintro blk ⟨k1,k2,k3⟩;refine⟨k1,?_,?_⟩
  .rintro(hX|⟨i,b,h1,h2,_,h3⟩)
   .exact k2 hX
   exact k3 i b h1 h2 h3
  intro i b hi hb he;obtain⟨cs,rfl,_⟩:=Xw i b hi hb;have uC:=cH i _ hi hb
  obtain⟨_,b',hb',_⟩:=e1.born i ⟨_,uC,rfl⟩;rcases vZ hb' with h4|⟨s,es,h4,_⟩
  .rw[uC]at h4;cases h4;exact k3 i _ hb' rfl he
  rw[uC]at h4;cases h4
 have Oa:∀{β1:Nat->Nat} {w':World},fq [] args=some pU->Ext β kY w β1 kY w'->∀blk,bq β1 kY w' XV blk->bq β bx w' X blk:=by
  rintro β1 w' IF vo blk ⟨k1,k2,k3⟩;refine⟨k1,λhX=>k2 (.inl hX),?_⟩;intro i b hi hb he;by_cases hk:∃b',kY[i]?=some b'/\b'.live=true
  .obtain⟨b',h1,h2⟩:=hk;refine k3 i b' h1 h2 ?_;rw[(vo.born i ⟨b',h1,uA h2⟩).1];exact he
  refine k2 (.inr ⟨i,b,by rw[lA bx IF];exact hi,hb,?_,he⟩);intro b' hb';cases hq:b'.live with
  |false=>rfl|true=>exact absurd ⟨b',hb',hq⟩ hk
 have cxV:cB G β kY w XV:=by
  refine⟨?_,?_,?_,?_,?_⟩
  .rintro blk (hX|⟨i,b,h1,h2,_,rfl⟩)
   .exact cx.xs blk hX
   exact dV.fF (cx.box i b (Yl i b h1 h2)) h2
  .intro g ds hg;obtain⟨k1,k2⟩:=cxS.B7 g ds hg;exact⟨hok g k1,bg.mono (λblk hb=>⟨hok blk hb,rfl⟩) g (λ_=>rfl) _ _ k2⟩
  .intro i j bi bj hi hj li lj;exact cx.inj i j bi bj (cH i bi hi li) (cH j bj hj lj) li lj
  .intro i b hi;rcases nZ hl hi with⟨cs,rfl,hcs,ij⟩|rfl|rfl
   .have hb:=cx.box i _ (cH i _ hi rfl);simp only[dV]at hb ⊢;obtain⟨c,e,g1,g2⟩:=hb;exact⟨c,e,g1,nX (kY:=kY) (λb hb=>⟨rfl,hb⟩) (λhd d v hv=>aP.mono (λblk hb=>⟨hok blk (by rw[lA bx (hdt hd)];exact hb),rfl⟩) d v hv) cs _ hcs ij g2⟩
   .trivial
   trivial
  intro i b hi hb;rintro(hX|⟨j,b2,h1,h2,h3,h4⟩)
  .exact cx.apart i b (cH i b hi hb) hb hX
  have:j=i:=cx.inj j i b2 b (Yl j b2 h1 h2) (cH i b hi hb) h2 hb h4;subst this;rw[h3 b hi]at hb;cases hb
 have Yn:an β kY w (bq β kY w XV) pU vs:=nY hok _ _ hnm hargs;refine lg.mono (hf β w vs XV cxV Yn) ?_;rintro e w' ⟨β1,vo,Vb,hres⟩;have ex:Ext β bx w β bx w':=⟨vo.os,vo.tape,vo.output,vo.size,λk hk hn=>vo.block k hk (λi b hi hb=>hn i b (cH i b hi hb) hb),vo.shape,λi hi=>⟨rfl,hi⟩,λi b h1 h2=>.inr ⟨i,b,h1,h2,rfl⟩⟩
 cases e with
 |returned u=>
  refine⟨u,rfl,ex,cx.step ex ?_ cx.inj,?_⟩
  .intro i b hi;by_cases hk:∃b',kY[i]?=some b'/\b'.live=true
   .obtain⟨b',h1,h2⟩:=hk;have h3:=cH i b' h1 h2
    rw[hi]at h3;cases h3;obtain⟨cs,rfl,hcs,ij⟩:=Xw i b h1 h2;refine .inr ?_;have hb:=Vb.box i _ h1
    simp only[dV]at hb ⊢;obtain⟨c,e,g1,g2⟩:=hb;have BA:cr kY i:=⟨_,h1,rfl⟩
    rw[(vo.born i BA).1]at g1;exact⟨c,e,g1,nX (kY:=kY) (λb hb=>⟨((vo.born b hb).1).symm,dM b hb⟩) (λhd d v hv=>aP.mono (λblk hb=>⟨Oa (hdt hd) vo blk hb,rfl⟩) d v hv) cs _ hcs ij g2⟩
   refine .inl ⟨hi,λhlv=>vo.block _ (dV.fF (cx.box i b hi) hlv) ?_⟩;intro j b2 hj Eb he;have:=cx.inj j i b2 b (cH j b2 hj Eb) hi Eb hlv he
   subst this;exact hk ⟨b2,hj,Eb⟩
  rcases hv with hfl|⟨IF,hsh⟩
  .exact Iy v u hfl hres
  refine sS ?_ v u hsh hres
  rintro blk ⟨k1,k2,k3⟩
  refine⟨k1,λhX=>k2 (.inl hX),?_⟩
  intro i b hi hb he
  by_cases hk:∃b',kY[i]?=some b'/\b'.live=true
  .obtain⟨b',h1,h2⟩:=hk;refine k3 i b' h1 h2 ?_;rw[(vo.born i ⟨b',h1,uA h2⟩).1];exact he
  refine k2 (.inr ⟨i,b,by rw[lA bx IF];exact hi,hb,?_,he⟩)
  intro b' hb'
  cases hq:b'.live with
  |false=>rfl|true=>exact absurd ⟨b',hb',hq⟩ hk
 |panicked ch=>exact hres.elim|outgrown=>exact hres.elim
theorem ng{f:Nat}{args:List AV}{vs:List Value}{v:AV}{K:AV->List av->Prop}(cx:cB G β bx w X)(hx:an β bx w (bq β bx w X) args vs)(h:oI (be P G) f args bx v)(hK:K v bx):
 lg P f ⟨vs⟩ w λe w'=>∃β' aE v u,e=.returned u/\Ext β bx w β' aE w'/\cB G β' aE w' X/\ai β' aE w' (bq β' aE w' X) v u/\K v aE:=
 lg.mono (Au cx hx h) λ_ _ ⟨u,h1,h2,h3,h4⟩=>⟨β,bx,v,u,h1,h2,h3,h4,hK⟩
end
end Dem
end
section
open Go
namespace Dem
section
variable {P:Program}{T:Nat->Option TI}{G:Nat->Option (List D)}{β:Nat->Nat}{bx:List av}{w:World}{X:Nat->Prop}
theorem RS{a b:D}(h:rY a b=true):a=b:=by
 cases a<;>cases b<;>simp[rY]at h
 .rw[h.1,h.2]
 rw[h]
theorem IG{d:TypeDesc}{a b:D}{u v:Value}{ok:Nat->Prop}(ha:pO (cX d) a=true)(hb:pO (cX d) b=true)(hu:aP w ok a u)(hv:aP w ok b v):Instr.sameNow d u v=some (rY a b):=by
 cases d<;>cases a<;>simp[cX,pO]at ha<;>cases b<;>simp[cX,pO]at hb<;>simp only[aP]at hu hv<;>subst hu hv
 .subst ha hb;simp only[Instr.sameNow,rY,if_true,beq_self_eq_true,Bool.true_and];congr 1
 rename_i a b;have:(⟨a.toArray⟩:ByteArray)=⟨b.toArray⟩↔a=b:=by
  constructor
  .intro h;simpa using h
  rintro rfl;rfl
 by_cases h:a=b
 .subst h;simp only[Instr.sameNow,rY];congr 1;show(a.toArray==a.toArray)=decide True;simp
 have h2:¬((⟨a.toArray⟩:ByteArray)=⟨b.toArray⟩):=λe=>h (this.1 e);simp only[Instr.sameNow,rY];congr 1;show(a.toArray==b.toArray)=decide (a=b);rw[show decide (a=b)=false by simp[h]];exact beq_eq_false_iff_ne.2 (λe=>h (by simpa using e))
theorem Ps{kd:Kd}{a:D}{u v:Value}{ok:Nat->Prop}(ha:pO kd a=true)(hu:aP w ok a u)(hv:aP w ok a v):u=v:=by cases a<;>cases kd<;>simp[pO]at ha<;>simp only[aP]at hu hv<;>rw[hu,hv]
theorem sV{d:TypeDesc}{ag:Bool}{n:Nat}{k:D}{kv:Value}{ok:Nat->Prop}(hk:pO (cX d) k=true)(hkv:aP w ok k kv):
 ∀(es:List (List D)) (ms:List MapEntry) (i:Nat),bB w ok ag es ms->(∀r∈es,rowIs (cX d) n r)->
  (zk es k=none/\Instr.findNow d kv ms i=some none/\∀v,vn es k v=es++[k::v])∨
  (∃(j:Nat) (m:MapEntry) (ds:List D),Instr.findNow d kv ms i=some (some (i+j,m.val))/\ms[j]?=some m/\zk es k=some ds/\ds.length=n/\m.key=kv/\iN w ok ag (k::ds) m/\∀v,vn es k v=es.set j (k::v))
 |[],ms,i,h,_=>by simp only[bB]at h;subst h;exact .inl ⟨rfl,rfl,λ_=>rfl⟩|r::rs,ms,i,h,hr=>by
  simp only[bB]at h;obtain⟨m,HN,rfl,h1,h2⟩:=h;obtain⟨x,ds,rfl,hx,hl⟩:=hr r (by simp);have Iv:=h1
  simp only[iN]at h1;obtain⟨g1,g2⟩:=h1;have hs:=IG hk hx hkv g1
  simp only[zk,vn,Instr.findNow,hs];cases he:rY k x with
  |true=>obtain rfl:=RS he;refine .inr ⟨0,m,ds,by simp,by simp,by simp,hl,Ps hk g1 hkv,Iv,λv=>by simp⟩
  |false=>
   simp only[cond_false];rcases sV hk hkv rs HN (i+1) h2 (λr hr'=>hr r (by simp[hr']))with⟨k1,k2,k3⟩|⟨j,m',ds',k1,k2,k3,k4,k5,k6,k7⟩
   .exact .inl ⟨k1,k2,λv=>by rw[k3];rfl⟩
   refine .inr ⟨j+1,m',ds',?_,by simpa using k2,k3,k4,k5,k6,λv=>by rw[k7];rfl⟩;rw[k1,show i+1+j=i+(j+1) by omega]
theorem run_checkKey{e:Bool}{t:Nat}{d:TypeDesc}{k:D}{kv:Value}{ok:Nat->Prop}(ht:P.underlying t=some d)(hk:pO (cX d) k=true)(hkv:aP w ok k kv):(Instr.checkKey e 10000 t kv).run P w=.ok () w:=by show(Instr.checkKey e (9999+1) t kv).run P w=.ok () w;unfold Instr.checkKey;cases d<;>cases k<;>simp[cX,pO]at hk<;>simp only[aP]at hkv<;>subst hkv<;>simp[aX ht]
theorem run_findKey{t:Nat}{d:TypeDesc}{kv:Value}{ms:List MapEntry}{r:Option (Nat×Value)}(ht:P.underlying t=some d)(h:Instr.findNow d kv ms 0=some r):(Instr.findKey t kv ms).run P w=.ok r w:=by unfold Instr.findKey;simp[aX ht,h]
theorem bB.append {ag:Bool} {ok:Nat->Prop}:∀{es:List (List D)} {ms:List MapEntry} {fs:List (List D)} {ns:List MapEntry},bB w ok ag es ms->bB w ok ag fs ns->bB w ok ag (es++fs) (ms++ns)
 |[],ms,fs,ns,h,g=>by simp only[bB]at h;subst h;exact g|r::rs,ms,fs,ns,h,g=>by simp only[bB]at h;obtain⟨m,HN,rfl,h1,h2⟩:=h;simp only[List.cons_append,bB];exact⟨m,_,rfl,h1,h2.append g⟩
theorem bB.set {ag:Bool} {ok:Nat->Prop} {r:List D} {m:MapEntry} (hm:iN w ok ag r m):∀{es:List (List D)} {ms:List MapEntry} (j:Nat),bB w ok ag es ms->bB w ok ag (es.set j r) (ms.set j m)
 |[],ms,j,h=>by simp only[bB]at h;subst h;simp[bB]|x::xs,ms,0,h=>by simp only[bB]at h;obtain⟨m',HN,rfl,h1,h2⟩:=h;simp only[List.set_cons_zero,bB];exact⟨m,HN,rfl,hm,h2⟩
 |x::xs,ms,j+1,h=>by simp only[bB]at h;obtain⟨m',HN,rfl,h1,h2⟩:=h;simp only[List.set_cons_succ,bB];exact⟨m',_,rfl,h1,bB.set hm j h2⟩
theorem cJ.aaw {ok:Nat->Prop}:∀{ds:List D} {vs:List Value},cJ w ok ds vs->an β bx w ok (ds.map .d) vs
 |[],vs,h=>by simp only[cJ]at h;subst h;simp[an]|d::ds,vs,h=>by simp only[cJ]at h;obtain⟨v,r,rfl,h1,h2⟩:=h;simp only[List.map_cons,an];exact⟨v,r,rfl,by simpa[ai]using h1,h2.aaw⟩
theorem cJ.length {ok:Nat->Prop}:∀{ds:List D} {vs:List Value},cJ w ok ds vs->vs.length=ds.length
 |[],vs,h=>by simp only[cJ]at h;subst h;rfl|d::ds,vs,h=>by simp only[cJ]at h;obtain⟨v,r,rfl,_,h2⟩:=h;simp[cJ.length h2]
theorem iN.val {ag:Bool} {ok:Nat->Prop} {k:D} {ds:List D} {m:MapEntry} (h:iN w ok ag (k::ds) m) {n:Nat} (hn:ds.length=n) {v:AV} (hv:cQ ag n (ds.map .d)=some v):ai β bx w ok v m.val:=by
 simp only[iN]at h;obtain⟨_,cs,h2,h3,h4⟩:=h;have hl:=h4.length
 have ha:=h4.aaw (β:=β) (bx:=bx);cases ag with
 |true=>
  simp only[cQ,cond_true]at hv;rw[cond_true]at h2;have hle:Nat.ble n (ds.map AV.d).length=true:=by simp[hn]
  simp only[hle,cond_true,osI]at hv;subst hv;rw[h2];simp only[ai];refine⟨cs,rfl,?_⟩;rw[vao (by simp[hn])];exact ha
 |false=>
  simp only[cQ,cond_false]at hv;rw[cond_false]at h2;have h1:=h3 rfl
  obtain⟨c,rfl⟩:∃c,cs=[c]:=by
   match cs,h1 with
   |[c],_=>exact⟨c,rfl⟩
  cases ds with
  |nil=>simp at hl|cons d ds=>simp at hv;subst hv;rw[h2];simp only[List.map_cons,an]at ha;obtain⟨u,us,e,g,_⟩:=ha;simp at e;obtain⟨rfl,rfl⟩:=e;simpa[ai]using g
theorem BD{r c:Nat}{es:Array MapEntry}(h:w.heap[r]?=some (.map es c)):(getObj r).run P w=.ok (.map es c) w:=by simp[getObj,Sem.run,h]
theorem run_setObj_map{r c:Nat}{es:Array MapEntry}(o:Obj)(h:w.heap[r]?=some (.map es c)):(setObj r o).run P w=.ok () {w with heap:=w.heap.setIfInBounds r o}:=by simp[setObj,Sem.run,h]
theorem EH(hT:jj P T)(cx:cB G β bx w X){ty:Nat}{m:AV}{u:Value}{tk te:TI}{ag:Bool}{es:List (List D)}(h:BZ T ty m bx=some (tk,te,ag,es))(hu:ai β bx w (bq β bx w X) m u):
 ∃(kt et:Nat) (dk:TypeDesc),P.underlying ty=some (.map kt et)/\P.underlying kt=some dk/\tk.kd=cX dk/\sy P et=some te/\
  ((u=.map none/\es=[])∨∃r ms clock,u=.map (some r)/\w.heap[r]?=some (.map ms clock)/\nP ms clock/\bB w (bq β bx w X) ag es ms.toList):=by
 unfold BZ at h
 split at h
 .rename_i ti ht;obtain⟨i,d,h1,h2,h3,h4,h5,h6⟩:=aL (hT.ti _ _ ht);split at h
  .rename_i k e hk;rw[h5]at hk;cases d<;>simp[cX]at hk;obtain⟨iw,hk2⟩:=hk;rw[iw,hk2]at h2;have fin:∀{Rl Yo:TI} {UQ:Bool} {es':List (List D)},T k=some Rl->T e=some Yo->(Rl,Yo,UQ,es')=(tk,te,ag,es)->
    ((u=.map none/\es=[])∨∃r ms clock,u=.map (some r)/\w.heap[r]?=some (.map ms clock)/\nP ms clock/\bB w (bq β bx w X) ag es ms.toList)->∃(kt et:Nat) (dk:TypeDesc),P.underlying ty=some (.map kt et)/\P.underlying kt=some dk/\tk.kd=cX dk/\sy P et=some te/\
    ((u=.map none/\es=[])∨∃r ms clock,u=.map (some r)/\w.heap[r]?=some (.map ms clock)/\nP ms clock/\bB w (bq β bx w X) ag es ms.toList):=by
    intro Rl Yo UQ es' a1 a2 a3 a4;simp only[vab]at a3;obtain⟨rfl,rfl,rfl,rfl⟩:=a3;obtain⟨_,dk,_,b2,_,_,b5,_⟩:=aL (hT.ti _ _ a1);exact⟨k,e,dk,h2,b2,b5,hT.ti _ _ a2,a4⟩
   split at h
   .rename_i Rl Yo UQ es' a1 a2;simp only[osI]at h;refine fin a1 a2 h ?_;simp only[vab]at h;obtain⟨rfl,rfl,rfl,rfl⟩:=h;simp only[ai,aP]at hu;obtain⟨r,ms,clock,g1,_,g2,g3,g4⟩:=hu;exact .inr ⟨r,ms,clock,g1,g2,g3,g4⟩
   .rename_i Rl Yo a1 a2;simp only[osI]at h;refine fin a1 a2 h ?_;simp only[vab]at h;obtain⟨rfl,rfl,rfl,rfl⟩:=h;simp only[ai,KC.val]at hu;exact .inl ⟨hu,rfl⟩
   .rename_i Rl Yo b a1 a2;split at h
    .rename_i UQ es' hb;simp only[osI]at h;refine fin a1 a2 h ?_;simp only[vab]at h;obtain⟨rfl,rfl,rfl,rfl⟩:=h;simp only[ai]at hu;obtain⟨ms,clock,g2,g3,g4⟩:=cx.box b _ hb;exact .inr ⟨β b,ms,clock,hu.1,g2,g3,g4⟩
    cases h
   cases h
  cases h
 cases h
theorem LM(hT:jj P T)(cx:cB G β bx w X){ty:Nat}{m:AV}{u kv:Value}{k:D}{tk te:TI}{ag Ea:Bool}{es:List (List D)}(h:BZ T ty m bx=some (tk,te,ag,es))(hu:ai β bx w (bq β bx w X) m u)
 (hkv:aP w (bq β bx w X) k kv) (hf:zl tk te ag es k) {K:AV->Prop} (hK:qO te Ea K (zk es k)):
 ∃v x,(Instr.lookup ty u kv Ea).run P w=.ok x w/\ai β bx w (bq β bx w X) v x/\K v:=by
 obtain⟨kt,et,dk,u1,u2,u3,u4,hu⟩:=EH hT cx h hu;obtain⟨f1,f2,f3⟩:=hf;rw[u3]at f2 f3;have none_:∀ms:Array MapEntry,(∃e:Bool,Instr.findNow dk kv ms.toList 0=some none)->zk es k=none->(u=.map none/\ms=#[]∨∃r clock,u=.map (some r)/\w.heap[r]?=some (.map ms clock))->
  ∃v x,(Instr.lookup ty u kv Ea).run P w=.ok x w/\ai β bx w (bq β bx w X) v x/\K v:=by
  rintro ms ⟨_,hfn⟩ hg Vk;rw[hg]at hK;simp only[qO]at hK;split at hK
  .rename_i z hz;obtain⟨zv,z1,z2⟩:=Ir (β:=β) (bx:=bx) (w:=w) (ok:=bq β bx w X) u4 hz;refine⟨_,bif Ea then .tuple #[zv,.bool false]else zv,?_,?_,hK⟩
   .rcases Vk with⟨rfl,rfl⟩|⟨r,clock,rfl,hh⟩
    .unfold Instr.lookup;cases Ea<;>simp[aX u1,run_checkKey u2 f2 hkv,run_findKey (w:=w) u2 hfn,z1]
    unfold Instr.lookup;cases Ea<;>simp[aX u1,BD hh,run_checkKey u2 f2 hkv,run_findKey (w:=w) u2 hfn,z1]
   cases Ea with
   |true=>simp only[cond_true,ai,an,aP];exact⟨_,rfl,_,_,rfl,z2,_,_,rfl,rfl,rfl⟩|false=>exact z2
  exact hK.elim
 rcases hu with⟨rfl,rfl⟩|⟨r,ms,clock,rfl,hh,hst,Xx⟩
 .exact none_ #[] ⟨true,rfl⟩ rfl (.inl ⟨rfl,rfl⟩)
 rcases sV f2 hkv es ms.toList 0 Xx f3 with⟨k1,k2,_⟩|⟨j,e,ds,k1,k2,k3,k4,k5,k6,_⟩
 .exact none_ ms ⟨true,k2⟩ k1 (.inr ⟨r,clock,rfl,hh⟩)
 rw[k3]at hK;simp only[qO]at hK;split at hK
 .rename_i v hv;have hvv:=k6.val (β:=β) (bx:=bx) k4 (by rw[<-f1]at hv;exact hv)
  refine⟨_,bif Ea then .tuple #[e.val,.bool true]else e.val,?_,?_,hK⟩
  .unfold Instr.lookup;cases Ea<;>simp[aX u1,BD hh,run_checkKey u2 f2 hkv,run_findKey (w:=w) u2 k1]
  cases Ea with
  |true=>simp only[cond_true,ai,an,aP];exact⟨_,rfl,_,_,rfl,hvv,_,_,rfl,rfl,rfl⟩|false=>exact hvv
 exact hK.elim
theorem Co{b:Nat}{B B':av}{o o':Obj}(hb:bx[b]?=some B)(hl:B.live=true)(hl':B'.live=true)(hh:w.heap[β b]?=some o)(ho:∀c e f,o≠.cells c e f):
 Ext β bx w β (bx.set b B') {w with heap:=w.heap.setIfInBounds (β b) o'}:=by
 refine⟨rfl,rfl,rfl,by simp,?_,?_,λi hi=>⟨rfl,jA (uA hl') hi⟩,?_⟩
 .intro k hk hlk;have hne:β b≠k:=hlk b _ hb hl
  simp[Array.getElem?_setIfInBounds_ne hne]
 .intro k c e f hk;have hne:β b≠k:=by rintro rfl;rw[hh]at hk;cases hk;exact ho c e f rfl
  exact⟨c,by simp[Array.getElem?_setIfInBounds_ne hne,hk],rfl⟩
 intro i Bi hi pL;rcases aQ hi with⟨rfl,_,_⟩|⟨_,h⟩
 .exact .inr ⟨i,_,hb,hl,rfl⟩
 exact .inr ⟨i,Bi,h,pL,rfl⟩
theorem LN(cx:cB G β bx w X){b:Nat}{B B':av}{o o':Obj}(hb:bx[b]?=some B)(hl:B.live=true)(hl':B'.live=true)(hh:w.heap[β b]?=some o)(ho:∀c e f,o≠.cells c e f)
 (hB:dV β (bx.set b B') {w with heap:=w.heap.setIfInBounds (β b) o'} (bq β (bx.set b B') {w with heap:=w.heap.setIfInBounds (β b) o'} X) B' (β b)):
 cB G β (bx.set b B') {w with heap:=w.heap.setIfInBounds (β b) o'} X:=by
 refine cx.step (Co hb hl hl' hh ho) ?_ ?_
 .intro i Bi hi;rcases aQ hi with⟨rfl,rfl,_⟩|⟨hne,h⟩
  .exact .inr hB
  refine .inl ⟨h,λpL=>?_⟩;have RL:β b≠β i:=λhe=>hne (cx.inj b i _ Bi hb h hl pL he).symm
  simp[Array.getElem?_setIfInBounds_ne RL]
 intro i j bi bj hi hj pL sB he;rcases aQ hi with⟨rfl,rfl,_⟩|⟨h1,h2⟩<;>rcases aQ hj with⟨rfl,rfl,_⟩|⟨h3,h4⟩
 .rfl
 .exact cx.inj _ _ _ _ hb h4 hl sB he
 .exact cx.inj _ _ _ _ h2 hb pL hl he
 exact cx.inj _ _ _ _ h2 h4 pL sB he
theorem Vl{ok:Nat->Prop}{x:AV}{y:D}{u:Value}(hn:cN [x]=true)(h:x.um bx=some y)(hx:ai β bx w ok x u):aP w ok y u:=by
 cases x with
 |d x=>simp only[AV.um,osI]at h;subst h;simpa[ai]using hx|cl es=>simp only[AV.um,osI]at h;subst h;simp only[ai]at hx;obtain⟨base,rfl,g⟩:=hx;simp only[aP];exact⟨base,_,rfl,vad _,g⟩
 |ow b sz n=>simp[cN]at hn|fn f cs=>
  cases cs with
  |nil=>simp only[AV.um,osI]at h;subst h;simp only[ai,an]at hx;obtain⟨vs,rfl,rfl⟩:=hx;simp[aP,B6]
  |cons c cs=>simp[AV.um]at h
 |_=>simp[AV.um]at h
theorem Gj{x:AV}{xs:List AV}(h:cN (x::xs)=true):cN [x]=true/\cN xs=true:=by cases x<;>simp_all[cN]
theorem Cp{ok:Nat->Prop}:∀{xs:List AV} {ys:List D} {us:List Value},cN xs=true->jV bx xs=some ys->an β bx w ok xs us->cJ w ok ys us
 |[],ys,us,_,h,hx=>by simp[jV]at h;subst h;simp only[an]at hx;subst hx;simp[cJ]|x::xs,ys,us,hn,h,hx=>by
  simp only[jV]at h;split at h
  .rename_i y ys' h1 h2;simp only[osI]at h;subst h;simp only[an]at hx;obtain⟨u,Ry,rfl,g1,g2⟩:=hx;obtain⟨n1,n2⟩:=Gj hn;simp only[cJ];exact⟨u,Ry,rfl,Vl n1 h1 g1,Cp n2 h2 g2⟩
  simp at h
theorem Gk{kd:Kd}{k:D}{kv:Value}{ok:Nat->Prop}(hk:pO kd k=true)(h:aP w ok k kv):Instr.sameBits 10000 kv kv=true:=by
 cases k<;>cases kd<;>simp[pO]at hk<;>simp only[aP]at h<;>subst h
 .simp[Instr.sameBits]
 rename_i s;show(s.toArray==s.toArray)=true
 simp
theorem v7{ms:Array MapEntry}{j:Nat}{m:MapEntry}(h:ms.toList[j]?=some m)(f:MapEntry->MapEntry):(ms.modify j f).toList=ms.toList.set j (f m):=by
 rw[Array.toList_modify];obtain⟨hj,rfl⟩:=List.getElem?_eq_some_iff.1 h;apply List.ext_getElem?;intro i;rw[List.getElem?_modify,List.getElem?_set];by_cases hi:j=i
 .subst hi;have hj2:j<ms.size:=by simpa using hj
  simp[hj2]
 simp[hi]
theorem RT{ok:Nat->Prop}{x:AV}{xv:Value}{vs:List AV}{ds:List D}{k:D}{e:MapEntry}{ag:Bool}(hc:x.cells?=some vs)(hx:ai β bx w ok x xv)(hn:cN vs=true)(hd:jV bx vs=some ds)(ha:x.isAgg=ag)
 (hk:aP w ok k e.key) (he:e.val=xv):iN w ok ag (k::ds) e:=by
 simp only[iN];refine⟨hk,?_⟩;rw[he];cases x with
 |agg cs=>
  simp only[AV.cells?]at hc
  cases hs:wU cs with
  |false=>simp[hs]at hc|true=>
   simp only[hs,cond_true,osI]at hc
   subst hc
   simp only[AV.isAgg]at ha;subst ha
   simp only[ai]at hx
   obtain⟨us,rfl,g⟩:=hx
   exact⟨us,rfl,λh=>(by cases h),Cp hn hd g⟩
 |any=>simp[AV.cells?]at hc|vw _ _ _ _ _ _=>simp[AV.cells?]at hc|c5 _=>simp[AV.cells?]at hc|cond _ _=>simp[AV.cells?]at hc|_=>
  simp only[AV.cells?,osI]at hc
  subst hc
  simp only[AV.isAgg]at ha;subst ha
  exact⟨[xv],rfl,λ_=>rfl,Cp hn hd (by simp only[an];exact⟨xv,[],rfl,hx,rfl⟩)⟩
theorem II(hT:jj P T)(cx:cB G β bx w X){ty b:Nat}{m x:AV}{u kv xv:Value}{k:D}{tk te:TI}{ag:Bool}{es:List (List D)}{vs:List AV}{ds:List D}(h:F6 T ty m bx=some (b,tk,te,ag,es))(hu:ai β bx w (bq β bx w X) m u)
 (hkv:aP w (bq β bx w X) k kv) (HO:ai β bx w (bq β bx w X) x xv) (hc:x.cells?=some vs) (hn:cN vs=true) (hd:jV bx vs=some ds) (hf:zl tk te ag es k) (ha:x.isAgg=ag):
 ∃w',(Instr.mapUpdate ty u kv xv).run P w=.ok () w'/\Ext β bx w β (bx.set b (.mp ag (vn es k ds))) w'/\cB G β (bx.set b (.mp ag (vn es k ds))) w' X:=by
 unfold F6 at h;split at h;case h_2=>cases h
 rename_i b' Rl Yo UQ es' hm;simp only[osI,vab]at h;obtain⟨rfl,rfl,rfl,rfl,rfl⟩:=h;obtain⟨kt,et,dk,u1,u2,u3,u4,_⟩:=EH hT cx hm hu;obtain⟨f1,f2,f3⟩:=hf;rw[u3]at f2 f3;have hb:bx[b']?=some (.mp UQ es'):=by
  unfold BZ at hm;split at hm
  .split at hm
   .split at hm
    .rename_i _ _ h0;cases h0
    .rename_i _ _ h0;cases h0
    .rename_i _ _ h0;cases h0;split at hm
     .rename_i hb;simp only[osI,vab]at hm;obtain⟨_,_,rfl,rfl⟩:=hm;exact hb
     cases hm
    cases hm
   cases hm
  cases hm
 simp only[ai]at hu;obtain⟨rfl,_⟩:=hu;obtain⟨ms,clock,hh,⟨Yp,st2⟩,Xx⟩:=cx.box b' _ hb;have main:∀(HN:Array MapEntry) (clock':Nat),nP HN clock'->bB w (bq β bx w X) UQ (vn es' k ds) HN.toList->
  (Instr.mapUpdate ty (.map (some (β b'))) kv xv).run P w=.ok () {w with heap:=w.heap.setIfInBounds (β b') (.map HN clock')}->
  ∃w',(Instr.mapUpdate ty (.map (some (β b'))) kv xv).run P w=.ok () w'/\Ext β bx w β (bx.set b' (.mp UQ (vn es' k ds))) w'/\cB G β (bx.set b' (.mp UQ (vn es' k ds))) w' X:=by
  intro HN clock' g1 g2 g3;have ex:Ext β bx w β (bx.set b' (.mp UQ (vn es' k ds))) {w with heap:=w.heap.setIfInBounds (β b') (.map HN clock')}:=Co hb rfl rfl hh (λc e f=>by simp)
  refine⟨_,g3,ex,LN cx hb rfl rfl hh (λc e f=>by simp) ?_⟩;exact⟨HN,clock',by simp[fE hh],g1,bB.mono (ex.keeps X) _ _ _ g2⟩
 rcases sV f2 hkv es' ms.toList 0 Xx f3 with⟨k1,k2,k3⟩|⟨j,e,ds',k1,k2,k3,k4,k5,k6,k7⟩
 .refine main (ms.push {key:=kv,val:=xv,born:=clock}) (clock+1) ⟨?_,?_⟩ ?_ ?_
  .rw[Array.all_push];simp only[vae,vai];refine⟨?_,by omega⟩;rw[Array.all_eq_true]at Yp ⊢;intro i hi;have:=Yp i hi
   simp only[vai]at this ⊢;omega
  .rw[Array.toList_push,List.map_append,List.nodup_append];refine⟨st2,by simp,?_⟩;intro a ha1 c Bm;simp at Bm;obtain⟨m',hm',rfl⟩:=List.mem_map.1 ha1;have:m'.born<clock:=by rw[Array.all_eq_true_iff_forall_mem]at Yp;simpa using Yp m' (by simpa using hm')
   omega
  .rw[k3,Array.toList_push];refine Xx.append ?_;simp only[bB];exact⟨_,[],rfl,RT hc HO hn hd ha hkv rfl,rfl⟩
  unfold Instr.mapUpdate;simp[aX u1,BD hh,run_checkKey u2 f2 hkv,run_findKey (w:=w) u2 k2,run_setObj_map _ hh]
 have ade:=Gk f2 hkv;refine main (ms.modify j λe=>{e with key:=kv,val:=xv}) clock ⟨?_,?_⟩ ?_ ?_
 .rw[Array.all_eq_true_iff_forall_mem]at Yp ⊢;intro y hy;have hy2:y∈(ms.modify j λe=>{e with key:=kv,val:=xv}).toList:=Array.mem_def.1 hy
  rw[v7 k2]at hy2;rcases List.mem_or_eq_of_mem_set hy2 with h1|h1
  .exact Yp y (by simpa using h1)
  subst h1;exact Yp e (by simpa using vag k2)
 .rw[v7 k2,List.map_set];have:(ms.toList.map (·.born)).set j ({e with key:=kv,val:=xv}:MapEntry).born=ms.toList.map (·.born):=by
   apply List.ext_getElem?;intro i;rw[List.getElem?_set];by_cases hi:j=i
   .subst hi;have:=(List.getElem?_eq_some_iff.1 k2).1
    simp[k2]at this ⊢;simp[this]
   simp[hi]
  rw[this];exact st2
 .rw[k7,v7 k2];exact bB.set (RT hc HO hn hd ha hkv rfl) j Xx
 unfold Instr.mapUpdate;simp only[Nat.zero_add]at k1;have k2':ms[j]?=some e:=by simpa using k2
 simp[aX u1,BD hh,run_checkKey u2 f2 hkv,run_findKey (w:=w) u2 k1,run_setObj_map _ hh,Instr.keyThatStays,k2',k5,ade]
end
end Dem
end
section
open Go
namespace Dem
section
variable {P:Program}{T:Nat->Option TI}{G:Nat->Option (List D)}{β:Nat->Nat}{bx:List av}{w:World}{X:Nat->Prop}
theorem LO(cx:cB G β bx w X){e size cap:Nat}{rows:List (List D)}{vs zs:List Value}(hl:∀r∈rows,r.length=size)(hv:an β bx w (bq β bx w X) (rows.flatten.map .d) vs)
 (hlen:rows.length<=cap):
 let w':World:={w with drawn:=w.drawn+1,heap:=w.heap.push (.cells ⟨vs++zs⟩ e)}
 Ext β bx w β bx w'/\cB G β bx w' X/\ai β bx w' (bq β bx w' X) (.d (.sl rows)) (.slice (some ⟨w.heap.size,0,none⟩) rows.length cap):=by
 intro w';have Vb:=sN cx (fY w)
 have vo:Ext β bx w β bx {w with drawn:=w.drawn+1}:=kg (fY w);have RK:Ext β bx {w with drawn:=w.drawn+1} β bx w':=wX (w:={w with drawn:=w.drawn+1}) (.cells ⟨vs++zs⟩ e)
 have hnew:w'.heap[w.heap.size]?=some (.cells ⟨vs++zs⟩ e):=ko {w with drawn:=w.drawn+1} _;refine⟨vo.trans RK,H9 (w:={w with drawn:=w.drawn+1}) Vb _,?_⟩;simp only[ai,aP];refine⟨_,_,rfl,hlen,.inr ⟨w.heap.size,0,size,rfl,⟨fE hnew,λhX=>?_,λi b hb hlv=>?_⟩,?_⟩⟩
 .exact Nat.lt_irrefl _ (cx.xs _ hX)
 .have:=(cx.box i b hb).fF hlv;omega
 refine oJ (β:=β) (bx:=bx) rows 0 vs hl ?_ (an.mono ((vo.trans RK).dL X) _ _ hv);intro k u hk;have hk':k<vs.length:=by
  rcases Nat.lt_or_ge k vs.length with h|h
  .exact h
  simp[vay h]at hk
 show World.cell? w' ⟨w.heap.size,0+k,none⟩=some u;simp only[World.cell?,hnew];simp[vaz hk',hk]
theorem EI(hT:jj P T)(cx:cB G β bx w X){ev:Operand->AV}{ρ:Operand->Value}{o:Oper}(hρ:∀x∈o.op.operands.toList,ai β bx w (bq β bx w X) (ev x) (ρ x))
 {c:Prop} {es:List (List D)} (hr:Ec T ev o.op=some (c,es)) (hc:c):dJ G β bx w X ((execOp ρ o).run P w) (.d (.sl es)) bx:=by
 obtain⟨dst,op,type,pos,after,guard⟩:=o;simp only at hρ hr;unfold Ec at hr;split at hr;case h_2=>cases hr
 rename_i b args ats;split at hr;case h_2=>cases hr
 rename_i x y t u ha Ym;cases ht:T t with
 |none=>simp[ht]at hr|some ti=>
 cases hu:T u with
 |none=>simp[ht,hu]at hr|some tu=>
 simp only[ht,hu]at hr
 obtain⟨i,d,h1,h2,h3,h4,h5,h6⟩:=aL (hT.ti _ _ ht)
 obtain⟨ui,ud,u1,u2,u3,u4,u5,u6⟩:=aL (hT.ti _ _ hu)
 cases hk:ti.kd with
 |slice e=>
  cases hku:tu.kd with
  |slice e2=>
   rw[hk]at hr h5
   rw[hku]at hr u5
   have Gd:∀k,ud≠.int k:=by rintro k rfl;cases u5
   cases d<;>simp[cX]at h5
   subst h5
   cases hte:T e with
   |none=>simp[hte]at hr|some te=>
   obtain⟨ei,ed,g1,g2,g3,g4,g5,g6⟩:=aL (hT.ti _ _ hte)
   simp only[hte]at hr
   cases hz:fo te with
   |false=>simp[hz]at hr|true=>
   obtain⟨z,hz1,Yh,hz3,hz4⟩:=nV hz
   obtain⟨zv,zc,k1,k2,k3,_⟩:=xk (β:=β) (bx:=bx) (w:=w) (ok:=bq β bx w X) (hT.ti _ _ hte) hz1
   have hzl:zc.length=ei.size:=by rw[an.length k3,Yh,g3]
   have BC:ei.zero=some zv:=by
    cases hq:ei.zero with
    |none=>rw[g6,hq]at hz1;simp[AV.cells?]at hz1|some q=>have:=iD (P:=P) (w:=w) g1 hq;rw[k1]at this;simp at this;rw[this]
   simp only[hz,cond_true]at hr
   split at hr
   case h_2=>cases hr
   rename_i es x0 xr hx hy
   simp only[osI,vab]at hr
   obtain⟨rfl,rfl⟩:=hr
   obtain⟨Bm,EB⟩:=hc
   have mx:x∈args.toList:=by rw[ha];simp
   have my:y∈args.toList:=by rw[ha];simp
   have hs:=hρ x (by simp[Op.operands,Call.operands];exact by simpa using mx)
   have hxx:=hρ y (by simp[Op.operands,Call.operands];exact by simpa using my)
   rw[hx]at hs
   rw[hy]at hxx
   obtain⟨ws,f1,f2⟩:=m9 (P:=P) (xs:=x0::xr) cx hxx (by simp[mu,AV.rows]) (λr hr=>EB r (List.mem_append.2 (.inr hr)))
   rw[g3]at f1
   simp only[ai]at hs
   obtain⟨base,hsx,hbase⟩:=hs
   have fin:∀(os:List Value),gV P w ei.size es.length (.slice base es.length es.length) os->an β bx w (bq β bx w X) (es.flatten.map .d) os->dJ G β bx w X ((execOp ρ ⟨dst,.call {callee:=.builtin .append,args:=args,argTypes:=ats},type,pos,after,guard⟩).run P w) (.d (.sl (es++x0::xr))) bx:=by
    intro os o1 o2;obtain⟨cap,rest,q1,q2,zs,q3,q4⟩:=kC h2 u2 Gd g1 BC k2 hzl f1 o1 (by simp) (by omega) (by rw[<-g4];exact Bm) type;obtain⟨r1,r2,r3⟩:=LO (e:=e) (size:=te.size) (cap:=cap) (rows:=es++(x0::xr)) (zs:=zs) (vs:=os++ws) cx EB (an.flatten_append o2 f2) (by rw[vaa];exact q1);rw[vaa]at r3;refine⟨β,_,r1,r2,.inl ⟨_,?_,r3⟩⟩;simp only[execOp,resolve,Sem.run_bind,Sem.run_pure,Result.andThen_ok,invoke,gv args ρ];have ea:ats=⟨[t,u]⟩:=Array.toList_inj.1 (by rw[Ym])
    rw[ha,List.map_cons,List.map_cons,List.map_nil,hsx,ea];exact bS _ q4
   cases es with
   |nil=>
    refine fin [] ⟨dA,by simp,λw' _=>⟨dA,?_⟩⟩ (by simp[an])
    cases base<;>simp[Builtin.firstCells,loadCells,loadCellsFrom]
   |cons e0 er=>
    obtain⟨os,o1,o2⟩:=eD (P:=P) (β:=β) (bx:=bx) (cap:=(e0::er).length) (base:=base) (es:=e0::er) (ok:=bq β bx w X) (λr hr=>EB r (List.mem_append.2 (.inl hr))) (hbase.imp id λ⟨blk,off,sz,a,_,c⟩=>⟨blk,off,sz,a,c⟩)
    rw[g3]at o1
    exact fin os o1 o2
  |_=>simp[hk,hku]at hr
 |_=>simp[hk]at hr
end
end Dem
end
section
open Go
namespace Dem
structure Kp where
 ds:List Deferred
 kp:Nat->Value
def Kp.no:Kp:=⟨[],λ_=>undef⟩
section
variable {P:Program}{T:Nat->Option TI}{G:Nat->Option (List D)}{N:Nat}{ds:Kp}{β:Nat->Nat}{bx:List av}{w:World}{X:Nat->Prop}
structure Fr(G:Nat->Option (List D))(N:Nat)(ds:Kp)(β:Nat->Nat)(w:World)(X:Nat->Prop)(s:St)(a:Act):Prop where
 cx:cB G β s.bx w X
 defers:a.defers=ds.ds
 size:a.tmps.size=UO N
 kept:∀t,t<F2 N->a.tmps.getD t undef=ds.kp t
 sW:∀t,ai β s.bx w (bq β s.bx w X) (fK t s.sl) (a.tmps.getD t undef)
theorem Xy{n m:Nat}(h:n≠m):Nat.beq n m=false:=by
 cases hb:Nat.beq n m with
 |false=>rfl|true=>exact absurd (vaf hb) h
theorem rf(t u:Nat)(v:AV):∀sl:List (Nat×AV),fK t (put u v sl)=if t=u then v else fK t sl
 |[]=>by
  simp only[put,fK];by_cases h:t=u
  .simp[h]
  have:Nat.beq t u=false:=Xy h;simp[this,h]
 |(k,x)::r=>by
  simp only[put];by_cases hk:u=k
  .subst hk;have hb:Nat.beq u u=true:=by simp
   simp only[hb,cond_true,fK];by_cases h:t=u
   .simp[h]
   have:Nat.beq t u=false:=Xy h;simp[this,h]
  have hb:Nat.beq u k=false:=Xy hk;simp only[hb,cond_false,fK,rf t u v r];by_cases h:t=k
  .subst h;have:t≠u:=λe=>hk e.symm
   simp[this]
  have:Nat.beq t k=false:=Xy h;simp[this]
variable {s:St}{a:Act}
theorem Fr.eval (hF:Fr G N ds β w X s a) (x:Operand):ai β s.bx w (bq β s.bx w X) (ct G s.sl x) (a.eval x):=by
 cases x with
 |tmp t=>exact hF.sW t|const v=>exact Cc v|global g=>
  simp only[ct];split
  .rename_i ds hg;obtain⟨h1,h2⟩:=hF.cx.B7 g ds hg;simp only[ai];exact⟨g,0,rfl,h1,h2⟩
  simp[ai]
 |func f=>simp only[ct,ai];exact⟨[],rfl,by simp[an]⟩
theorem jO{ok:Nat->Prop}{x:AV}{v:Value}(h:ai β bx w ok x v)(hk:x.ok):ai β bx w ok x.aU v:=by
 cases x with
 |cond p y=>simp only[ai]at h;exact h.1 hk|_=>exact h
theorem dI{sl:List (Nat×AV)}:∀{xs:List Operand},dK (gE G sl xs)->∀x∈xs,(ct G sl x).ok
 |[],_,x,hx=>by simp at hx|y::ys,h,x,hx=>by
  simp only[gE,List.map_cons,dK]at h;rcases List.mem_cons.1 hx with rfl|hx
  .exact h.1
  exact dI h.2 x hx
theorem Fr.put (hF:Fr G N ds β w X s a) {β':Nat->Nat} {aE:List av} {w':World} (ex:Ext β s.bx w β' aE w') (oA:cB G β' aE w' X) {dst:Option Nat} (hd:gr N dst=true)
 {v:AV} {u:Value} (hv:ai β' aE w' (bq β' aE w' X) v u):Fr G N ds β' w' X ⟨eJ dst v s.sl,aE⟩ (a.put dst u):=by
 cases dst with
 |none=>exact⟨oA,hF.defers,hF.size,hF.kept,λt=>ai.mono (ex.dL X) _ _ (hF.sW t)⟩|some d=>
  have hd2:d<UO N/\F2 N<=d:=by simpa[gr,Nat.blt_eq]using hd
  have Yq:=hd2.1
  refine⟨oA,hF.defers,by simp[Act.put,hF.size],λt ht=>?_,?_⟩
  .rw[<-hF.kept t ht];simp[Act.put,Array.getD_eq_getD_getElem?,Array.getElem?_setIfInBounds_ne (show d≠t by omega)]
  intro t
  simp only[eJ,rf,Act.put]
  by_cases h:t=d
  .subst h;simp[Array.getD,hF.size,Yq,hv]
  rw[if_neg h]
  have:(a.tmps.setIfInBounds d u).getD t undef=a.tmps.getD t undef:=by simp[Array.getD_eq_getD_getElem?,Array.getElem?_setIfInBounds_ne (Ne.symm h)]
  rw[this]
  exact ai.mono (ex.dL X) _ _ (hF.sW t)
def Cq(G:Nat->Option (List D))(β:Nat->Nat)(bx:List av)(w:World)(X:Nat->Prop)(a:Act)(dst:Option Nat)(K:AV->List av->Prop)(next:Act->World->Prop):Prop:=
 ∀β' aE w' v u,Ext β bx w β' aE w'->cB G β' aE w' X->ai β' aE w' (bq β' aE w' X) v u->K v aE->next (a.put dst u) w'
def RU(G:Nat->Option (List D))(β:Nat->Nat)(bx:List av)(w:World)(X:Nat->Prop)(a:Act)(K:AV->List av->Prop)(Qc:Exit->Act->World->Prop):Prop:=
 ∀β' aE w' v u,Ext β bx w β' aE w'->cB G β' aE w' X->ai β' aE w' (bq β' aE w' X) v u->K v aE->Qc (.panic [{v:=u,recovered:=false}]) a w'
theorem cW{o:Oper}{next:Act->World->Prop}{Qc:Exit->Act->World->Prop}{r:Result Next}{v:AV}{aE:List av}{K:AV->List av->Prop}(h:dJ G β bx w X r v aE)(hK:K v aE)
 (hn:Cq G β bx w X a o.dst K next):o.upon P a next Qc r:=by
 obtain⟨β',w',ex,cx,⟨u,rfl,hv⟩|⟨rfl,rfl⟩⟩:=h
 .exact hn β' aE w' v u ex cx hv hK
 exact hn β' aE w' .any undef ex cx (by simp[ai]) hK
theorem iE{o:Oper}{next:Act->World->Prop}{Qc:Exit->Act->World->Prop}{f:Nat}{vs:Array Value}{R:Ending->World->Prop}(h:lg P f vs w R)
 (hr:∀v w',R (.returned v) w'->next (a.put o.dst v) w') (hp:∀ch w',R (.panicked ch) w'->Qc (.panic ch) a w') (ho:∀w',R .outgrown w'->False):
 o.upon P a next Qc ((callFunc f vs).run P w):=by
 rcases h with⟨h1,h2⟩|⟨v,w',h1,h2⟩
 .rw[h1,Oper.upon_enter];refine Calls.mono h2 ?_;intro e w' he;cases e with
  |returned v=>exact hr v w' he|panicked ch=>exact hp ch w' he|outgrown=>exact(ho w' he).elim
 rw[h1];exact hr v w' h2
theorem mz{o:Oper}{f:Operand}{args:Array Operand}{ats:Array TypeId}(ho:o.op=.call {callee:=.value f,args:=args,argTypes:=ats}){i:Nat}{fs cs:List Value}(hf:a.eval f=.func (.func i) ⟨fs⟩ ⟨cs⟩):
 (execOp a.eval o).run P w=(callFunc i ⟨fs++args.toList.map a.eval++cs⟩).run P w:=by
 have e:(⟨fs⟩:Array Value)++args.map a.eval++⟨cs⟩=(⟨fs++args.toList.map a.eval++cs⟩:Array Value):=by apply Array.ext';simp
 rw[<-e];simp[execOp,ho,resolve,hf,Deferred.ofValue,invoke]
theorem Av(hT:jj P T){o:Oper}{r:Operand}{nm:String}{args:Array Operand}{ats:Array TypeId}(ho:o.op=.call {callee:=.invoke r nm,args:=args,argTypes:=ats}){t:Nat}{ti:TI}{f:Nat}{x:Value}
 (ht:T t=some ti) (hi:ti.inv=some (nm,f)) (hr:a.eval r=.iface t x):
 (execOp a.eval o).run P w=(callFunc f ⟨x::args.toList.map a.eval⟩).run P w:=by
 obtain⟨i,d,h1,h2,h3,⟨mn,ms,mp,mf⟩,h4,h5,h6⟩:=Pk (hT.ti _ _ ht) hi;simp only at h5 h6;have hp:mp.isEmpty=true:=by rw[Array.isEmpty_iff];exact Array.ext' (by simpa using h5)
 have hm:(Go.method (P.types.size+99+1) t x nm).run P w=.ok (f,x) w:=by unfold Go.method;simp only[Sem.run_bind,nQ h1,Result.andThen_ok,h4,h5,follow,h6,hp,if_true];cases d<;>first|exact absurd rfl (h3 _)|simp[receiverAt,aX h2,Place.get,Result.andThen_ok]
 have e:(⟨x::args.toList.map a.eval⟩:Array Value)=#[x]++args.map a.eval:=by apply Array.ext';simp
 rw[e];have e0:(#[Value.iface t x]++args.map a.eval)[0]?=some (Value.iface t x):=by rw[Array.getElem?_append_left (by simp)];rfl
 have e1:(#[Value.iface t x]++args.map a.eval).extract 1 (#[Value.iface t x]++args.map a.eval).size=args.map a.eval:=by apply Array.ext';simp[vao]
 have e2:P.types.size+Made.depth=P.types.size+99+1:=rfl;simp only[execOp,ho,resolve,hr,pure_bind,invoke,e0,e1,callMethod,Sem.run_bind,run_program,Result.andThen_ok,e2,hm]
theorem EJ(hT:jj P T){ok:Nat->Prop}{x:AV}{nm:String}{args iz:List AV}{i:Nat}{v:Value}{vs:List Value}(h:Eu T x nm args=some (i,iz))(hx:ai β bx w ok x v)(hv:an β bx w ok args vs):
 ∃t ti u,T t=some ti/\ti.inv=some (nm,i)/\v=.iface t u/\an β bx w ok iz (u::vs):=by
 unfold Eu at h;split at h
 .split at h
  .rename_i ti ht;split at h
   .rename_i n j hi;split at h
    .rename_i hn;simp only[osI,vab]at h;obtain⟨rfl,rfl⟩:=h;subst hn;simp only[ai]at hx;obtain⟨u,rfl,hu⟩:=hx;exact⟨_,ti,u,ht,hi,rfl,by simp only[an];exact⟨_,_,rfl,hu,hv⟩⟩
    cases h
   cases h
  cases h
 cases h
theorem EK{f:Nat}{args:List AV}{vs:List Value}{K Kp:AV->List av->Prop}(cx:cB G β bx w X)(hx:an β bx w (bq β bx w X) args vs)
 (h:NU (be P G) f args bx K Kp):
 lg P f ⟨vs⟩ w λe w'=>∃β' aE v u,Ext β bx w β' aE w'/\cB G β' aE w' X/\ai β' aE w' (bq β' aE w' X) v u/\
  ((e=.returned u/\K v aE)∨(e=.panicked [{v:=u,recovered:=false}]/\Kp v aE)):=by
 obtain⟨args',sL,res,gY,hz,hf,hK⟩:=h
 obtain⟨e1,c1,r1⟩:Ext β bx w β sL w/\cB G β sL w X/\an β sL w (bq β sL w X) args' vs:=by
  rcases hz with⟨rfl,rfl⟩|⟨hz,rfl⟩
  .exact⟨Ext.refl _ _ _,cx,hx⟩
  exact nH args bx args' vs cx hz hx
 refine lg.mono (hf β w vs X c1 r1) ?_
 rintro e w' ⟨β',ex,oA,hr⟩
 cases e with
 |returned u=>
  cases res with
  |ret v=>exact⟨β',gY,v,u,e1.trans ex,oA,hr,.inl ⟨rfl,hK⟩⟩|zh v=>exact hr.elim
 |panicked ch=>
  cases res with
  |ret v=>exact hr.elim|zh v=>
   obtain⟨u,rfl,hu⟩:=hr
   exact⟨β',gY,v,u,e1.trans ex,oA,hu,.inr ⟨rfl,hK⟩⟩
 |outgrown=>cases res<;>exact hr.elim
theorem oa{ok:Nat->Prop}{x:AV}{args iz:List AV}{i:Nat}{v:Value}{vs:List Value}(h:nM x args=some (i,iz))(hx:ai β bx w ok x v)(hv:an β bx w ok args vs):
 ∃fs cs,v=.func (.func i) ⟨fs⟩ ⟨cs⟩/\an β bx w ok iz (fs++vs++cs):=by
 unfold nM at h;split at h
 .simp only[osI,vab]at h;obtain⟨rfl,rfl⟩:=h;simp only[ai]at hx;obtain⟨us,rfl,hc⟩:=hx;simp only[an,ai]at hc;obtain⟨_,cs,rfl,⟨fs,rfl,hf⟩,hc⟩:=hc;exact⟨fs,cs,rfl,an.append (an.append hf hv) hc⟩
 .rename_i cV _;cases hp:dH cV with
  |false=>simp[hp]at h|true=>
  simp only[hp,cond_true,osI,vab]at h;obtain⟨rfl,rfl⟩:=h;simp only[ai]at hx;obtain⟨cs,rfl,hc⟩:=hx;exact⟨[],cs,jN hp hc _,an.append hv hc⟩
 .simp only[osI,vab]at h;obtain⟨rfl,rfl⟩:=h;simp only[ai,aP]at hx;exact⟨[],[],hx,by simpa using hv⟩
 cases h
theorem Cr(hT:jj P T)(_cx:cB G β bx w X){t:Nat}{x i:AV}{u z:Value}{c:Prop}{ds:List D}(hr:BY T t x i=some (c,ds))(hc:c)
 (hx:ai β bx w (bq β bx w X) x u) (hi:ai β bx w (bq β bx w X) i z):
 ∃r,(Instr.indexAt t u z).run P w=.ok r w/\ai β bx w (bq β bx w X) (.ep ds) r:=by
 have fin:∀(e:Nat) (te:TI) (k:IntKind) (n:Int) (es:List (List D)) (base:Option Addr) (cap:Nat),P.underlying t=some (.slice e)->T e=some te->z=.int k n->u=.slice base es.length cap->
  (es=[]∨∃blk off sz,base=some ⟨blk,off,none⟩/\bq β bx w X blk/\ax w (bq β bx w X) blk sz es off)->
  (0<=n/\n<es.length/\(∀r∈es,r.length=te.size))->ds=es.getD n.toNat []->∃r,(Instr.indexAt t u z).run P w=.ok r w/\ai β bx w (bq β bx w X) (.ep ds) r:=by
  rintro e te k n es base cap hu hte rfl rfl aD ⟨h1,h2,h3⟩ rfl;obtain⟨ei,ed,g1,g2,g3,g4,g5,g6⟩:=aL (hT.ti _ _ hte);rcases aD with rfl|⟨blk,off,sz,rfl,hb,hrows⟩
  .simp at h2;omega
  have hn:n.toNat<es.length:=by omega
  obtain⟨l1,l2⟩:=ax.get n.toNat es off hrows hn;have hsz:te.size=sz:=by
   rw[<-l1];have hm:es.getD n.toNat []∈es:=by simp only[vam,vaj hn,Option.getD_some];exact List.getElem_mem hn
   exact(h3 _ hm).symm
  refine⟨.pointer (some ⟨blk,off+n.toNat*sz,none⟩),?_,?_⟩
  .simp[Instr.indexAt,asIntOf,aX hu,h1,h2,cg g1,gu,<-g3,hsz]
  simp only[ai];exact⟨blk,_,rfl,hb,l2⟩
 unfold BY at hr;cases ht:T t with
 |none=>simp[ht]at hr|some ti=>
 obtain⟨ii,d,h1,h2,h3,h4,h5,h6⟩:=aL (hT.ti _ _ ht)
 simp only[ht,h5]at hr
 split at hr
 .rename_i e es k n hk;cases d<;>simp[cX]at hk;subst hk;split at hr
  .rename_i te hte;simp only[osI,vab]at hr;obtain⟨rfl,rfl⟩:=hr;simp only[ai,aP]at hx hi;obtain⟨base,cap,e1,_,e2⟩:=hx;exact fin _ te k n es base cap h2 hte hi e1 e2 hc rfl
  simp at hr
 .rename_i e es k n hk;cases d<;>simp[cX]at hk;subst hk;split at hr
  .rename_i te hte;simp only[osI,vab]at hr;obtain⟨rfl,rfl⟩:=hr;simp only[ai,aP]at hx hi;obtain⟨base,e1,e2⟩:=hx;exact fin _ te k n es base _ h2 hte hi e1 e2 hc rfl
  simp at hr
 simp at hr
theorem Cs{ok:Nat->Prop}{p:Bool}{x y:AV}{u v:Value}(hx:p=true->ai β bx w ok x u)(hy:p=false->ai β bx w ok y v):ai β bx w ok (BU p x y) (if p then u else v):=by
 unfold BU;split
 .cases p
  .simpa[ai,aP]using hy rfl
  simpa[ai,aP]using hx rfl
 .cases p
  .simpa[ai,aP]using hy rfl
  simp[ai]
 simp[ai]
theorem EL{b:Nat}{str:List UInt8}{pos pos':Nat}(hb:bx[b]?=some (.it str pos))(hh:w.heap[β b]?=some (.stringIter ⟨str.toArray⟩ pos)):
 Ext β bx w β (bx.set b (.it str pos')) {w with heap:=w.heap.setIfInBounds (β b) (.stringIter ⟨str.toArray⟩ pos')}:=by
 have hlt:=fE hh;refine⟨rfl,rfl,rfl,by simp,?_,?_,λi hi=>⟨rfl,jA rfl hi⟩,?_⟩
 .intro k hk hl;have hne:β b≠k:=hl b _ hb rfl
  simp[Array.getElem?_setIfInBounds_ne hne]
 .intro k c e f hk;have hne:β b≠k:=by rintro rfl;rw[hh]at hk;cases hk
  exact⟨c,by simp[Array.getElem?_setIfInBounds_ne hne,hk],rfl⟩
 intro i B hi hl;rcases aQ hi with⟨rfl,_,_⟩|⟨_,h⟩
 .exact .inr ⟨i,_,hb,rfl,rfl⟩
 exact .inr ⟨i,B,h,hl,rfl⟩
theorem Pt(cx:cB G β bx w X){b:Nat}{str:List UInt8}{pos pos':Nat}(hb:bx[b]?=some (.it str pos))(hh:w.heap[β b]?=some (.stringIter ⟨str.toArray⟩ pos)):
 cB G β (bx.set b (.it str pos')) {w with heap:=w.heap.setIfInBounds (β b) (.stringIter ⟨str.toArray⟩ pos')} X:=by
 refine cx.step (EL hb hh) ?_ ?_
 .intro i B hi;rcases aQ hi with⟨rfl,rfl,_⟩|⟨hne,h⟩
  .refine .inr ?_;simp only[dV];simp[fE hh]
  refine .inl ⟨h,λhl=>?_⟩;have RL:β b≠β i:=λhe=>hne (cx.inj b i _ B hb h rfl hl he).symm
  simp[Array.getElem?_setIfInBounds_ne RL]
 intro i j bi bj hi hj pL sB he;rcases aQ hi with⟨rfl,rfl,_⟩|⟨h1,h2⟩<;>rcases aQ hj with⟨rfl,rfl,_⟩|⟨h3,h4⟩
 .rfl
 .exact cx.inj _ _ _ _ hb h4 rfl sB he
 .exact cx.inj _ _ _ _ h2 hb pL rfl he
 exact cx.inj _ _ _ _ h2 h4 pL sB he
theorem IJ{ok:Nat->Prop}{x:AV}{Ln:Prop}{u:Value}(h:Ph x=some Ln)(hx:ai β bx w ok x u):∃a n c,u=.slice a n c/\(a.isNone=true->Ln):=by
 unfold Ph at h;split at h
 .simp only[osI]at h;subst h;simp only[ai,aP]at hx;obtain⟨base,cap,rfl,_,h3⟩:=hx;refine⟨_,_,_,rfl,λhb=>?_⟩;rcases h3 with h3|⟨_,_,_,rfl,_⟩
  .exact h3
  simp at hb
 .simp only[osI]at h;subst h;simp only[ai]at hx;obtain⟨base,rfl,h3⟩:=hx;refine⟨_,_,_,rfl,λhb=>?_⟩;rcases h3 with h3|⟨_,_,_,rfl,_⟩
  .exact h3
  simp at hb
 .simp only[osI]at h;subst h;simp only[ai]at hx;obtain⟨_,⟨h1,base,rfl⟩|⟨h1,cap,c,e,f,rfl,_⟩⟩:=hx
  .exact⟨_,_,_,rfl,λ_=>h1⟩
  exact⟨_,_,_,rfl,λhb=>by simp at hb⟩
 simp at h
theorem LP(t e:TypeId)(a:Option Addr)(n c:Nat)(h:P.underlying t=some (.slice e)):(Go.binOp .eql t (.slice a n c) (.slice none 0 0)).run P w=.ok (.bool a.isNone) w:=by simp only[Go.binOp];simp[Op.equal,Op.maxDepth,Lib.run_equalIn_slice_nil w 9999 t e a n c 0 0 h]
theorem LQ(t e:TypeId)(a:Option Addr)(n c:Nat)(h:P.underlying t=some (.slice e)):(Go.binOp .neq t (.slice a n c) (.slice none 0 0)).run P w=.ok (.bool (!a.isNone)) w:=by simp only[Go.binOp];simp[Op.equal,Op.maxDepth,Lib.run_equalIn_slice_nil w 9999 t e a n c 0 0 h]
theorem mA(hT:jj P T)(hF:Fr G N ds β w X s a){o:Oper}{K:AV->List av->Prop}{Q:Ex->St->Prop}{next:Act->World->Prop}{Qc:Exit->Act->World->Prop}
 (h:sM (be P G) T G o s K Q) (hn:Cq G β s.bx w X a o.dst K next) (hp:RU G β s.bx w X a (λv bx=>Q (.panic v) ⟨[],bx⟩) Qc):o.wp P a w next Qc:=by
 have jD:∀x,(ct G s.sl x).ok->ai β s.bx w (bq β s.bx w X) (ct G s.sl x).aU (a.eval x):=λx hx=>jO (hF.eval x) hx;unfold sM at h;unfold Oper.wp;split at h
 ·
  rename_i c x y ho;split at h
  .rename_i p hc;obtain⟨⟨h1,h2,h3⟩,hK⟩:=h;have zi:=jD c h1
   rw[hc]at zi;simp only[ai,aP]at zi;refine cW (v:=_) (aE:=s.bx) (dJ.pure (u:=if p then a.eval x else a.eval y) hF.cx ?_ (Cs (λhp=>jD x (h2 hp)) (λhp=>jD y (h3 hp)))) hK hn;simp[execOp,ho,zi,asBool]
  exact h.elim
 ·
  rename_i f args ats ho;split at h
  .rename_i i iz IK;obtain⟨⟨h1,h2⟩,h⟩:=h;obtain⟨fs,cs,e1,e2⟩:=oa IK (jD f h1) (jk args.toList (λy hy=>jD y (dI h2 y hy)));rw[mz ho e1];rcases h with h|h
   .refine iE (LK hF.cx e2 h) ?_ ?_ ?_
    .rintro v w' ⟨β',aE,v',u,e,ex,cx,hv,hK⟩;cases e;exact hn β' aE w' v' v ex cx hv hK
    .rintro ch w' ⟨_,_,_,_,e,_⟩;cases e
    rintro w' ⟨_,_,_,_,e,_⟩;cases e
   refine iE (EK hF.cx e2 h) ?_ ?_ ?_
   .rintro v w' ⟨β',aE,v',u,ex,cx,hv,⟨e,hK⟩|⟨e,_⟩⟩
    .cases e;exact hn β' aE w' v' v ex cx hv hK
    cases e
   .rintro ch w' ⟨β',aE,v',u,ex,cx,hv,⟨e,_⟩|⟨e,hK⟩⟩
    .cases e
    cases e;exact hp β' aE w' v' u ex cx hv hK
   rintro w' ⟨_,_,_,_,_,_,_,⟨e,_⟩|⟨e,_⟩⟩<;>cases e
  exact h.elim
 ·
  rename_i x ho;split at h
  .rename_i t v hx;obtain⟨h1,h2⟩:=h;have hx':=jD x h1
   rw[hx]at hx';have Rk:=hx'
   simp only[ai]at Rk;obtain⟨u,e,_⟩:=Rk;have hr:(execOp a.eval o).run P w=.halt (.panic (a.eval x)) w:=by simp[execOp,ho,e,Instr.panic,goPanic,Sem.run]
   rw[hr,Oper.upon_panic];exact hp β s.bx w _ _ (Ext.refl _ _ _) hF.cx hx' h2
  exact h.elim
 ·
  rename_i t x ho;cases ht:T t with
  |none=>simp[ht]at h|some ti=>
  obtain⟨i,d,h1,h2,h3,h4,h5,h6⟩:=aL (hT.ti _ _ ht);simp only[ht,h5]at h;split at h
  .rename_i str hk hx;obtain⟨k1,k2⟩:=h;cases d<;>simp[cX]at hk;have hx':=jD x k1
   rw[hx]at hx';simp only[ai,aP]at hx';refine cW (v:=.ptr s.bx.length 0) (aE:=s.bx++[.it str 0]) ⟨m5 β s.bx.length w.heap.size,{w with heap:=w.heap.push (.stringIter ⟨str.toArray⟩ 0)},gG _ _,mw hF.cx (.stringIter ⟨str.toArray⟩ 0) (.it str 0) (by simp only[dV];exact ko _ _),.inl ⟨.pointer (some ⟨w.heap.size,0,none⟩),?_,?_⟩⟩ k2 hn
   .simp only[execOp,ho];exact bS _ (by rw[hx'];simp[Instr.range,aX h2,newObj,Sem.run])
   simp only[ai,bC];exact⟨hY,.it str 0,by simp,rfl⟩
  exact h.elim
 .rename_i it ho;split at h
  .rename_i b hx;split at h
   .rename_i str pos hb;obtain⟨k1,⟨k2,k3⟩⟩:=h;have hx':=jD it k1
    rw[hx]at hx';simp only[ai]at hx';obtain⟨hx',_⟩:=hx';have IL:=hF.cx.box b _ hb
    simp only[dV]at IL;have hsz:(⟨str.toArray⟩:ByteArray).size=str.length:=by show str.toArray.size=_;simp
    by_cases hp:pos<str.length
    .refine cW (v:=_) (aE:=_) ⟨β,{w with heap:=w.heap.setIfInBounds (β b) (.stringIter ⟨str.toArray⟩ (pos+(Utf8.decode ⟨str.toArray⟩ pos).2))},?_,?_,.inl ⟨.tuple #[.bool true,.int .i64 pos,.int .i32 (Utf8.decode ⟨str.toArray⟩ pos).1],?_,?_⟩⟩ (k2 hp) hn
     .exact EL hb IL
     .exact Pt hF.cx hb IL
     .simp only[execOp,ho];exact bS _ (by rw[hx'];simp[Instr.next,getObj,setObj,Sem.run,IL,hsz,hp,goInt])
     simp only[ai,an,aP];exact⟨_,rfl,_,_,rfl,rfl,_,_,rfl,rfl,_,_,rfl,rfl,rfl⟩
    refine cW (v:=_) (aE:=s.bx) (dJ.pure (u:=.tuple #[.bool false]) hF.cx ?_ ?_) (k3 hp) hn
    .simp only[execOp,ho];exact bS _ (by rw[hx'];simp[Instr.next,getObj,Sem.run,IL,hsz,hp])
    simp only[ai,an,aP];exact⟨_,rfl,_,_,rfl,rfl,rfl⟩
   exact h.elim
  exact h.elim
 ·
  rename_i ty x t2 ho;split at h
  .rename_i ti Ln ht he;split at h
   .rename_i e hk;obtain⟨i,d,h1,h2,h3,h4,h5,h6⟩:=aL (hT.ti _ _ ht);obtain⟨k1,⟨k2⟩⟩:=h;rw[h5]at hk;cases d<;>simp[cX]at hk;obtain⟨a',n,c,hu,Gf⟩:=IJ he (jD x k1);refine cW (v:=.d (.bool a'.isNone)) (aE:=s.bx) (dJ.pure (u:=.bool a'.isNone) hF.cx ?_ (by simp only[ai,aP])) (k2 _ Gf) hn;simp only[execOp,ho];exact bS _ (by simp[hu,eqGuard,show a.eval (Operand.const (Value.slice none 0 0))=Value.slice none 0 0 from rfl,LP (w:=w) _ _ _ _ _ h2])
   exact h.elim
  exact h.elim
 .rename_i ty x t2 ho;split at h
  .rename_i ti Ln ht he;split at h
   .rename_i e hk;obtain⟨i,d,h1,h2,h3,h4,h5,h6⟩:=aL (hT.ti _ _ ht);obtain⟨k1,⟨k2⟩⟩:=h;rw[h5]at hk;cases d<;>simp[cX]at hk;obtain⟨a',n,c,hu,Gf⟩:=IJ he (jD x k1);refine cW (v:=.d (.bool (!a'.isNone))) (aE:=s.bx) (dJ.pure (u:=.bool (!a'.isNone)) hF.cx ?_ (by simp only[ai,aP])) (k2 _ Gf) hn;simp only[execOp,ho];exact bS _ (by simp[hu,eqGuard,show a.eval (Operand.const (Value.slice none 0 0))=Value.slice none 0 0 from rfl,LQ (w:=w) _ _ _ _ _ h2])
   exact h.elim
  exact h.elim
 ·
  rename_i ty ho;split at h
  .rename_i ti ht;split at h
   .rename_i mk me hk;split at h
    .rename_i te hte;refine cW (v:=.BS s.bx.length) (aE:=s.bx++[.mp te.kd.isAgg []]) ⟨m5 β s.bx.length w.heap.size,{w with heap:=w.heap.push (.map #[] 0)},gG _ _,mw hF.cx (.map #[] 0) (.mp te.kd.isAgg []) ⟨#[],0,ko _ _,⟨by simp,by simp⟩,by simp[bB]⟩,.inl ⟨.map (some w.heap.size),?_,?_⟩⟩ h hn
     .simp only[execOp,ho];exact bS _ (by simp[Instr.makeMap,newObj,Sem.run])
     simp only[ai,bC];exact⟨hY,.mp te.kd.isAgg [],by simp,rfl⟩
    exact h.elim
   exact h.elim
  exact h.elim
 ·
  rename_i ty m k Ea ho;split at h
  .rename_i tk te ag es kd hm hk;obtain⟨o',hg,hK⟩:=h;obtain⟨⟨⟨k1,k2⟩,hf⟩,rfl⟩:=hg rfl;have hkv:=jD k k2
   rw[hk]at hkv;simp only[ai]at hkv;obtain⟨v,x,g1,g2,g3⟩:=LM hT hF.cx hm (jD m k1) hkv hf hK;refine cW (v:=v) (aE:=s.bx) (dJ.pure (u:=x) hF.cx ?_ g2) g3 hn;simp only[execOp,ho];exact bS _ g1
  exact h.elim
 ·
  rename_i ty m k x ho;split at h
  .rename_i b tk te ag es kd vs hm hk hc;split at h
   .rename_i dsv LR hd1;obtain⟨⟨⟨k1,k2,k3⟩,hf,_,ha⟩,hK⟩:=h;have hkv:=jD k k2
    rw[hk]at hkv;simp only[ai]at hkv;obtain⟨w',g1,g2,g3⟩:=II hT hF.cx hm (jD m k1) hkv (jD x k3) hc LR hd1 hf ha;refine cW (v:=.any) (aE:=_) ⟨β,w',g2,g3,.inr ⟨?_,rfl⟩⟩ hK hn;simp only[execOp,ho];simp[g1]
   exact h.elim
  exact h.elim
 rename_i op e1 e2 e3 e4 e5 e6 e7 e8 e9 e10;split at h
 .rename_i c ds hi;obtain⟨ds',hg,hK⟩:=h;obtain⟨⟨hk,hc⟩,rfl⟩:=hg rfl;split at hi
  .rename_i t x i ho;have ex:=dI hk
   rw[ho]at ex;obtain⟨r,k1,k2⟩:=Cr (P:=P) (w:=w) hT hF.cx hi hc (jD x (ex x (by simp[Op.operands]))) (jD i (ex i (by simp[Op.operands])));refine cW (v:=_) (aE:=s.bx) (dJ.pure hF.cx ?_ k2) hK hn;simp only[execOp,ho];exact bS _ k1
  simp at hi
 split at h
 .rename_i c v b hr;obtain⟨⟨h1,hc⟩,hK⟩:=h;exact cW (Cm (P:=P) hT hF.cx (ρ:=a.eval) (λx hx=>jD x (dI h1 x hx)) hr hc) hK hn
 exact h.elim
theorem Aw(hT:jj P T)(hF:Fr G N ds β w X s a){o:Oper}{K:AV->Prop}{next:Act->World->Prop}{Qc:Exit->Act->World->Prop}
 (h:stepG (be P G) T G true o s K) (hn:Cq G β s.bx w X a o.dst (λv bx=>K v/\bx=s.bx) next):o.wp P a w next Qc:=by
 have jD:∀x,(ct G s.sl x).ok->ai β s.bx w (bq β s.bx w X) (ct G s.sl x).aU (a.eval x):=λx hx=>jO (hF.eval x) hx;have h:=h.resolve_left (λhh=>by simp at hh)
 rcases h with h|⟨c,es,hr,hg,hK⟩;rotate_left
 .obtain⟨h1,hc⟩:=hg rfl;unfold Oper.wp;exact cW (EI (P:=P) hT hF.cx (ρ:=a.eval) (λx hx=>jD x (dI h1 x hx)) hr hc) ⟨hK,rfl⟩ hn
 unfold zm at h;unfold Oper.wp;split at h
 ·
  rename_i c x y ho;split at h
  .rename_i p hc;obtain⟨hg,hK⟩:=h;obtain⟨h1,h2,h3⟩:=hg rfl;have zi:=jD c h1
   rw[hc]at zi;simp only[ai,aP]at zi;refine cW (v:=_) (aE:=s.bx) (dJ.pure (u:=if p then a.eval x else a.eval y) hF.cx ?_ (Cs (λhp=>jD x (h2 hp)) (λhp=>jD y (h3 hp)))) ⟨hK,rfl⟩ hn;simp[execOp,ho,zi,asBool]
  exact h.elim
 ·
  rename_i f args ats ho;split at h
  .rename_i i iz IK;obtain⟨v,hg,hK⟩:=h;obtain⟨⟨h1,h2⟩,hq⟩:=hg rfl;obtain⟨fs,cs,e1,e2⟩:=oa IK (jD f h1) (jk args.toList (λy hy=>jD y (dI h2 y hy)));rw[mz ho e1];refine iE (ng (K:=λv bx=>K v/\bx=s.bx) hF.cx e2 hq ⟨hK,rfl⟩) ?_ ?_ ?_
   .rintro v w' ⟨β',aE,v',u,e,ex,cx,hv,hK⟩;cases e;exact hn β' aE w' v' v ex cx hv hK
   .rintro ch w' ⟨_,_,_,_,e,_⟩;cases e
   rintro w' ⟨_,_,_,_,e,_⟩;cases e
  exact h.elim
 ·
  rename_i f nm args ats ho;split at h
  .rename_i i iz IK;obtain⟨v,hg,hK⟩:=h;obtain⟨⟨h1,h2⟩,hq⟩:=hg rfl;obtain⟨t,ti,u,k1,k2,k3,e2⟩:=EJ hT IK (jD f h1) (jk args.toList (λy hy=>jD y (dI h2 y hy)));rw[Av hT ho k1 k2 k3];refine iE (ng (K:=λv bx=>K v/\bx=s.bx) hF.cx e2 hq ⟨hK,rfl⟩) ?_ ?_ ?_
   .rintro v w' ⟨β',aE,v',u,e,ex,cx,hv,hK⟩;cases e;exact hn β' aE w' v' v ex cx hv hK
   .rintro ch w' ⟨_,_,_,_,e,_⟩;cases e
   rintro w' ⟨_,_,_,_,e,_⟩;cases e
  exact h.elim
 rename_i op e1 e2 e3;split at h
 .rename_i c ds hi;obtain⟨ds',hg,hK⟩:=h;obtain⟨⟨hk,hc⟩,rfl⟩:=hg rfl;split at hi
  .rename_i t x i ho;have ex:=dI hk
   rw[ho]at ex;obtain⟨r,k1,k2⟩:=Cr (P:=P) (w:=w) hT hF.cx hi hc (jD x (ex x (by simp[Op.operands]))) (jD i (ex i (by simp[Op.operands])));refine cW (v:=_) (aE:=s.bx) (dJ.pure hF.cx ?_ k2) ⟨hK,rfl⟩ hn;simp only[execOp,ho];exact bS _ k1
  simp at hi
 split at h
 .rename_i c v hr;obtain⟨hg,hK⟩:=h;obtain⟨h1,hc⟩:=hg rfl;exact cW (Cm (P:=P) hT hF.cx (ρ:=a.eval) (λx hx=>jD x (dI h1 x hx)) hr hc) ⟨hK,rfl⟩ hn
 exact h.elim
theorem Ct{o:Oper}{K:AV->Prop}(h:stepG (be P G) T G false o s K):∃v,K v:=by
 rcases h with⟨_,h⟩|h|⟨_,_,_,_,hK⟩
 .exact h
 rotate_left
 .exact⟨_,hK⟩
 unfold zm at h;split at h
 .split at h
  .exact⟨_,h.2⟩
  exact h.elim
 .split at h
  .obtain⟨v,_,hK⟩:=h;exact⟨v,hK⟩
  exact h.elim
 .split at h
  .obtain⟨v,_,hK⟩:=h;exact⟨v,hK⟩
  exact h.elim
 split at h
 .obtain⟨ds,_,hK⟩:=h;exact⟨_,hK⟩
 split at h
 .exact⟨_,h.2⟩
 exact h.elim
theorem nh(hF:Fr G N ds β w X s a){ops:Array Oper}{j:Nat}{want g:Bool}(h:guardOf s.sl ops.toList j want=some g):(yielded ops a.tmps j==some want)=g:=by
 unfold guardOf at h;have hj:ops.toList[j]?=ops[j]?:=by simp
 rw[hj]at h;split at h
 .rename_i o ho;split at h
  .rename_i t hd;have hr:=hF.sW t
   have hy:∀v:Value,a.tmps.getD t undef=v->v≠undef->a.tmps[t]?=some v:=by
    intro v hv hu;rw[Array.getD_eq_getD_getElem?]at hv;cases hq:a.tmps[t]? with
    |none=>rw[hq]at hv;simp at hv;exact absurd hv.symm hu|some u=>rw[hq]at hv;simp at hv;rw[hv]
   unfold yielded;rw[ho];simp only[Option.bind_some,hd];split at h
   .rename_i q hq;rw[hq]at hr;simp only[ai,aP]at hr;simp only[osI]at h;subst h;rw[hy _ hr (by simp[undef])];cases q<;>cases want<;>rfl
   .rename_i p q hq;rw[hq]at hr;simp only[ai,aP]at hr;simp only[osI]at h;subst h;cases p with
    |true=>rw[hy _ (hr.1 rfl) (by simp[undef])];cases q<;>cases want<;>rfl
    |false=>
     have hu:=hr.2 rfl;cases hq2:a.tmps[t]? with
     |none=>simp|some u=>
      have:u=undef:=by rw[Array.getD_eq_getD_getElem?,hq2]at hu;simpa using hu
      subst this;simp[undef]
   simp at h
  simp at h
 simp at h
end
end Dem
end
section
open Go
namespace Dem
section
variable {P:Program}{T:Nat->Option TI}{G:Nat->Option (List D)}{N:Nat}{ds:Kp}{X:Nat->Prop}
def dB(G:Nat->Option (List D))(N:Nat)(ds:Kp)(X:Nat->Prop)(β0:Nat->Nat)(aK:List av)(w0:World)(Q:Ex->St->Prop):Exit->Act->World->Prop
 |.normal,a,w=>∃β s,Ext β0 aK w0 β s.bx w/\Fr G N ds β w X s a/\Q .normal s|.exit id,a,w=>∃β s,Ext β0 aK w0 β s.bx w/\Fr G N ds β w X s a/\Q (.exit id) s|.ret,a,w=>∃β s,Ext β0 aK w0 β s.bx w/\Fr G N ds β w X s a/\Q .ret s|.panic ch,a,w=>∃β bx v u,ch=[{v:=u,recovered:=false}]/\Ext β0 aK w0 β bx w/\cB G β bx w X/\ai β bx w (bq β bx w X) v u/\a.defers=ds.ds/\(∀t,t<F2 N->a.tmps.getD t undef=ds.kp t)/\Q (.panic v) ⟨[],bx⟩|_,_,_=>False
variable {β0:Nat->Nat}{aK:List av}{w0:World}
theorem dB.imp {Q Q':Ex->St->Prop} {e:Exit} {a:Act} {w:World} (h:∀e s,Q e s->Q' e s) (hl:dB G N ds X β0 aK w0 Q e a w):dB G N ds X β0 aK w0 Q' e a w:=by
 cases e<;>simp only[dB]at hl ⊢
 .obtain⟨β,s,h1,h2,h3⟩:=hl;exact⟨β,s,h1,h2,h _ _ h3⟩
 .obtain⟨β,s,h1,h2,h3⟩:=hl;exact⟨β,s,h1,h2,h _ _ h3⟩
 .obtain⟨β,s,h1,h2,h3⟩:=hl;exact⟨β,s,h1,h2,h _ _ h3⟩
 obtain⟨β,bx,v,u,h1,h2,h3,h4,h5,h6,h7⟩:=hl;exact⟨β,bx,v,u,h1,h2,h3,h4,h5,h6,h _ _ h7⟩
theorem Gl{β:Nat->Nat}{w:World}{s:St}{a:Act}(hF:Fr G N ds β w X s a){o:Oper}{K:AV->Prop}{next:Act->World->Prop}{Qc:Exit->Act->World->Prop}
 (h:vQ (be P G) G true o s K) (hn:Cq G β s.bx w X a o.dst (λv bx=>K v/\bx=s.bx) next):o.wp P a w next Qc:=by
 have jD:∀x,(ct G s.sl x).ok->ai β s.bx w (bq β s.bx w X) (ct G s.sl x).aU (a.eval x):=λx hx=>jO (hF.eval x) hx;unfold vQ at h;unfold Oper.wp;split at h
 .rename_i f args ats ho;split at h
  .rename_i i iz IK;obtain⟨v,hg,hK⟩:=h;obtain⟨⟨h1,h2⟩,hc⟩:=hg rfl;obtain⟨fs,cs,e1,e2⟩:=oa IK (jD f h1) (jk args.toList (λy hy=>jD y (dI h2 y hy)));rw[mz ho e1];refine iE (EK (K:=λv bx=>K v/\bx=s.bx) (Kp:=λ_ _=>False) hF.cx e2 ⟨⟨iz,s.bx,.ret v,s.bx,.inl ⟨rfl,rfl⟩,hc,hK,rfl⟩⟩) ?_ ?_ ?_
   .rintro v w' ⟨β',aE,v',u,ex,cx,hv,⟨e,hK⟩|⟨e,_⟩⟩
    .cases e;exact hn β' aE w' v' v ex cx hv hK
    cases e
   .rintro ch w' ⟨β',aE,v',u,ex,cx,hv,⟨e,_⟩|⟨e,hK⟩⟩
    .cases e
    exact hK.elim
   rintro w' ⟨_,_,_,_,_,_,_,⟨e,_⟩|⟨e,_⟩⟩<;>cases e
  exact h.elim
 exact h.elim
theorem IM{FC:Nat->List AV->List av->eP->List av->Prop}{g:Bool}{o:Oper}{s:St}{K:AV->Prop}(h:vQ FC G g o s K):∃v,K v:=by
 unfold vQ at h;split at h
 .split at h
  .obtain⟨v,_,hK⟩:=h;exact⟨v,hK⟩
  exact h.elim
 exact h.elim
theorem jE(hT:jj P T){ops:Array Oper}{Q:Ex->St->Prop}:∀(l:List Oper) (β:Nat->Nat) (w:World) (s:St) (a:Act),Ext β0 aK w0 β s.bx w->Fr G N ds β w X s a->
 HZ (be P G) T G N ops.toList l Q s->wpList P ops (dB G N ds X β0 aK w0 Q) l a w
 |[],β,w,s,a,ex,hF,h=>⟨β,s,ex,hF,h⟩|o::l,β,w,s,a,ex,hF,h=>by
  unfold HZ at h;cases hd:gr N o.dst with
  |false=>simp[hd]at h|true=>
  simp only[hd,cond_true]at h;refine wpList_step λKK Xz=>?_;split at h
  .rename_i hg;rw[if_pos (by simp[Region.wanted,hg])];refine mA hT hF h ?_ ?_
   .intro β' aE w' v u qL oA hv hK;exact Xz _ _ (jE hT l β' w' ⟨eJ o.dst v s.sl,aE⟩ _ (ex.trans qL) (hF.put qL oA hd hv) hK)
   intro β' aE w' v u qL oA hv hK;exact⟨β',aE,v,u,rfl,ex.trans qL,oA,hv,hF.defers,hF.kept,hK⟩
  rename_i j want hg;split at h
  .rename_i g Lo;have hy:=nh hF Lo
   cases g with
   |true=>
    rw[if_pos (by simp only[Region.wanted,hg];exact hy)];rcases h with h|h
    case inr=>refine Gl hF h ?_;rintro β' aE w' v u qL oA hv ⟨hK,rfl⟩;refine Xz _ _ (jE hT l β' w' ⟨eJ o.dst (.cond true v) s.sl,s.bx⟩ _ (ex.trans qL) (hF.put qL oA hd ?_) hK);simp only[ai];exact⟨λ_=>hv,by simp⟩
    refine Aw hT hF h ?_;rintro β' aE w' v u qL oA hv ⟨hK,rfl⟩;refine Xz _ _ (jE hT l β' w' ⟨eJ o.dst (.cond true v) s.sl,s.bx⟩ _ (ex.trans qL) (hF.put qL oA hd ?_) hK);simp only[ai];exact⟨λ_=>hv,by simp⟩
   |false=>
    rw[if_neg (by simp only[Region.wanted,hg];rw[hy];simp)];obtain⟨v,hK⟩:∃v,HZ (be P G) T G N ops.toList l Q ⟨eJ o.dst (.cond false v) s.sl,s.bx⟩:=by
     rcases h with h|h
     .exact Ct h
     exact IM h
    refine Xz _ _ (jE hT l β w ⟨eJ o.dst (.cond false v) s.sl,s.bx⟩ _ ex (hF.put (Ext.refl _ _ _) hF.cx hd ?_) hK);simp only[ai];simp
  exact h.elim
def jF(P:Program)(T:Nat->Option TI)(G:Nat->Option (List D)):Prop:=
 ∀(N:Nat) (ds:Kp) (X:Nat->Prop) (β0:Nat->Nat) (aK:List av) (w0:World) (id:Nat) (ops:Array Oper) (Q:Ex->St->Prop) (β:Nat->Nat) (w:World) (s:St) (a:Act),
  Ext β0 aK w0 β s.bx w->Fr G N ds β w X s a->Lt N ops.toList=true->Rv (be P G) T G N ops.toList Q s->(Code.region id ops true).wp P (dB G N ds X β0 aK w0 Q) a w
end
end Dem
end
section
open Go
namespace Dem
section
variable {P:Program}{T:Nat->Option TI}{G:Nat->Option (List D)}{β:Nat->Nat}{bx:List av}{w:World}{X:Nat->Prop}
theorem fO{n i:Nat}{b:av}(h:(bx.take n)[i]?=some b):bx[i]?=some b/\i<n:=by
 rw[List.getElem?_take]at h;split at h
 .exact⟨h,by assumption⟩
 simp at h
theorem xD(n:Nat)(blk:Nat)(h:bq β bx w X blk):bq β (bx.take n) w X blk:=
 ⟨h.1,h.2.1,λi b hb hl=>h.2.2 i b (fO hb).1 hl⟩
mutual
theorem lB{n:Nat}{ok ok':Nat->Prop}(h:∀blk,ok blk->ok' blk):∀(x:AV) (v:Value),x.within n=true->ai β bx w ok x v->ai β (bx.take n) w ok' x v
 |.any,_,_,_=>by simp[ai]|.d x,v,_,hv=>by simp only[ai]at hv ⊢;exact aP.mono (λblk hb=>⟨h blk hb,rfl⟩) _ _ hv|.k c,v,_,hv=>by simpa[ai]using hv|.agg cs,v,hs,hv=>by simp only[ai]at hv ⊢;obtain⟨vs,h1,h2⟩:=hv;exact⟨vs,h1,jP h cs vs (by simpa[AV.within]using hs) h2⟩
 |.c5 cs,v,hs,hv=>by simp only[ai]at hv ⊢;obtain⟨vs,h1,h2⟩:=hv;exact⟨vs,h1,jP h cs vs (by simpa[AV.within]using hs) h2⟩
 |.ptr b off,v,hs,hv=>by
  simp only[ai]at hv ⊢;have hb:b<n:=by simpa[AV.within,Nat.blt_eq]using hs
  obtain⟨h1,B,h2,h3⟩:=hv;exact⟨h1,B,by rw[List.getElem?_take,if_pos hb];exact h2,h3⟩
 |.BS b,v,hs,hv=>by
  simp only[ai]at hv ⊢;have hb:b<n:=by simpa[AV.within,Nat.blt_eq]using hs
  obtain⟨h1,B,h2,h3⟩:=hv;exact⟨h1,B,by rw[List.getElem?_take,if_pos hb];exact h2,h3⟩
 |.rp b sz i j,v,hs,hv=>by
  simp only[ai]at hv ⊢;have hb:b<n:=by simpa[AV.within,Nat.blt_eq]using hs
  obtain⟨h1,B,h2,h3⟩:=hv;exact⟨h1,B,by rw[List.getElem?_take,if_pos hb];exact h2,h3⟩
 |.ow b sz m,v,hs,hv=>by
  simp only[ai]at hv ⊢;have hb:b<n:=by simpa[AV.within,Nat.blt_eq]using hs
  obtain⟨⟨B,h2,h3⟩,h1⟩:=hv;exact⟨⟨B,by rw[List.getElem?_take,if_pos hb];exact h2,h3⟩,h1⟩
 |.vw b sz off m c ex,v,hs,hv=>by
  simp only[ai]at hv ⊢;have hb:b<n:=by simpa[AV.within,Nat.blt_eq]using hs
  obtain⟨⟨B,h2,h3⟩,h1⟩:=hv;exact⟨⟨B,by rw[List.getElem?_take,if_pos hb];exact h2,h3⟩,h1⟩
 |.ep ds,v,_,hv=>by simp only[ai]at hv ⊢;obtain⟨blk,off,h1,h2,h3⟩:=hv;exact⟨blk,off,h1,h blk h2,bg.mono (λblk hb=>⟨h blk hb,rfl⟩) blk (λ_=>rfl) _ _ h3⟩
 |.cl es,v,_,hv=>by simp only[ai]at hv ⊢;obtain⟨base,h1,h2⟩:=hv;refine⟨base,h1,h2.imp id ?_⟩;rintro⟨blk,off,sz,e1,e2,e3⟩;exact⟨blk,off,sz,e1,h blk e2,ax.mono (λblk hb=>⟨h blk hb,rfl⟩) blk sz (λ_=>rfl) _ _ e3⟩
 |.fn f cs,v,hs,hv=>by simp only[ai]at hv ⊢;obtain⟨vs,h1,h2⟩:=hv;exact⟨vs,h1,jP h cs vs (by simpa[AV.within]using hs) h2⟩
 |.sG t x,v,hs,hv=>by simp only[ai]at hv ⊢;obtain⟨u,h1,h2⟩:=hv;exact⟨u,h1,lB h x u (by simpa[AV.within]using hs) h2⟩
 |.cond p x,v,hs,hv=>by simp only[ai]at hv ⊢;exact⟨λhp=>lB h x v (by simpa[AV.within]using hs) (hv.1 hp),hv.2⟩
theorem jP{n:Nat}{ok ok':Nat->Prop}(h:∀blk,ok blk->ok' blk):∀(xs:List AV) (vs:List Value),AV.within.uz n xs=true->an β bx w ok xs vs->an β (bx.take n) w ok' xs vs
 |[],vs,_,hv=>by simpa[an]using hv|x::xs,vs,hs,hv=>by simp only[an]at hv ⊢;obtain⟨u,us,h1,h2,h3⟩:=hv;simp only[AV.within.uz,vae]at hs;exact⟨u,us,h1,lB h x u hs.1 h2,jP h xs us hs.2 h3⟩
end
theorem mP{n:Nat}:∀{bs:List av} {i:Nat} {cs:List AV},bY n bs=true->bs[i]?=some (.var cs)->AV.within.uz n cs=true
 |[],i,cs,_,hi=>by simp at hi|b::bs,0,cs,h,hi=>by simp at hi;subst hi;simp only[bY,vae]at h;exact h.1|b::bs,i+1,cs,h,hi=>by simp at hi;refine mP (i:=i) ?_ hi;cases b<;>simp[bY]at h<;>first|exact h|exact h.2
theorem xE(cx:cB G β bx w X){n:Nat}(hw:bY n (bx.take n)=true):cB G β (bx.take n) w X:=by
 have hk:∀blk,bq β bx w X blk->bq β (bx.take n) w X blk:=λblk h=>xD n blk h;have hkeep:kZ w w (bq β bx w X) (bq β (bx.take n) w X):=λblk hb=>⟨hk blk hb,rfl⟩
 refine⟨cx.xs,?_,?_,?_,?_⟩
 .intro g ds hg;obtain⟨h1,h2⟩:=cx.B7 g ds hg;exact⟨hk g h1,bg.mono hkeep g (λ_=>rfl) _ _ h2⟩
 .intro i j bi bj hi hj;exact cx.inj i j bi bj (fO hi).1 (fO hj).1
 .intro i b hb;have h:=cx.box i b (fO hb).1
  cases b with
  |var cs=>obtain⟨c,e,h1,h2⟩:=h;exact⟨c,e,h1,jP hk cs _ (mP hw hb) h2⟩
  |row sz es=>refine h.imp id ?_;rintro⟨c,e,h1,h2⟩;exact⟨c,e,h1,ax.mono hkeep _ _ (λ_=>rfl) _ _ h2⟩
  |mr sz es=>refine h.imp id ?_;rintro⟨h1,h2⟩;exact⟨hk _ h1,ax.mono hkeep _ _ (λ_=>rfl) _ _ h2⟩
  |it s p=>exact h|mp ag es=>obtain⟨ms,clock,h1,h2,h3⟩:=h;exact⟨ms,clock,h1,h2,bB.mono hkeep _ _ _ h3⟩
  |dead=>trivial|bJ=>trivial
 intro i b hb hl;exact cx.apart i b (fO hb).1 hl
theorem xF{β0:Nat->Nat}{aK:List av}{w0:World}(ex:Ext β0 aK w0 β bx w):Ext β0 aK w0 β (bx.take aK.length) w:=by
 refine⟨ex.os,ex.tape,ex.output,ex.size,ex.block,ex.shape,?_,?_⟩
 .rintro i ⟨b,hb,dM⟩;obtain⟨h1,B,h2,h3⟩:=ex.born i ⟨b,hb,dM⟩;exact⟨h1,B,by rw[List.getElem?_take,if_pos (kx hb)];exact h2,h3⟩
 intro i b hb hl;exact ex.live i b (fO hb).1 hl
theorem EM(cx:cB G β bx w X){x y:AV}{u:Value}(hd:Lw bx x=some y)(h:ai β bx w (bq β bx w X) x u):
 Ext β bx w β (rZ bx x) w/\cB G β (rZ bx x) w X/\ai β (rZ bx x) w (bq β (rZ bx x) w X) y u:=by
 cases x with
 |c5 cs=>
  simp only[Lw,Option.map_eq_some_iff]at hd
  obtain⟨ys,h1,rfl⟩:=hd
  simp only[ai]at h
  obtain⟨vs,rfl,hvs⟩:=h
  obtain⟨g1,g2,g3⟩:=nH cs bx ys vs cx h1 hvs
  exact⟨g1,g2,by simp only[ai];exact⟨vs,rfl,g3⟩⟩
 |_=>simp only[Lw]at hd;simp only[rZ];exact EE cx hd h
theorem BE{β0:Nat->Nat}{aK:List av}{w0:World}(cx:cB G β bx w X)(ex:Ext β0 aK w0 β bx w){k sz m:Nat}{es:List (List D)}(hn:aK.length<=bx.length)(hw:bY aK.length (bx.take aK.length)=true)
 (hk:(es=[]/\m=0)∨(aK.length<=k/\bx[k]?=some (.row sz es))) {u:Value} (hu:es=[]/\m=0/\(∃base,u=.slice base 0 0)∨ai β bx w (bq β bx w X) (.ow k sz m) u):
 ∃β',Ext β0 aK w0 β' (bx.take aK.length++[.row sz es]) w/\cB G β' (bx.take aK.length++[.row sz es]) w X/\
  ai β' (bx.take aK.length++[.row sz es]) w (bq β' (bx.take aK.length++[.row sz es]) w X) (.ow aK.length sz m) u:=by
 have hlen:(bx.take aK.length).length=aK.length:=by simp;omega
 have e1:=xF ex
 have c1:=xE cx hw
 have hrow:es≠[]->aK.length<=k/\bx[k]?=some (.row sz es):=λhne=>hk.resolve_left (λh=>hne h.1)
 have cH:av.live (.row sz es)=true->es≠[]:=by intro hl;cases es<;>simp[av.live]at hl ⊢
 have hold:∀i b,(bx.take aK.length)[i]?=some b->m5 β aK.length (β k) i=β i:=by intro i b h;exact de _ _ (by have:=(fO h).2;omega)
 have hinv:∀{i b},(bx.take aK.length++[.row sz es])[i]?=some b->((bx.take aK.length)[i]?=some b)∨(i=aK.length/\b=.row sz es):=by
  intro i b h;rcases bF h with⟨h1,_⟩|⟨h1,h2⟩
  .exact .inl h1
  exact .inr ⟨by omega,h2⟩
 have e2:Ext β0 aK w0 (m5 β aK.length (β k)) (bx.take aK.length++[.row sz es]) w:=by
  refine⟨ex.os,ex.tape,ex.output,ex.size,ex.block,ex.shape,?_,?_⟩
  .intro i hi;obtain⟨h1,b,h2,h3⟩:=e1.born i hi;exact⟨by rw[hold i b h2];exact h1,b,fh h2,h3⟩
  intro i b h hl;rcases hinv h with h1|⟨rfl,rfl⟩
  .rw[hold i b h1];exact e1.live i b h1 hl
  rw[bC];exact ex.live k _ (hrow (cH hl)).2 hl
 have hok:∀blk,bq β bx w X blk->bq (m5 β aK.length (β k)) (bx.take aK.length++[.row sz es]) w X blk:=by
  rintro blk ⟨k1,k2,k3⟩;refine⟨k1,k2,?_⟩;intro i b h hl;rcases hinv h with h1|⟨rfl,rfl⟩
  .rw[hold i b h1];exact k3 i b (fO h1).1 hl
  rw[bC];exact k3 k _ (hrow (cH hl)).2 hl
 have hkeep:kZ w w (bq β bx w X) (bq (m5 β aK.length (β k)) (bx.take aK.length++[.row sz es]) w X):=λblk hb=>⟨hok blk hb,rfl⟩
 have sX:vB β (bx.take aK.length) w (bq β bx w X) (m5 β aK.length (β k)) (bx.take aK.length++[.row sz es]) w (bq (m5 β aK.length (β k)) (bx.take aK.length++[.row sz es]) w X):=by refine⟨hkeep,?_,λ_ c _ _ h=>⟨c,h,rfl⟩⟩;rintro i ⟨b,hb,h3⟩;exact⟨hold i b hb,b,fh hb,h3⟩
 refine⟨_,e2,⟨cx.xs,?_,?_,?_,?_⟩,?_⟩
 .intro g ds hg;obtain⟨h1,h2⟩:=cx.B7 g ds hg;exact⟨hok g h1,bg.mono hkeep g (λ_=>rfl) _ _ h2⟩
 .intro i j bi bj hi hj pL sB he;rcases hinv hi with h1|⟨rfl,rfl⟩<;>rcases hinv hj with h2|⟨rfl,rfl⟩
  .rw[hold i bi h1,hold j bj h2]at he;exact c1.inj i j bi bj h1 h2 pL sB he
  .rw[hold i bi h1,bC]at he;obtain⟨r1,r2⟩:=hrow (cH sB);have:=cx.inj i k bi _ (fO h1).1 r2 pL sB he
   have:=(fO h1).2;omega
  .rw[hold j bj h2,bC]at he;obtain⟨r1,r2⟩:=hrow (cH pL);have:=cx.inj k j _ bj r2 (fO h2).1 pL sB he
   have:=(fO h2).2;omega
  rfl
 .intro i b hb;rcases hinv hb with h1|⟨rfl,rfl⟩
  .rw[hold i b h1];have h:=cx.box i b (fO h1).1
   cases b with
   |var cs=>obtain⟨c,e,g1,g2⟩:=h;exact⟨c,e,g1,an.mono sX _ _ (jP (λ_ hb=>hb) cs _ (mP hw h1) g2)⟩
   |row sz es=>refine h.imp id ?_;rintro⟨c,e,g1,g2⟩;exact⟨c,e,g1,ax.mono hkeep _ _ (λ_=>rfl) _ _ g2⟩
   |mr sz es=>refine h.imp id ?_;rintro⟨g1,g2⟩;exact⟨hok _ g1,ax.mono hkeep _ _ (λ_=>rfl) _ _ g2⟩
   |it s p=>exact h|mp ag es=>obtain⟨ms,clock,h1,h2,h3⟩:=h;exact⟨ms,clock,h1,h2,bB.mono hkeep _ _ _ h3⟩
   |dead=>trivial|bJ=>trivial
  rw[bC];by_cases hne:es=[]
  .exact .inl hne
  have h:=cx.box k _ (hrow hne).2;refine h.imp id ?_;rintro⟨c,e,g1,g2⟩;exact⟨c,e,g1,ax.mono hkeep _ _ (λ_=>rfl) _ _ g2⟩
 .intro i b hb hl;rcases hinv hb with h1|⟨rfl,rfl⟩
  .rw[hold i b h1];exact cx.apart i b (fO h1).1 hl
  rw[bC];exact cx.apart k _ (hrow (cH hl)).2 hl
 simp only[ai]
 refine⟨⟨.row sz es,by rw[vaF (by omega)];simp[hlen],rfl⟩,?_⟩
 rw[bC]
 rcases hu with⟨_,rfl,base,rfl⟩|hu
 .exact .inl ⟨rfl,base,rfl⟩
 simp only[ai]at hu
 exact hu.2
theorem mB:∀(ks:List Bool) (bs:List av) (i:Nat) (b':av),(kill ks bs)[i]?=some b'->∃b,bs[i]?=some b/\(b'=b∨(b'=.dead/\b.born=true))
 |[],bs,i,b',h=>⟨b',by simpa[kill]using h,.inl rfl⟩|_::_,[],i,b',h=>by simp[kill]at h|k::ks,b::bs,0,b',h=>by
  simp only[kill,List.getElem?_cons_zero,osI]at h;refine⟨b,rfl,?_⟩;cases hk:(k&&b.born)with
  |false=>rw[hk]at h;exact .inl h.symm|true=>rw[hk]at h;simp at hk;exact .inr ⟨h.symm,hk.2⟩
 |k::ks,b::bs,i+1,b',h=>by simp only[kill,vaq]at h;obtain⟨b0,h1,h2⟩:=mB ks bs i b' h;exact⟨b0,by simpa using h1,h2⟩
theorem IN:∀(ks:List Bool) (bs:List av) (i:Nat) (b:av),bs[i]?=some b->∃b',(kill ks bs)[i]?=some b'/\(b'=b∨(b'=.dead/\b.born=true))
 |[],bs,i,b,h=>⟨b,by simpa[kill]using h,.inl rfl⟩|_::_,[],i,b,h=>by simp at h|k::ks,b0::bs,0,b,h=>by
  simp only[List.getElem?_cons_zero,osI]at h;subst h;refine⟨_,by simp only[kill,List.getElem?_cons_zero];rfl,?_⟩;cases hk:(k&&b0.born)with
  |false=>exact .inl rfl|true=>simp at hk;exact .inr ⟨rfl,hk.2⟩
 |k::ks,b0::bs,i+1,b,h=>by simp only[vaq]at h;obtain⟨b',h1,h2⟩:=IN ks bs i b h;exact⟨b',by simpa only[kill,vaq]using h1,h2⟩
theorem Gm(ks:List Bool)(cx:cB G β bx w X):Ext β bx w β (kill ks bx) w/\cB G β (kill ks bx) w X:=by
 have ex:Ext β bx w β (kill ks bx) w:=by
  refine⟨rfl,rfl,rfl,vad _,λ_ _ _=>rfl,λk c e f h=>⟨c,h,rfl⟩,?_,?_⟩
  .rintro i ⟨b,h1,h2⟩;obtain⟨b',h3,h4⟩:=IN ks bx i b h1;refine⟨rfl,b',h3,?_⟩;rcases h4 with rfl|⟨rfl,_⟩
   .exact h2
   rfl
  intro i b h1 h2;obtain⟨b0,h3,h4⟩:=mB ks bx i b h1;rcases h4 with rfl|⟨rfl,_⟩
  .exact .inr ⟨i,b,h3,h2,rfl⟩
  simp[av.live]at h2
 refine⟨ex,cx.step ex ?_ ?_⟩
 .intro i b h1;obtain⟨b0,h3,h4⟩:=mB ks bx i b h1;rcases h4 with rfl|⟨rfl,_⟩
  .exact .inl ⟨h3,λ_=>rfl⟩
  exact .inr hY
 intro i j bi bj h1 h2 l1 l2 he;obtain⟨b1,h3,h4⟩:=mB ks bx i bi h1;obtain⟨b2,h5,h6⟩:=mB ks bx j bj h2;rcases h4 with rfl|⟨rfl,_⟩
 .rcases h6 with rfl|⟨rfl,_⟩
  .exact cx.inj i j _ _ h3 h5 l1 l2 he
  simp[av.live]at l2
 simp[av.live]at l1
def Gn(tmps:Array Value)(r:ResultVar):Sem Value:=
 match r with
 |.tmp t=>pure (tmps.getD t undef)|.cell a t=>do loadVar t (<-asAddr (tmps.getD a undef))
theorem LS(fn:Func)(tmps:Array Value):results fn tmps=(do let vs <-fn.results.mapM (Gn tmps);pure (if h:vs.size=1 then vs[0]else .tuple vs)):=rfl
theorem Cu(hT:jj P T){s:St}{a:Act}(BF:cB G β s.bx w X)(vX:∀t,ai β s.bx w (bq β s.bx w X) (fK t s.sl) (a.tmps.getD t undef)):∀(rs:List ResultVar) {c:Prop} {vs:List AV},vR T s.sl s.bx rs=some (c,vs)->c->
 ∃us:List Value,(rs.mapM (Gn a.tmps)).run P w=.ok us w/\an β s.bx w (bq β s.bx w X) vs us
 |[],c,vs,h,_=>by simp[vR]at h;obtain⟨_,rfl⟩:=h;exact⟨[],by simp,by simp[an]⟩
 |.tmp t::r,c,vs,h,hc=>by
  simp only[vR]at h;split at h
  .rename_i c' vs' h';simp only[osI,vab]at h;obtain⟨rfl,rfl⟩:=h;obtain⟨us,g1,g2⟩:=Cu hT BF vX r h' hc.2;refine⟨a.tmps.getD t undef::us,?_,?_⟩
   .rw[List.mapM_cons];simp only[Sem.run_bind,g1,Gn,Sem.run_pure,Result.andThen_ok]
   simp only[an];exact⟨_,_,rfl,jO (vX t) hc.1,g2⟩
  simp at h
 |.cell t ty::r,c,vs,h,hc=>by
  simp only[vR]at h;split at h
  .rename_i ti c' vs' Yr h';split at h
   .rename_i b o hl;split at h
    .rename_i c2 v b2 hld;simp only[osI,vab]at h;obtain⟨rfl,rfl⟩:=h;obtain⟨us,g1,g2⟩:=Cu hT BF vX r h' hc.2;have hp:=vX t
     rw[hl]at hp;obtain⟨_,x,k1,k2⟩:=B8 (P:=P) hT BF Yr hp hld hc.1;simp only[ai]at hp;rw[hp.1]at k1;refine⟨x::us,?_,?_⟩
     .rw[List.mapM_cons];have:(loadVar ty ⟨β b,o,none⟩).run P w=.ok x w:=by simpa[Instr.loadAt,Instr.sureAddr]using k1
      simp only[Sem.run_bind,Gn,hp.1,asAddr,Sem.run_pure,Result.andThen_ok,this,g1]
     simp only[an];exact⟨_,_,rfl,k2,g2⟩
    simp at h
   simp at h
  simp at h
theorem Ax(hT:jj P T){s:St}{a:Act}(BF:cB G β s.bx w X)(vX:∀t,ai β s.bx w (bq β s.bx w X) (fK t s.sl) (a.tmps.getD t undef)){fn:Func}{c:Prop}{vs:List AV}(h:vR T s.sl s.bx fn.results.toList=some (c,vs))(hc:c):
 ∃u,(results fn a.tmps).run P w=.ok u w/\ai β s.bx w (bq β s.bx w X) (nO vs) u:=by
 obtain⟨us,g1,g2⟩:=Cu hT BF vX _ h hc;have hlen:=an.length g2
 rw[LS,Array.mapM_eq_mapM_toList];simp[g1];split
 .rename_i h1;match us,vs,h1,hlen,g2 with
  |[u],[v],_,_,g2=>simp only[an,List.cons.injEq]at g2;obtain⟨_,_,⟨rfl,rfl⟩,h,_⟩:=g2;exact h
 rename_i h1;have:nO vs=.c5 vs:=by
  match vs,hlen with
  |[],_=>rfl|[v],hl=>exact absurd hl h1|_::_::_,_=>rfl
 rw[this];simp only[ai];exact⟨us,rfl,g2⟩
theorem Cv:∀(args:List AV) (i t:Nat),fK t (fH i args)=if i<=t then args.getD (t-i) .any else .any
 |[],i,t=>by simp[fH,fK]|x::xs,i,t=>by
  simp only[fH,fK,Cv xs (i+1) t];by_cases h:t=i
  .subst h;simp
  rw[Xy h];simp only[cond_false];by_cases h2:i<=t
  .rw[if_pos (by omega),if_pos h2,show t-i=(t-(i+1))+1 by omega];simp
  rw[if_neg (by omega),if_neg h2]
theorem Cw(hT:jj P T){f N:Nat}{fn:Func}{c:Code}{args:List AV}{aK aE:List av}{res:eP}
 (hN:fn.ntmps=N) (hlen:gq args.length N=true)
 (h:∀(β:Nat->Nat) (w:World) (X:Nat->Prop) (a:Act),Fr G N Kp.no β w X ⟨fH 0 args,aK⟩ a->c.wp P (dB G N Kp.no X β aK w (B5 T fn.results.toList aK.length res aE)) a w)
 (β:Nat->Nat) (w:World) (vs:List Value) (X:Nat->Prop) (cx:cB G β aK w X) (hx:an β aK w (bq β aK w X) args vs):
 c.wp P (bodyPost P fn λe w'=>∃β',Ext β aK w β' aE w'/\cB G β' aE w' X/\eH β' aE w' (bq β' aE w' X) res e) {tmps:=(⟨vs⟩:Array Value)++Array.replicate (fn.ntmps-(⟨vs⟩:Array Value).size) undef,defers:=[]} w:=by
 have hl:=an.length hx;obtain⟨hle,hhi,hlo⟩:=sH hlen;refine wp_mono (h β w X _ ⟨cx,rfl,?_,λt ht=>by omega,?_⟩) ?_
 .rw[hhi];simp[hN,hl];omega
 .intro t;rw[Cv];simp only[Nat.zero_le,if_true,Nat.sub_zero];by_cases ht:t<args.length
  .obtain⟨v,k1,k2⟩:=an.get t args[t] hx (by simp[ht]);have e1:args.getD t .any=args[t]:=by simp[vam,ht]
   rw[e1];have hv:t<vs.length:=by omega
   have e2:vs[t]=v:=by rw[vaj hv]at k1;simpa using k1
   have e3:(({toList:=vs}:Array Value)++Array.replicate (fn.ntmps-(⟨vs⟩:Array Value).size) undef).getD t undef=v:=by simp[Array.getD_eq_getD_getElem?,Array.getElem?_append,hv,e2]
   rw[e3];exact k2
  simp[vam,vay (Nat.le_of_not_lt ht),ai]
 intro e a' w' pV;have fin:∀β' s,Ext β aK w β' s.bx w'->Fr G N Kp.no β' w' X s a'->(match vR T s.sl s.bx fn.results.toList with
  |some (c,vs)=>Rw aK.length c (nO vs) s.bx res aE|none=>False)->a'.defers=[]/\∃v,(results fn a'.tmps).run P w'=.ok v w'/\∃β',Ext β aK w β' aE w'/\cB G β' aE w' X/\eH β' aE w' (bq β' aE w' X) res (.returned v):=by
  intro β' s ex hF hq;split at hq
  .rename_i c vs' hres;obtain⟨hc,hq⟩:=hq;obtain⟨u,k1,k2⟩:=Ax hT hF.cx hF.sW hres hc;refine⟨hF.defers,u,k1,?_⟩;rcases hq with⟨rfl,rfl⟩|⟨ks,y,q1,q2,rfl,q3,rfl⟩|⟨k,sz,m,es,q0,q1,q2,q3,q4,rfl,rfl⟩|⟨sz,q0,q1,q2,rfl,rfl⟩
   .exact⟨β',ex,hF.cx,k2⟩
   .obtain⟨e1,c1,r1⟩:=EM hF.cx q1 k2;obtain⟨e2,c2⟩:=Gm ks c1;exact⟨β',xF ((ex.trans e1).trans e2),xE c2 q3,lB (λblk hb=>xD _ blk hb) y u q2 (ai.mono (e2.dL X) _ _ r1)⟩
   .rw[q0]at k2;exact BE hF.cx ex q3 q4 (.inr ⟨q2,q1⟩) (.inr k2)
   rw[q0]at k2;simp only[ai,List.length_nil]at k2;obtain⟨base,k2,_⟩:=k2;exact BE (k:=0) hF.cx ex q1 q2 (.inl ⟨rfl,rfl⟩) (.inl ⟨rfl,rfl,base,k2⟩)
  exact hq.elim
 cases e<;>simp only[dB,bodyPost]at pV ⊢
 .obtain⟨β',s,h1,h2,h3⟩:=pV;exact fin β' s h1 h2 h3
 .obtain⟨β',s,h1,h2,h3⟩:=pV;exact h3.elim
 .obtain⟨β',s,h1,h2,h3⟩:=pV;exact fin β' s h1 h2 h3
 obtain⟨β',gY,v,u,h1,h2,h3,h4,h5,_,h6⟩:=pV;obtain⟨rfl,rfl⟩:=h6.ok;exact⟨h5,β',h2,h3,u,h1,h4⟩
theorem xG(hT:jj P T){f N:Nat}{fn:Func}{c:Code}{args:List AV}{aK aE:List av}{res:eP}(hf:P.funcs[f]?=some fn)(hb:fn.body=some c)
 (hname:(fn.name== "runtime.NumGoroutine")=false) (hN:fn.ntmps=N) (hlen:gq args.length N=true)
 (h:∀(β:Nat->Nat) (w:World) (X:Nat->Prop) (a:Act),Fr G N Kp.no β w X ⟨fH 0 args,aK⟩ a->c.wp P (dB G N Kp.no X β aK w (B5 T fn.results.toList aK.length res aE)) a w):be P G f args aK res aE:=by
 intro β w vs X cx hx;refine .inl ⟨?_,calls_of_wp hf hb (Cw (f:=f) hT hN hlen h β w vs X cx hx)⟩;simp[callFunc,run_program,hf,hb];simpa using hname
def Cx(P:Program)(G:Nat->Option (List D))(f:Nat)(args:List AV)(bx:List av)(res:eP)(aE:List av):Prop:=
 ∀(β:Nat->Nat) (w:World) (vs:List Value) (X:Nat->Prop),cB G β bx w X->an β bx w (bq β bx w X) args vs->(callFunc f ⟨vs⟩).run P w=.ok (.enter f ⟨vs⟩) w/\
  ∀u,CallsD P f ⟨vs⟩ u w λe u' w'=>u'=u/\∃β',Ext β bx w β' aE w'/\cB G β' aE w' X/\eH β' aE w' (bq β' aE w' X) res e
theorem Gp(hT:jj P T){f N:Nat}{fn:Func}{c:Code}{args:List AV}{aK aE:List av}{res:eP}(hf:P.funcs[f]?=some fn)(hb:fn.body=some c)
 (hname:(fn.name== "runtime.NumGoroutine")=false) (hN:fn.ntmps=N) (hlen:gq args.length N=true)
 (h:∀(β:Nat->Nat) (w:World) (X:Nat->Prop) (a:Act),Fr G N Kp.no β w X ⟨fH 0 args,aK⟩ a->c.wp P (dB G N Kp.no X β aK w (B5 T fn.results.toList aK.length res aE)) a w):Cx P G f args aK res aE:=by
 intro β w vs X cx hx;refine⟨?_,λu=>callsD_of_wp hf hb (Cw (f:=f) hT hN hlen h β w vs X cx hx)⟩;simp[callFunc,run_program,hf,hb];simpa using hname
end
end Dem
end
section
open Go Go.Deep
namespace Dem
inductive PT where
 |bool|int (k:IntKind)|str|sl (es:List PT)
def RV(r:TypeId->Option (List PT))(sz:TypeId->Nat):List Field->Nat->Option (List PT)
 |[],_=>some []|f::fs,off=>if f.offset=off then match r f.type,RV r sz fs (off+sz f.type)with
  |some a,some b=>if a.length=sz f.type then some (a++b)else none|_,_=>none else none
def IP(P:Program):Nat->TypeId->Option (List PT)
 |0,_=>none|n+1,t=>match P.underlying t with
  |some .bool=>some [.bool]|some (.int k)=>some [.int k]|some .string=>some [.str]|some (.slice e)=>match IP P n e with
   |some ps=>if ps.length=P.cellsOf e/\0<ps.length then some [.sl ps]else none|none=>none
  |some (.struct fs)=>match RV (IP P n) P.cellsOf fs.toList 0 with
   |some ps=>if ps.length=P.cellsOf t then some ps else none|none=>none
  |some (.array k e)=>match IP P n e with
   |some ps=>if ps.length=P.cellsOf e/\k*ps.length=P.cellsOf t then some (List.replicate k ps).flatten else none|none=>none
  |_=>none
mutual
def Ay:PT->D->Prop
 |.bool,d=>∃b,d=.bool b|.int k,d=>∃n,d=.int k n/\(Lit.int k n).wf=true|.str,d=>∃s:List UInt8,d=.str s/\s.length<=maxLen|.sl ps,d=>∃es:List (List D),d=.sl es/\es.length<=maxLen/\∀r∈es,dg ps r
def dg:List PT->List D->Prop
 |[],ds=>ds=[]|p::ps,ds=>∃d r,ds=d::r/\Ay p d/\dg ps r
end
theorem dg.length:∀{ps:List PT} {ds:List D},dg ps ds->ds.length=ps.length
 |[],ds,h=>by simp only[dg]at h;subst h;rfl|p::ps,ds,h=>by simp only[dg]at h;obtain⟨d,r,rfl,_,h2⟩:=h;simp[dg.length h2]
theorem dg.append:∀{ps qs:List PT} {ds es:List D},dg ps ds->dg qs es->dg (ps++qs) (ds++es)
 |[],qs,ds,es,h,g=>by simp only[dg]at h;subst h;exact g|p::ps,qs,ds,es,h,g=>by simp only[dg]at h;obtain⟨d,r,rfl,h1,h2⟩:=h;simp only[List.cons_append,dg];exact⟨d,r++es,rfl,h1,h2.append g⟩
theorem cJ.append {w:World} {ok:Nat->Prop}:∀{ds es:List D} {vs us:List Value},cJ w ok ds vs->cJ w ok es us->cJ w ok (ds++es) (vs++us)
 |[],es,vs,us,h,g=>by simp only[cJ]at h;subst h;exact g|d::ds,es,vs,us,h,g=>by simp only[cJ]at h;obtain⟨v,r,rfl,h1,h2⟩:=h;simp only[List.cons_append,cJ];exact⟨v,r++us,rfl,h1,h2.append g⟩
theorem cJ.row {w:World} {ok:Nat->Prop} {blk:Nat}:∀{ds:List D} {vs:List Value} {off:Nat},cJ w ok ds vs->(∀i,i<vs.length->w.cell? ⟨blk,off+i,none⟩=vs[i]?)->bg w ok blk ds off
 |[],_,_,_,_=>by simp[bg]|d::ds,vs,off,h,hc=>by
  simp only[cJ]at h;obtain⟨v,r,rfl,h1,h2⟩:=h;simp only[bg];refine⟨⟨v,by simpa using hc 0 (by simp),h1⟩,h2.row λi hi=>?_⟩;have:=hc (i+1) (by simp;omega)
  simpa[Nat.add_assoc,Nat.add_comm 1 i]using this
mutual
def gH{H:Type}:DataW H->List D
 |.lit (.bool b)=>[.bool b]|.lit (.int k n)=>[.int k n]|.lit (.string s)=>[.str s]|.nil=>[.sl []]|.slice elems _=>[.sl (xH elems)]|.agg parts=>jv parts|_=>[]
def xH{H:Type}:List (DataW H)->List (List D)
 |[]=>[]|d::r=>gH d::xH r
def jv{H:Type}:List (DataW H)->List D
 |[]=>[]|d::r=>gH d++jv r
end
theorem xI{H:Type}:∀l:List (DataW H),xH l=l.map gH
 |[]=>rfl|d::r=>by simp[xH,xI r]
theorem EN{w:World}{ok:Nat->Prop}{blk sz:Nat}:∀(n off:Nat) (f:Nat->List D),(∀i,i<n->bg w ok blk (f i) (off+i*sz)/\(f i).length=sz)->ax w ok blk sz ((List.range n).map f) off
 |0,off,_,_=>by simp[ax]|n+1,off,f,h=>by obtain⟨h1,h2⟩:=h 0 (by omega);rw[List.range_succ_eq_map,List.map_cons,List.map_map];simp only[ax];refine⟨h2,by simpa using h1,EN n (off+sz) _ λi hi=>?_⟩;obtain⟨k1,k2⟩:=h (i+1) (by omega);rw[show off+sz+i*sz=off+(i+1)*sz by rw[Nat.succ_mul];omega];exact⟨k1,k2⟩
theorem Pu{w:World}{a:Addr}{v:Value}(h:w.cell? a=some v):a.spot=none:=by
 unfold World.cell? at h;split at h
 .split at h
  .cases h
  rename_i hs;simpa using hs
 cases h
theorem add_eq{a:Addr}(h:a.spot=none)(n:Nat):a.add n=⟨a.block,a.off+n,none⟩:=by
 unfold Addr.add;split
 .rename_i h0;subst h0;cases a;simp_all
 rfl
theorem Cy{α:Type}(cs:List α)(off a b:Nat):(cs.drop off).take (a+b)=(cs.drop off).take a++(cs.drop (off+a)).take b:=by rw[List.take_add,List.drop_drop]
section
variable {H:Type}{enc:TypeId×Value->H}{P:Program}{w:World}{spare:Nat->Bool}{held:Bool}{ok:Nat->Prop}
theorem Cz{r:TypeId->Option (List PT)}{n:Nat}{cs:List Value}(hr:∀t cs x ps,DataW.trod enc P w 0 spare held n t cs=some x->r t=some ps->cJ w ok (gH x.1) cs/\dg ps (gH x.1)):
 ∀(fs:List Field) (xs:List (DataW H×List MemPlace)) (off:Nat) (ps:List PT),RV r P.cellsOf fs off=some ps->xs.length=fs.length->
  (∀(i:Nat) (f:Field),fs[i]?=some f->DataW.trod enc P w 0 spare held n f.type ((cs.drop f.offset).take (P.cellsOf f.type))=xs[i]?)->
  cJ w ok (jv (xs.map (·.1))) ((cs.drop off).take ps.length)/\dg ps (jv (xs.map (·.1)))
 |[],xs,off,ps,h,hl,_=>by
  simp only[RV,osI]at h;subst h;obtain rfl:xs=[]:=by simpa using hl
  exact⟨by simp[cJ,jv],by simp[dg,jv]⟩
 |f::fs,[],off,ps,h,hl,hx=>by simp at hl|f::fs,x::xs,off,ps,h,hl,hx=>by
  simp only[RV]at h;split at h
  .rename_i ho;split at h
   .rename_i a b ha hb;split at h
    .rename_i hla;simp only[osI]at h;subst h;have hx0:=hx 0 f rfl
     obtain⟨g1,g2⟩:=hr _ _ _ _ (by simpa using hx0) ha;obtain⟨k1,k2⟩:=Cz hr fs xs _ b hb (by simpa using hl) (λi f hf=>by simpa using hx (i+1) f (by simpa using hf));rw[List.length_append,Cy];rw[ho,<-hla]at g1;rw[<-hla]at k1;simp only[List.map_cons,jv];exact⟨g1.append k1,g2.append k2⟩
    cases h
   cases h
  cases h
theorem EO{r:List PT}{cs:List Value}:∀(k off:Nat) (xs:List (DataW H×List MemPlace)),xs.length=k->(∀i x,xs[i]?=some x->cJ w ok (gH x.1) ((cs.drop (off+i*r.length)).take r.length)/\dg r (gH x.1))->
 cJ w ok (jv (xs.map (·.1))) ((cs.drop off).take (k*r.length))/\dg (List.replicate k r).flatten (jv (xs.map (·.1)))
 |0,off,xs,hl,_=>by
  obtain rfl:xs=[]:=by simpa using hl
  exact⟨by simp[cJ,jv],by simp[dg,jv]⟩
 |k+1,off,[],hl,h=>by simp at hl|k+1,off,x::xs,hl,h=>by obtain⟨g1,g2⟩:=h 0 x rfl;obtain⟨k1,k2⟩:=EO (r:=r) (cs:=cs) k (off+r.length) xs (by simpa using hl) (λi x hx=>by obtain⟨k1,k2⟩:=h (i+1) x (by simpa using hx);rw[show off+r.length+i*r.length=off+(i+1)*r.length by rw[Nat.succ_mul];omega];exact⟨k1,k2⟩);rw[show(k+1)*r.length=r.length+k*r.length by rw[Nat.succ_mul];omega,Cy,List.replicate_succ,List.flatten_cons];simp only[List.map_cons,jv];exact⟨cJ.append (by simpa using g1) k1,g2.append k2⟩
theorem xK(hok:∀blk,blk<w.heap.size->ok blk):
 ∀(n m:Nat) (t:TypeId) (cs:List Value) (x:DataW H×List MemPlace) (ps:List PT),DataW.trod enc P w 0 spare held m t cs=some x->IP P n t=some ps->cJ w ok (gH x.1) cs/\dg ps (gH x.1)
 |0,_,_,_,_,_,_,h=>by simp[IP]at h|n+1,m,t,cs,x,ps,h,hp=>by
  have ih:=xK hok n;rw[IP]at hp;cases hu:P.underlying t with
  |none=>simp[hu]at hp|some d=>
   simp only[hu]at hp;cases d<;>(try (cases hp;done))<;>simp only at hp;case bool=>simp only[osI]at hp;subst hp;obtain⟨b,rfl,rfl⟩:=DataW.trod_bool hu h;exact⟨by simp[cJ,aP,gH],by simp[dg,Ay,gH]⟩
   case int k=>simp only[osI]at hp;subst hp;obtain⟨z,rfl,rfl,hw⟩:=DataW.trod_int hu h;exact⟨by simp[cJ,aP,gH],by simpa[dg,Ay,gH]using hw⟩
   case string=>simp only[osI]at hp;subst hp;obtain⟨s,rfl,rfl,hs⟩:=DataW.trod_string hu h;refine⟨by simp[cJ,aP,gH],?_⟩;simp only[dg,Ay,gH];exact⟨_,_,rfl,⟨_,rfl,by rw[Array.length_toList];exact hs⟩,rfl⟩
   case slice e=>
    split at hp
    .rename_i qs hq;split at hp
     .rename_i hl;simp only[osI]at hp;subst hp;rcases open_slice hu h with⟨rfl,rfl⟩|⟨a,len,cap,mm,n',Dd,Pl,rfl,hb,hlc,hm,Pv,rfl,hx⟩
      .exact⟨by simp[cJ,aP,gH],by simp[dg,Ay,gH]⟩
      have hlen:len<=mm:=by rw[Pv];split<;>omega
      have hel:∀i,i<len->∃cs',w.cells? 0 (a.add (i*P.cellsOf e)) (P.cellsOf e)=some cs'/\cJ w ok (gH (Dd i)) cs'/\dg qs (gH (Dd i)):=by intro i hi;obtain⟨cs',hc,htr⟩:=hx i (by omega);exact⟨cs',hc,ih _ _ _ _ _ htr hq⟩
      have hfl:gH (.slice ((List.range len).map Dd) ((List.range (mm-len)).map λj=>Dd (len+j)))=[.sl ((List.range len).map λi=>gH (Dd i))]:=by simp[gH,xI,List.map_map,Function.comp_def]
      simp only[hfl];have Yr:dg [.sl qs] [.sl ((List.range len).map λi=>gH (Dd i))]:=by simp only[dg,Ay];refine⟨_,_,rfl,⟨_,rfl,by simp;omega,?_⟩,rfl⟩;intro r hr;obtain⟨i,hi,rfl⟩:=List.mem_map.1 hr;obtain⟨cs',_,_,g⟩:=hel i (by simpa using hi);exact g
      refine⟨?_,Yr⟩;cases len with
      |zero=>simp[cJ,aP]|succ len=>
       have hsp:a.spot=none:=by
        obtain⟨cs',hc,htr⟩:=hel 0 (by omega);obtain⟨_,hl',hcell⟩:=World.cells?_some hc;have h0:=hcell 0 (by omega)
        rw[List.getElem?_eq_getElem (by omega)]at h0;have:=Pu h0
        simpa[Addr.add]using this
       have adg:a.block<w.heap.size:=by
        obtain⟨cs',hc,htr⟩:=hel 0 (by omega);have:=World.cells?_block hc (by omega)
        simpa[Addr.add]using this
       have g:=EN (w:=w) (ok:=ok) (blk:=a.block) (sz:=P.cellsOf e) (len+1) a.off (λi=>gH (Dd i)) (λi hi=>by
        obtain⟨cs',hc,g1,g2⟩:=hel i hi;obtain⟨_,hl',hcell⟩:=World.cells?_some hc;refine⟨g1.row (λj hj=>?_),by rw[g2.length];exact hl.1⟩;have:=hcell j (by omega)
        rw[add_eq hsp,add_eq rfl]at this;exact this)
       simp only[cJ,aP];exact⟨_,_,rfl,⟨some a,cap,by simp,by simp;omega,.inr ⟨a.block,a.off,P.cellsOf e,by cases a;simp_all,hok _ adg,g⟩⟩,rfl⟩
     cases hp
    cases hp
   case struct fs=>
    split at hp
    .rename_i qs hq;split at hp
     .rename_i hl;simp only[osI]at hp;subst hp;obtain⟨xs,m',hm,rfl,U4,hxl,hxs⟩:=DataW.trod_struct hu h;have hf:∀(i:Nat) (f:Field),fs.toList[i]?=some f->DataW.trod enc P w 0 spare held m' f.type ((cs.drop f.offset).take (P.cellsOf f.type))=xs[i]?:=by intro i f hf;exact hxs i f (by simpa using hf)
      obtain⟨g1,g2⟩:=Cz (ok:=ok) (λt cs x ps=>ih m' t cs x ps) fs.toList xs 0 _ hq (by simpa using hxl) hf;simp only[gH];refine⟨?_,g2⟩;have e:(cs.drop 0).take qs.length=cs:=by rw[List.drop_zero,hl,<-U4,List.take_length]
      rwa[e]at g1
     cases hp
    cases hp
   case array k e=>
    split at hp
    .rename_i qs hq;split at hp
     .rename_i hl;simp only[osI]at hp;subst hp;obtain⟨xs,m',hm,rfl,U4,hxl,hxs⟩:=DataW.trod_array hu h;obtain⟨g1,g2⟩:=EO (w:=w) (ok:=ok) (r:=qs) (cs:=cs) k 0 xs hxl (λi x hi=>by
       have hi3:i<xs.length:=(List.getElem?_eq_some_iff.1 hi).1;have:=hxs i (by omega)
       rw[hl.1,Nat.zero_add];rw[hi]at this;exact ih _ _ _ _ _ this hq)
      simp only[gH];refine⟨?_,g2⟩;have e:(cs.drop 0).take (k*qs.length)=cs:=by rw[List.drop_zero,hl.2,<-U4,List.take_length]
      rwa[e]at g1
     cases hp
    cases hp
end
end Dem
end
section
open Go
namespace Dem
section
variable {T:Nat->Option TI}{G:Nat->Option (List D)}{bx aE:List av}
def nj(bx aE:List av):Prop:=∀(i:Nat) (b:av),bx[i]?=some b->b.born=true->aE[i]?=some b
theorem nj.refl (bx:List av):nj bx bx:=λ_ _ h _=>h
theorem RW(h:nj bx aE){x:AV}{y:D}(hx:x.um bx=some y):x.um aE=some y:=by
 cases x with
 |ow b sz n=>
  simp only[AV.um]at hx ⊢;split at hx
  .rename_i s es hb;rw[h _ _ hb rfl];exact hx
  .rename_i s es hb;rw[h _ _ hb rfl];exact hx
  simp at hx
 |fn f cs=>cases cs with
  |nil=>exact hx|cons c cs=>exact hx
 |_=>exact hx
theorem Ob(h:nj bx aE):∀{xs:List AV} {ys:List D},jV bx xs=some ys->jV aE xs=some ys
 |[],ys,hx=>hx|x::xs,ys,hx=>by
  simp only[jV]at hx ⊢;split at hx
  .rename_i y ys' hy hys;rw[RW h hy,Ob h hys];exact hx
  simp at hx
theorem uF(h:nj bx aE){x:AV}{es:List (List D)}(hx:x.rows bx=some es):x.rows aE=some es:=by
 cases x with
 |d y=>cases y<;>exact hx
 |ow b sz n=>
  simp only[AV.rows]at hx ⊢;split at hx
  .rename_i s es hb;rw[h _ _ hb rfl];exact hx
  .rename_i s es hb;rw[h _ _ hb rfl];exact hx
  simp at hx
 |vw b sz off n c ex=>
  simp only[AV.rows]at hx ⊢;split at hx
  .rename_i s es hb;rw[h _ _ hb rfl];exact hx
  .rename_i s es hb;rw[h _ _ hb rfl];exact hx
  simp at hx
 |_=>exact hx
theorem XA(h:nj bx aE){x y:AV}(hx:fz bx x=some y):fz aE x=some y:=by
 cases x with
 |ow b sz n=>simp only[fz,Option.map_eq_some_iff]at hx ⊢;obtain⟨q,h1,h2⟩:=hx;exact⟨q,RW h h1,h2⟩
 |vw b sz off n c ex=>simp only[fz,Option.map_eq_some_iff]at hx ⊢;obtain⟨q,h1,h2⟩:=hx;exact⟨q,uF h h1,h2⟩
 |_=>exact hx
theorem RX(h:nj bx aE):∀{xs ys:List AV},Lm bx xs=some ys->Lm aE xs=some ys
 |[],ys,hx=>hx|x::xs,ys,hx=>by
  simp only[Lm]at hx ⊢;split at hx
  .rename_i y ys' hy hys;rw[XA h hy,RX h hys];exact hx
  simp at hx
theorem Gq(h:nj bx aE):∀{xs ys:List AV},fq bx xs=some ys->fq aE xs=some ys
 |[],ys,hx=>hx|x::xs,ys,hx=>by
  simp only[fq]at hx ⊢;split at hx
  .rename_i y ys' hy hys;have:sJ aE x=some y:=by
    cases x with
    |agg cs=>simp only[sJ,Option.map_eq_some_iff]at hy ⊢;obtain⟨q,h1,h2⟩:=hy;exact⟨q,RX h h1,h2⟩
    |_=>simp only[sJ]at hy ⊢;exact XA h hy
   rw[this,Gq h hys];exact hx
  simp at hx
theorem RY(h:nj bx aE){ti:TI}{a:AV}{r:R}(hx:rX ti a bx=some r):rX ti a aE=some r:=by
 cases a with
 |ptr b off=>
  simp only[rX]at hx ⊢;split at hx
  .rename_i cs hb;rw[h _ _ hb rfl];exact hx
  simp at hx
 |rp b sz i j=>
  simp only[rX]at hx ⊢;split at hx
  .rename_i s es hb;rw[h _ _ hb rfl];exact hx
  .rename_i s es hb;rw[h _ _ hb rfl];exact hx
  simp at hx
 |_=>exact hx
theorem Vm(h:nj bx aE){x v:AV}(hx:BW x bx=some v):BW x aE=some v:=by
 cases x with
 |d y=>cases y<;>exact hx
 |ow b sz n=>
  simp only[BW]at hx ⊢;split at hx
  .rename_i es hr;rw[uF h hr];exact hx
  simp at hx
 |vw b sz off n c ex=>
  simp only[BW]at hx ⊢;split at hx
  .rename_i es hr;rw[uF h hr];exact hx
  simp at hx
 |_=>exact hx
theorem EP(h:nj bx aE){size:Nat}:∀{ps:List (Nat×AV)} {rs:List (List D)},rowsOf bx size ps=some rs->rowsOf aE size ps=some rs
 |[],rs,hx=>hx|(i,v)::r,rs,hx=>by
  simp only[rowsOf]at hx ⊢;split at hx
  .rename_i vs hv;split at hx
   .rename_i ds rs' hd hr;simp only[Ob h hd,EP h hr];exact hx
   simp at hx
  simp at hx
theorem Pw(h:nj bx aE){t:Nat}{x:AV}{lo hi mx:Option Int}{c:Prop}{v:AV}(hx:sI T t x lo hi mx bx=some ⟨c,v,none⟩):sI T t x lo hi mx aE=some ⟨c,v,none⟩:=by
 unfold sI at hx ⊢;split at hx
 .split at hx
  .exact hx
  .split at hx
   .rename_i es te hr hte;simp only[uF h hr,hte];simp only[osI,R.mk.injEq]at hx ⊢;refine⟨hx.1,hx.2.1,?_⟩;have h3:=hx.2.2
    generalize cN _=q at h3 ⊢;cases q<;>simp at h3 ⊢
   simp at hx
  .split at hx
   .have hr:=‹AV.rows bx _=some _›;have hte:=‹T _=some _›
    simp only[uF h hr,hte];simp only[osI,R.mk.injEq]at hx ⊢;refine⟨hx.1,hx.2.1,?_⟩;have h3:=hx.2.2
    generalize cN _=q at h3 ⊢;cases q<;>simp at h3 ⊢
   simp at hx
  .exact hx
  .split at hx
   .split at hx
    .simp at hx
    simp at hx
   simp at hx
  simp at hx
 simp at hx
theorem CA(h:nj bx aE){t n:Nat}{ps:List (Nat×AV)}{c:Prop}{v:AV}(hx:gF T t n ps bx=some ⟨c,v,none⟩):gF T t n ps aE=some ⟨c,v,none⟩:=by
 unfold gF at hx ⊢;split at hx
 .split at hx
  .split at hx
   .rename_i te hte;generalize (Nat.beq ps.length n&&oF 0 ps&&Nat.ble (n*te.size) 16777216&&te.zero.cells?.isSome)=q at hx ⊢;cases q with
    |false=>simp at hx|true=>
     simp only[cond_true]at hx ⊢;split at hx
     .rename_i rs hr;simp only[EP h hr];simp only[osI,R.mk.injEq]at hx ⊢;refine⟨hx.1,hx.2.1,?_⟩;have h3:=hx.2.2
      generalize HW _=q at h3 ⊢;cases q<;>simp at h3 ⊢
     simp at hx
   simp at hx
  simp at hx
 simp at hx
theorem RZ(h:nj bx aE){s d:Nat}{x:AV}{r:R}(hx:Ak T s d x bx=some r):Ak T s d x aE=some r:=by
 unfold Ak at hx ⊢;split at hx
 .split at hx
  .exact hx
  .split at hx
   .rename_i te es hte hr;simp only[uF h hr,hte];exact hx
   simp at hx
  .exact hx
  simp at hx
 simp at hx
theorem xL{t:Nat}{s x:AV}{r:R}(hx:m7 T t s x bx=some r):r.bx≠none:=by
 unfold m7 at hx;split at hx
 .split at hx
  .split at hx
   .rename_i te hte;cases hz:fo te with
    |false=>simp[hz]at hx|true=>
    simp only[hz,cond_true]at hx;split at hx
    .split at hx
     .simp only[osI]at hx;subst hx;simp
     .split at hx
      .simp at hx
      simp only[osI]at hx;subst hx;simp
     .split at hx
      .rename_i b _ _ _ _ _ _;generalize sameBox _ x=q at hx;cases q with
       |true=>simp at hx|false=>simp only[cond_false,osI]at hx;subst hx;simp
      simp at hx
     simp at hx
    simp at hx
   simp at hx
  simp at hx
 simp at hx
theorem IQ{ti:TI}{a v:AV}{r:R}(hx:vP ti a v bx=some r):r.bx≠none:=by
 unfold vP at hx;split at hx
 .simp at hx
 generalize Nat.beq _ _=q at hx;cases q with
 |false=>simp at hx|true=>
 simp only[cond_true]at hx;split at hx
 .split at hx
  .generalize Nat.ble _ _=q at hx;cases q with
   |false=>simp at hx|true=>simp only[cond_true,osI]at hx;subst hx;simp
  simp at hx
 .split at hx
  .split at hx
   .simp only[osI]at hx;subst hx;simp
   simp at hx
  simp at hx
 simp at hx
theorem IS(h:nj bx aE){b:Builtin}{args:List AV}{ats:List Nat}{c:Prop}{v:AV}(hx:jZ T b args ats bx=some ⟨c,v,none⟩):jZ T b args ats aE=some ⟨c,v,none⟩:=by
 unfold jZ at hx ⊢;split at hx
 .split at hx
  .split at hx
   .exact hx
   .exact hx
   .split at hx
    .rename_i v' hl;simp only[Vm h hl];exact hx
    simp at hx
   simp at hx
  simp at hx
 .exact hx
 .exact hx
 .split at hx
  .split at hx
   .simp at hx
   exact absurd rfl (xL hx)
  simp at hx
 simp at hx
theorem LU{te:TI}{n m:Int}{bx:List av}{c:Prop}{v:AV}{b:Option (List av)}(h:HX te n m bx=some ⟨c,v,b⟩):b≠none:=by
 unfold HX at h;split at h
 .cases hz:fo te with
  |false=>simp[hz]at h|true=>simp only[hz,cond_true,osI,R.mk.injEq]at h;obtain⟨_,_,rfl⟩:=h;simp
 simp at h
theorem R3(h:nj bx aE){ev:Operand->AV}{op:Op}{c:Prop}{v:AV}(hx:oH T ev op bx=some ⟨c,v,none⟩):oH T ev op aE=some ⟨c,v,none⟩:=by
 unfold oH at hx ⊢;split at hx
 .exact hx
 .exact hx
 .split at hx
  .exact absurd rfl (LU hx)
  simp at hx
 .split at hx
  .exact hx
  .exact hx
  .split at hx
   .simp only[Et]at hx;split at hx
    .split at hx
     .generalize (Nat.beq _ _&&Nat.beq _ _)=q at hx;cases q<;>simp at hx
     simp at hx
    simp at hx
   simp at hx
  .split at hx
   .simp only[F5]at hx;split at hx
    .split at hx
     .rename_i te _ _ _ _ _ _ _ _ _ _ _ _ _ _ _;cases hq:(Nat.beq _ _&&Nat.beq _ _&&fo _:Bool)<;>rw[hq]at hx<;>simp at hx
     simp at hx
    simp at hx
   simp at hx
  .split at hx
   .split at hx
    .simp only[NT]at hx;split at hx
     .generalize (Nat.beq _ _&&Nat.beq _ _&&fo _&&_)=q at hx;cases q<;>simp at hx
     simp at hx
    simp at hx
   .generalize sameBox _ _=q at hx;cases q with
    |true=>
     simp only[cond_true,uq]at hx;split at hx
     .generalize (Nat.beq _ _&&Nat.beq _ _)=q at hx;cases q<;>simp at hx
     simp at hx
    |false=>
     simp only[cond_false]at hx;split at hx
     .rename_i hap;simp only[osI,R.mk.injEq]at hx;obtain⟨_,_,rfl⟩:=hx;exact absurd rfl (xL hap)
     simp at hx
   simp at hx
  simp at hx
 simp at hx
theorem Vn(h:nj bx aE){ev:Operand->AV}{op:Op}{c:Prop}{v:AV}(hx:m8 T ev op bx=some ⟨c,v,none⟩):m8 T ev op aE=some ⟨c,v,none⟩:=by
 unfold m8 at hx ⊢;split at hx
 .exact hx
 .exact hx
 .split at hx
  .split at hx<;>simp at hx
  simp at hx
 .split at hx<;>simp at hx
 .split at hx
  .exact RY h hx
  simp at hx
 .split at hx
  .exact absurd rfl (IQ hx)
  simp at hx
 .exact hx
 .exact CA h hx
 .exact hx
 .exact hx
 .exact hx
 .exact hx
 .exact hx
 .exact hx
 .exact hx
 .exact RZ h hx
 .split at hx
  .exact Pw h hx
  simp at hx
 .exact hx
 .exact hx
 .exact hx
 .exact hx
 .exact IS h hx
 exact hx
theorem Ys(h:nj bx aE){ev:Operand->AV}{op:Op}{c:Prop}{v:AV}(hx:HM T ev op bx=some ⟨c,v,none⟩):HM T ev op aE=some ⟨c,v,none⟩:=by
 unfold HM at hx ⊢;cases hv:ke ev op with
 |true=>rw[hv,cond_true]at hx;rw[cond_true];exact R3 h hx|false=>rw[hv,cond_false]at hx;rw[cond_false];exact Vn h hx
theorem nI{ev uG:Operand->AV}{x:Option Operand}(h:∀y,x=some y->ev y=uG y):D9 ev x=D9 uG x:=by
 cases x with
 |none=>rfl|some y=>simp only[D9,h y rfl]
theorem LV{ev uG:Operand->AV}{op:Op}(h:∀x∈op.operands.toList,ev x=uG x):m8 T ev op bx=m8 T uG op bx:=by
 have pairs:∀ps:Array (Nat×Operand),(∀x∈(ps.toList.map (·.2)).toArray.toList,ev x=uG x)->(ps.toList.map λp=>(p.1,ev p.2))=(ps.toList.map λp=>(p.1,uG p.2)):=by intro ps hp;refine List.map_congr_left λp hm=>?_;rw[hp p.2 (by simp only[vaI];exact⟨p,hm,rfl⟩)]
 cases op<;>simp only[Op.operands]at h;case build t ps=>simp only[m8,pairs ps h]
 case buildSlice t n ps=>simp only[m8,pairs ps h]
 case makeFunc fn first captured=>cases fn<;>simp only[m8];rw[List.map_congr_left (l:=captured.toList) (f:=ev) (g:=uG) λx hx=>h x (by simp;exact .inr (by simpa using hx)),List.map_congr_left (l:=first.toList) (f:=ev) (g:=uG) λx hx=>h x (by simp;exact .inl (by simpa using hx))]
 case slice t x lo hi mx=>simp only[m8,h x (by simp),nI (x:=lo) (λy hy=>h y (by simp[hy])),nI (x:=hi) (λy hy=>h y (by simp[hy])),nI (x:=mx) (λy hy=>h y (by simp[hy]))]
 case call c=>obtain⟨callee,args,ats⟩:=c;cases callee<;>simp only[m8];rw[List.map_congr_left (f:=ev) (g:=uG) λx hx=>h x (by simp[Call.operands];exact by simpa using hx)]
 all_goals (first|rfl|(simp only[m8];simp_all;done)|(simp_all[m8];done))
theorem Az{ev uG:Operand->AV}{op:Op}(h:∀x∈op.operands.toList,ev x=uG x):ke ev op=ke uG op/\oH T ev op bx=oH T uG op bx:=by
 cases op<;>simp only[Op.operands]at h;case slice t x lo hi mx=>simp only[ke,oH,h x (by simp),nI (x:=lo) (λy hy=>h y (by simp[hy])),nI (x:=hi) (λy hy=>h y (by simp[hy])),nI (x:=mx) (λy hy=>h y (by simp[hy])),and_self]
 case indexAddr t x i=>simp only[ke,oH,h x (by simp),h i (by simp),and_self]
 case makeSlice t x i=>simp only[ke,oH,h x (by simp),h i (by simp),and_self]
 case call c=>
  obtain⟨callee,args,ats⟩:=c;cases callee;case builtin b=>
   have hm:args.toList.map ev=args.toList.map uG:=List.map_congr_left (f:=ev) (g:=uG) λx hx=>h x (by simp[Call.operands];exact by simpa using hx);have hs:∀x∈args.toList,ev x=uG x:=λx hx=>h x (by simp[Call.operands];exact by simpa using hx)
   refine⟨?_,by simp only[oH,hm]⟩;simp only[ke];generalize args.toList=l at hs;split<;>first|rfl|(rw[hs _ (by simp)])
  all_goals exact⟨rfl,rfl⟩
 all_goals exact⟨rfl,rfl⟩
theorem Px{ev uG:Operand->AV}{op:Op}(h:∀x∈op.operands.toList,ev x=uG x):HM T ev op bx=HM T uG op bx:=by unfold HM;rw[(Az (T:=T) (bx:=bx) h).1,(Az (T:=T) (bx:=bx) h).2,LV h]
end
end Dem
end
