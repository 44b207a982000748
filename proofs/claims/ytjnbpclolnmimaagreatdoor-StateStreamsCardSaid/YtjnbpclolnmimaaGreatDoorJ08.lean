/- Parts of a proof, joined. -/
import Derived.Test.YtjnbpclolnmimaaGreatDoorJ07
import Derived.Defers
import Derived.ChangeSame
import Derived.ChangeArms
import Derived.OpenShut
import Derived.WideShapes
import Derived.Deep.Slices
import Derived.Orders
set_option linter.unusedSimpArgs false
set_option linter.unusedVariables false
set_option maxRecDepth 100000
set_option maxHeartbeats 4000000
section
open Go
namespace Dem
section
variable {P:Program} {T:Nat→Option TI} {G:Nat→Option (List D)} {β:Nat→Nat} {bx:List ax} {w:World} {X:Nat→Prop}
theorem eW {n i:Nat} {b:ax} (h:(bx.take n)[i]?=some b):bx[i]?=some b∧i<n:=by
 rw [List.getElem?_take] at h
 split at h
 ·exact ⟨h,by assumption⟩
 simp at h
theorem AQ (n:Nat) (aB:Nat) (h:be β bx w X aB):be β (bx.take n) w X aB:=
 ⟨h.1,h.2.1,fun i b hb hl=>h.2.2 i b (eW hb).1 hl⟩
mutual
theorem mO {n:Nat} {ok ok':Nat→Prop} (h:∀aB,ok aB→ok' aB):∀(x:AV) (v:Value),x.within n=true→ah β bx w ok x v→ah β (bx.take n) w ok' x v
 |.any,_,_,_=>by simp [ah]
 |.d x,v,_,hv=>by simp only [ah] at hv ⊢;exact aK.mono (fun aB hb=>⟨h aB hb,rfl⟩) _ _ hv
 |.k c,v,_,hv=>by simpa [ah] using hv
 |.agg cs,v,hs,hv=>by
  simp only [ah] at hv ⊢;obtain ⟨vs,h1,h2⟩:=hv
  exact ⟨vs,h1,iF h cs vs (by simpa [AV.within] using hs) h2⟩
 |.dF cs,v,hs,hv=>by
  simp only [ah] at hv ⊢;obtain ⟨vs,h1,h2⟩:=hv
  exact ⟨vs,h1,iF h cs vs (by simpa [AV.within] using hs) h2⟩
 |.ptr b off,v,hs,hv=>by
  simp only [ah] at hv ⊢
  have hb:b<n:=by simpa [AV.within,Nat.blt_eq] using hs
  obtain ⟨h1,B,h2,h3⟩:=hv
  exact ⟨h1,B,by rw [List.getElem?_take,if_pos hb];exact h2,h3⟩
 |.Ai b,v,hs,hv=>by
  simp only [ah] at hv ⊢
  have hb:b<n:=by simpa [AV.within,Nat.blt_eq] using hs
  obtain ⟨h1,B,h2,h3⟩:=hv
  exact ⟨h1,B,by rw [List.getElem?_take,if_pos hb];exact h2,h3⟩
 |.rp b sz i j,v,hs,hv=>by
  simp only [ah] at hv ⊢
  have hb:b<n:=by simpa [AV.within,Nat.blt_eq] using hs
  obtain ⟨h1,B,h2,h3⟩:=hv
  exact ⟨h1,B,by rw [List.getElem?_take,if_pos hb];exact h2,h3⟩
 |.ow b sz m,v,hs,hv=>by
  simp only [ah] at hv ⊢
  have hb:b<n:=by simpa [AV.within,Nat.blt_eq] using hs
  obtain ⟨⟨B,h2,h3⟩,h1⟩:=hv
  exact ⟨⟨B,by rw [List.getElem?_take,if_pos hb];exact h2,h3⟩,h1⟩
 |.vw b sz off m c ex,v,hs,hv=>by
  simp only [ah] at hv ⊢
  have hb:b<n:=by simpa [AV.within,Nat.blt_eq] using hs
  obtain ⟨⟨B,h2,h3⟩,h1⟩:=hv
  exact ⟨⟨B,by rw [List.getElem?_take,if_pos hb];exact h2,h3⟩,h1⟩
 |.ep ds,v,_,hv=>by
  simp only [ah] at hv ⊢;obtain ⟨aB,off,h1,h2,h3⟩:=hv
  exact ⟨aB,off,h1,h aB h2,aY.mono (fun aB hb=>⟨h aB hb,rfl⟩) aB (fun _=>rfl) _ _ h3⟩
 |.cl es,v,_,hv=>by
  simp only [ah] at hv ⊢;obtain ⟨base,h1,h2⟩:=hv
  refine ⟨base,h1,h2.imp id ?_⟩
  rintro ⟨aB,off,sz,e1,e2,e3⟩
  exact ⟨aB,off,sz,e1,h aB e2,av.mono (fun aB hb=>⟨h aB hb,rfl⟩) aB sz (fun _=>rfl) _ _ e3⟩
 |.fn f cs,v,hs,hv=>by
  simp only [ah] at hv ⊢;obtain ⟨vs,h1,h2⟩:=hv
  exact ⟨vs,h1,iF h cs vs (by simpa [AV.within] using hs) h2⟩
 |.tC t x,v,hs,hv=>by
  simp only [ah] at hv ⊢;obtain ⟨u,h1,h2⟩:=hv
  exact ⟨u,h1,mO h x u (by simpa [AV.within] using hs) h2⟩
 |.cond p x,v,hs,hv=>by
  simp only [ah] at hv ⊢
  exact ⟨fun hp=>mO h x v (by simpa [AV.within] using hs) (hv.1 hp),hv.2⟩
theorem iF {n:Nat} {ok ok':Nat→Prop} (h:∀aB,ok aB→ok' aB):∀(xs:List AV) (vs:List Value),AV.within.sx n xs=true→aj β bx w ok xs vs→aj β (bx.take n) w ok' xs vs
 |[],vs,_,hv=>by simpa [aj] using hv
 |x::xs,vs,hs,hv=>by
  simp only [aj] at hv ⊢
  obtain ⟨u,us,h1,h2,h3⟩:=hv
  simp only [AV.within.sx,Bool.and_eq_true] at hs
  exact ⟨u,us,h1,mO h x u hs.1 h2,iF h xs us hs.2 h3⟩
end
theorem kY {n:Nat}:∀{bs:List ax} {i:Nat} {cs:List AV},cm n bs=true→bs[i]?=some (.var cs)→AV.within.sx n cs=true
 |[],i,cs,_,hi=>by simp at hi
 |b::bs,0,cs,h,hi=>by
  simp at hi;subst hi
  simp only [cm,Bool.and_eq_true] at h
  exact h.1
 |b::bs,i+1,cs,h,hi=>by
  simp at hi
  refine kY (i:=i) ?_ hi
  cases b<;>simp [cm] at h<;>first|exact h|exact h.2
theorem AR (cx:ct G β bx w X) {n:Nat} (hw:cm n (bx.take n)=true):ct G β (bx.take n) w X:=by
 have hk:∀aB,be β bx w X aB→be β (bx.take n) w X aB:=fun aB h=>AQ n aB h
 have hkeep:jC w w (be β bx w X) (be β (bx.take n) w X):=fun aB hb=>⟨hk aB hb,rfl⟩
 refine ⟨cx.xs,?_,?_,?_,?_⟩
 ·intro g ds hg
  obtain ⟨h1,h2⟩:=cx.Ar g ds hg
  exact ⟨hk g h1,aY.mono hkeep g (fun _=>rfl) _ _ h2⟩
 ·intro i j bi bj hi hj
  exact cx.inj i j bi bj (eW hi).1 (eW hj).1
 ·intro i b hb
  have h:=cx.box i b (eW hb).1
  cases b with
  |var cs=>
   obtain ⟨c,e,h1,h2⟩:=h
   exact ⟨c,e,h1,iF hk cs _ (kY hw hb) h2⟩
  |row sz es=>
   refine h.imp id ?_
   rintro ⟨c,e,h1,h2⟩
   exact ⟨c,e,h1,av.mono hkeep _ _ (fun _=>rfl) _ _ h2⟩
  |oh sz es=>
   refine h.imp id ?_
   rintro ⟨h1,h2⟩
   exact ⟨hk _ h1,av.mono hkeep _ _ (fun _=>rfl) _ _ h2⟩
  |it s p=>exact h
  |mp ag es=>obtain ⟨ms,clock,h1,h2,h3⟩:=h;exact ⟨ms,clock,h1,h2,bp.mono hkeep _ _ _ h3⟩
  |dead=>trivial
  |bA=>trivial
 intro i b hb hl
 exact cx.apart i b (eW hb).1 hl
theorem AS {β0:Nat→Nat} {aE:List ax} {w0:World} (ex:Ext β0 aE w0 β bx w):Ext β0 aE w0 β (bx.take aE.length) w:=by
 refine ⟨ex.os,ex.tape,ex.output,ex.size,ex.block,ex.shape,?_,?_⟩
 ·rintro i ⟨b,hb,dj⟩
  obtain ⟨h1,B,h2,h3⟩:=ex.born i ⟨b,hb,dj⟩
  exact ⟨h1,B,by rw [List.getElem?_take,if_pos (iS hb)];exact h2,h3⟩
 intro i b hb hl
 exact ex.live i b (eW hb).1 hl
theorem Dv (cx:ct G β bx w X) {x y:AV} {u:Value} (hd:JL bx x=some y) (h:ah β bx w (be β bx w X) x u):
 Ext β bx w β (qQ bx x) w∧ct G β (qQ bx x) w X∧ah β (qQ bx x) w (be β (qQ bx x) w X) y u:=by
 cases x with
 |dF cs=>
  simp only [JL,Option.map_eq_some_iff] at hd
  obtain ⟨ys,h1,rfl⟩:=hd
  simp only [ah] at h
  obtain ⟨vs,rfl,hvs⟩:=h
  obtain ⟨g1,g2,g3⟩:=mr cs bx ys vs cx h1 hvs
  exact ⟨g1,g2,by simp only [ah];exact ⟨vs,rfl,g3⟩⟩
 |_=>simp only [JL] at hd;simp only [qQ];exact Dm cx hd h
theorem zX {β0:Nat→Nat} {aE:List ax} {w0:World} (cx:ct G β bx w X) (ex:Ext β0 aE w0 β bx w) {k sz m:Nat} {es:List (List D)} (hn:aE.length≤bx.length) (hw:cm aE.length (bx.take aE.length)=true)
 (hk:(es=[]∧m=0)∨(aE.length≤k∧bx[k]?=some (.row sz es))) {u:Value} (hu:es=[]∧m=0∧(∃base,u=.slice base 0 0)∨ah β bx w (be β bx w X) (.ow k sz m) u):
 ∃β',Ext β0 aE w0 β' (bx.take aE.length++[.row sz es]) w∧ct G β' (bx.take aE.length++[.row sz es]) w X∧
  ah β' (bx.take aE.length++[.row sz es]) w (be β' (bx.take aE.length++[.row sz es]) w X) (.ow aE.length sz m) u:=by
 have hlen:(bx.take aE.length).length=aE.length:=by simp;omega
 have e1:=AS ex
 have c1:=AR cx hw
 have hrow:es≠[]→aE.length≤k∧bx[k]?=some (.row sz es):=fun hne=>hk.resolve_left (fun h=>hne h.1)
 have cr:ax.live (.row sz es)=true→es≠[]:=by intro hl;cases es<;>simp [ax.live] at hl ⊢
 have hold:∀i b,(bx.take aE.length)[i]?=some b→lq β aE.length (β k) i=β i:=by
  intro i b h
  exact cQ _ _ (by have:=(eW h).2;omega)
 have hinv:∀{i b},(bx.take aE.length++[.row sz es])[i]?=some b→((bx.take aE.length)[i]?=some b)∨(i=aE.length∧b=.row sz es):=by
  intro i b h
  rcases bw h with ⟨h1,_⟩|⟨h1,h2⟩
  ·exact .inl h1
  exact .inr ⟨by omega,h2⟩
 have e2:Ext β0 aE w0 (lq β aE.length (β k)) (bx.take aE.length++[.row sz es]) w:=by
  refine ⟨ex.os,ex.tape,ex.output,ex.size,ex.block,ex.shape,?_,?_⟩
  ·intro i hi
   obtain ⟨h1,b,h2,h3⟩:=e1.born i hi
   exact ⟨by rw [hold i b h2];exact h1,b,eB h2,h3⟩
  intro i b h hl
  rcases hinv h with h1|⟨rfl,rfl⟩
  ·rw [hold i b h1];exact e1.live i b h1 hl
  rw [bt];exact ex.live k _ (hrow (cr hl)).2 hl
 have hok:∀aB,be β bx w X aB→be (lq β aE.length (β k)) (bx.take aE.length++[.row sz es]) w X aB:=by
  rintro aB ⟨k1,k2,k3⟩
  refine ⟨k1,k2,?_⟩
  intro i b h hl
  rcases hinv h with h1|⟨rfl,rfl⟩
  ·rw [hold i b h1];exact k3 i b (eW h1).1 hl
  rw [bt];exact k3 k _ (hrow (cr hl)).2 hl
 have hkeep:jC w w (be β bx w X) (be (lq β aE.length (β k)) (bx.take aE.length++[.row sz es]) w X):=fun aB hb=>⟨hok aB hb,rfl⟩
 have rj:tI β (bx.take aE.length) w (be β bx w X) (lq β aE.length (β k)) (bx.take aE.length++[.row sz es]) w (be (lq β aE.length (β k)) (bx.take aE.length++[.row sz es]) w X):=by
  refine ⟨hkeep,?_,fun _ c _ _ h=>⟨c,h,rfl⟩⟩
  rintro i ⟨b,hb,h3⟩
  exact ⟨hold i b hb,b,eB hb,h3⟩
 refine ⟨_,e2,⟨cx.xs,?_,?_,?_,?_⟩,?_⟩
 ·intro g ds hg
  obtain ⟨h1,h2⟩:=cx.Ar g ds hg
  exact ⟨hok g h1,aY.mono hkeep g (fun _=>rfl) _ _ h2⟩
 ·intro i j bi bj hi hj oc qB he
  rcases hinv hi with h1|⟨rfl,rfl⟩<;>rcases hinv hj with h2|⟨rfl,rfl⟩
  ·rw [hold i bi h1,hold j bj h2] at he
   exact c1.inj i j bi bj h1 h2 oc qB he
  ·rw [hold i bi h1,bt] at he
   obtain ⟨r1,r2⟩:=hrow (cr qB)
   have:=cx.inj i k bi _ (eW h1).1 r2 oc qB he
   have:=(eW h1).2;omega
  ·rw [hold j bj h2,bt] at he
   obtain ⟨r1,r2⟩:=hrow (cr oc)
   have:=cx.inj k j _ bj r2 (eW h2).1 oc qB he
   have:=(eW h2).2;omega
  rfl
 ·intro i b hb
  rcases hinv hb with h1|⟨rfl,rfl⟩
  ·rw [hold i b h1]
   have h:=cx.box i b (eW h1).1
   cases b with
   |var cs=>
    obtain ⟨c,e,g1,g2⟩:=h
    exact ⟨c,e,g1,aj.mono rj _ _ (iF (fun _ hb=>hb) cs _ (kY hw h1) g2)⟩
   |row sz es=>
    refine h.imp id ?_
    rintro ⟨c,e,g1,g2⟩
    exact ⟨c,e,g1,av.mono hkeep _ _ (fun _=>rfl) _ _ g2⟩
   |oh sz es=>
    refine h.imp id ?_
    rintro ⟨g1,g2⟩
    exact ⟨hok _ g1,av.mono hkeep _ _ (fun _=>rfl) _ _ g2⟩
   |it s p=>exact h
   |mp ag es=>obtain ⟨ms,clock,h1,h2,h3⟩:=h;exact ⟨ms,clock,h1,h2,bp.mono hkeep _ _ _ h3⟩
   |dead=>trivial
   |bA=>trivial
  rw [bt]
  by_cases hne:es=[]
  ·exact .inl hne
  have h:=cx.box k _ (hrow hne).2
  refine h.imp id ?_
  rintro ⟨c,e,g1,g2⟩
  exact ⟨c,e,g1,av.mono hkeep _ _ (fun _=>rfl) _ _ g2⟩
 ·intro i b hb hl
  rcases hinv hb with h1|⟨rfl,rfl⟩
  ·rw [hold i b h1];exact cx.apart i b (eW h1).1 hl
  rw [bt];exact cx.apart k _ (hrow (cr hl)).2 hl
 simp only [ah]
 refine ⟨⟨.row sz es,by rw [List.getElem?_append_right (by omega)];simp [hlen],rfl⟩,?_⟩
 rw [bt]
 rcases hu with ⟨_,rfl,base,rfl⟩|hu
 ·exact .inl ⟨rfl,base,rfl⟩
 simp only [ah] at hu
 exact hu.2
theorem kN:∀(ks:List Bool) (bs:List ax) (i:Nat) (b':ax),(kill ks bs)[i]?=some b'→∃b,bs[i]?=some b∧(b'=b∨(b'=.dead∧b.born=true))
 |[],bs,i,b',h=>⟨b',by simpa [kill] using h,.inl rfl⟩
 |_::_,[],i,b',h=>by simp [kill] at h
 |k::ks,b::bs,0,b',h=>by
  simp only [kill,List.getElem?_cons_zero,Option.some.injEq] at h
  refine ⟨b,rfl,?_⟩
  cases hk:(k&&b.born) with
  |false=>rw [hk] at h;exact .inl h.symm
  |true=>rw [hk] at h;simp at hk;exact .inr ⟨h.symm,hk.2⟩
 |k::ks,b::bs,i+1,b',h=>by
  simp only [kill,List.getElem?_cons_succ] at h
  obtain ⟨b0,h1,h2⟩:=kN ks bs i b' h
  exact ⟨b0,by simpa using h1,h2⟩
theorem G1:∀(ks:List Bool) (bs:List ax) (i:Nat) (b:ax),bs[i]?=some b→∃b',(kill ks bs)[i]?=some b'∧(b'=b∨(b'=.dead∧b.born=true))
 |[],bs,i,b,h=>⟨b,by simpa [kill] using h,.inl rfl⟩
 |_::_,[],i,b,h=>by simp at h
 |k::ks,b0::bs,0,b,h=>by
  simp only [List.getElem?_cons_zero,Option.some.injEq] at h
  subst h
  refine ⟨_,by simp only [kill,List.getElem?_cons_zero];rfl,?_⟩
  cases hk:(k&&b0.born) with
  |false=>exact .inl rfl
  |true=>simp at hk;exact .inr ⟨rfl,hk.2⟩
 |k::ks,b0::bs,i+1,b,h=>by
  simp only [List.getElem?_cons_succ] at h
  obtain ⟨b',h1,h2⟩:=G1 ks bs i b h
  exact ⟨b',by simpa only [kill,List.getElem?_cons_succ] using h1,h2⟩
theorem Mo (ks:List Bool) (cx:ct G β bx w X):Ext β bx w β (kill ks bx) w∧ct G β (kill ks bx) w X:=by
 have ex:Ext β bx w β (kill ks bx) w:=by
  refine ⟨rfl,rfl,rfl,Nat.le_refl _,fun _ _ _=>rfl,fun k c e f h=>⟨c,h,rfl⟩,?_,?_⟩
  ·rintro i ⟨b,h1,h2⟩
   obtain ⟨b',h3,h4⟩:=G1 ks bx i b h1
   refine ⟨rfl,b',h3,?_⟩
   rcases h4 with rfl|⟨rfl,_⟩
   ·exact h2
   rfl
  intro i b h1 h2
  obtain ⟨b0,h3,h4⟩:=kN ks bx i b h1
  rcases h4 with rfl|⟨rfl,_⟩
  ·exact .inr ⟨i,b,h3,h2,rfl⟩
  simp [ax.live] at h2
 refine ⟨ex,cx.step ex ?_ ?_⟩
 ·intro i b h1
  obtain ⟨b0,h3,h4⟩:=kN ks bx i b h1
  rcases h4 with rfl|⟨rfl,_⟩
  ·exact .inl ⟨h3,fun _=>rfl⟩
  exact .inr trivial
 intro i j bi bj h1 h2 l1 l2 he
 obtain ⟨b1,h3,h4⟩:=kN ks bx i bi h1
 obtain ⟨b2,h5,h6⟩:=kN ks bx j bj h2
 rcases h4 with rfl|⟨rfl,_⟩
 ·rcases h6 with rfl|⟨rfl,_⟩
  ·exact cx.inj i j _ _ h3 h5 l1 l2 he
  simp [ax.live] at l2
 simp [ax.live] at l1
def ET (tmps:Array Value) (r:ResultVar):Sem Value:=
 match r with
 |.tmp t=>pure (tmps.getD t undef)
 |.cell a t=>do loadVar t (←asAddr (tmps.getD a undef))
theorem Kb (fn:Func) (tmps:Array Value):results fn tmps=(do let vs ←fn.results.mapM (ET tmps);pure (if h:vs.size=1 then vs[0] else .tuple vs)):=rfl
theorem AT (hT:iH P T) {N:Nat} {ds:List Deferred} {s:St} {a:Act} (hF:Fr G N ds β w X s a):∀(rs:List ResultVar) {c:Prop} {vs:List AV},u7 T s.sl s.bx rs=some (c,vs)→c→
 ∃us:List Value,(rs.mapM (ET a.tmps)).run P w=.ok us w∧aj β s.bx w (be β s.bx w X) vs us
 |[],c,vs,h,_=>by
  simp [u7] at h
  obtain ⟨_,rfl⟩:=h
  exact ⟨[],by simp,by simp [aj]⟩
 |.tmp t::r,c,vs,h,hc=>by
  simp only [u7] at h
  split at h
  ·rename_i c' vs' h'
   simp only [Option.some.injEq,Prod.mk.injEq] at h
   obtain ⟨rfl,rfl⟩:=h
   obtain ⟨us,g1,g2⟩:=AT hT hF r h' hc.2
   refine ⟨a.tmps.getD t undef::us,?_,?_⟩
   ·rw [List.mapM_cons]
    simp only [Sem.run_bind,g1,ET,Sem.run_pure,Result.andThen_ok]
   simp only [aj];exact ⟨_,_,rfl,iE (hF.xz t) hc.1,g2⟩
  simp at h
 |.cell t ty::r,c,vs,h,hc=>by
  simp only [u7] at h
  split at h
  ·rename_i ti c' vs' Wt h'
   split at h
   ·rename_i b o hl
    split at h
    ·rename_i c2 v b2 hld
     simp only [Option.some.injEq,Prod.mk.injEq] at h
     obtain ⟨rfl,rfl⟩:=h
     obtain ⟨us,g1,g2⟩:=AT hT hF r h' hc.2
     have hp:=hF.xz t
     rw [hl] at hp
     obtain ⟨_,x,k1,k2⟩:=As (P:=P) hT hF.cx Wt hp hld hc.1
     simp only [ah] at hp
     rw [hp.1] at k1
     refine ⟨x::us,?_,?_⟩
     ·rw [List.mapM_cons]
      have:(loadVar ty ⟨β b,o,none⟩).run P w=.ok x w:=by simpa [Instr.loadAt,Instr.sureAddr] using k1
      simp only [Sem.run_bind,ET,hp.1,asAddr,Sem.run_pure,Result.andThen_ok,this,g1]
     simp only [aj];exact ⟨_,_,rfl,k2,g2⟩
    simp at h
   simp at h
  simp at h
theorem yP (hT:iH P T) {N:Nat} {ds:List Deferred} {s:St} {a:Act} (hF:Fr G N ds β w X s a) {fn:Func} {c:Prop} {vs:List AV} (h:u7 T s.sl s.bx fn.results.toList=some (c,vs)) (hc:c):
 ∃u,(results fn a.tmps).run P w=.ok u w∧ah β s.bx w (be β s.bx w X) (oq vs) u:=by
 obtain ⟨us,g1,g2⟩:=AT hT hF _ h hc
 have hlen:=aj.length g2
 rw [Kb,Array.mapM_eq_mapM_toList]
 simp [g1]
 split
 ·rename_i h1
  match us,vs,h1,hlen,g2 with
  |[u],[v],_,_,g2=>
   simp only [aj,List.cons.injEq] at g2
   obtain ⟨_,_,⟨rfl,rfl⟩,h,_⟩:=g2
   exact h
 rename_i h1
 have:oq vs=.dF vs:=by
  match vs,hlen with
  |[],_=>rfl
  |[v],hl=>exact absurd hl h1
  |_::_::_,_=>rfl
 rw [this];simp only [ah];exact ⟨us,rfl,g2⟩
theorem AU:∀(args:List AV) (i t:Nat),fY t (gA i args)=if i≤t then args.getD (t-i) .any else .any
 |[],i,t=>by simp [gA,fY]
 |x::xs,i,t=>by
  simp only [gA,fY,AU xs (i+1) t]
  by_cases h:t=i
  ·subst h;simp
  rw [Wr h]
  simp only [cond_false]
  by_cases h2:i≤t
  ·rw [if_pos (by omega),if_pos h2,show t-i=(t-(i+1))+1 by omega];simp
  rw [if_neg (by omega),if_neg h2]
theorem AW (hT:iH P T) {f N:Nat} {fn:Func} {c:Code} {args:List AV} {aE aG:List ax} {res:fm}
 (hN:fn.ntmps=N) (hlen:Nat.ble args.length N=true)
 (h:∀(β:Nat→Nat) (w:World) (X:Nat→Prop) (a:Act),Fr G N [] β w X ⟨gA 0 args,aE⟩ a→c.wp P (ee G N [] X β aE w (Df T fn.results.toList aE.length res aG)) a w)
 (β:Nat→Nat) (w:World) (vs:List Value) (X:Nat→Prop) (cx:ct G β aE w X) (hx:aj β aE w (be β aE w X) args vs):
 c.wp P (bodyPost P fn fun e w'=>∃β',Ext β aE w β' aG w'∧ct G β' aG w' X∧fC β' aG w' (be β' aG w' X) res e) {tmps:=(⟨vs⟩:Array Value)++Array.replicate (fn.ntmps-(⟨vs⟩:Array Value).size) undef,defers:=[]} w:=by
 have hl:=aj.length hx
 have hle:args.length≤N:=Nat.le_of_ble_eq_true hlen
 refine wp_mono (h β w X _ ⟨cx,rfl,?_,?_⟩) ?_
 ·simp [hN,hl];omega
 ·intro t
  rw [AU]
  simp only [Nat.zero_le,if_true,Nat.sub_zero]
  by_cases ht:t<args.length
  ·obtain ⟨v,k1,k2⟩:=aj.get t args[t] hx (by simp [ht])
   have e1:args.getD t .any=args[t]:=by simp [List.getD_eq_getElem?_getD,ht]
   rw [e1]
   have hv:t<vs.length:=by omega
   have e2:vs[t]=v:=by rw [List.getElem?_eq_getElem hv] at k1;simpa using k1
   have e3:(({toList:=vs}:Array Value)++Array.replicate (fn.ntmps-(⟨vs⟩:Array Value).size) undef).getD t undef=v:=by
    simp [Array.getD_eq_getD_getElem?,Array.getElem?_append,hv,e2]
   rw [e3];exact k2
  simp [List.getD_eq_getElem?_getD,List.getElem?_eq_none (Nat.le_of_not_lt ht),ah]
 intro e a' w' oe
 have fin:∀β' s,Ext β aE w β' s.bx w'→Fr G N [] β' w' X s a'→(match u7 T s.sl s.bx fn.results.toList with
  |some (c,vs)=>PE aE.length c (oq vs) s.bx res aG
  |none=>False)→a'.defers=[]∧∃v,(results fn a'.tmps).run P w'=.ok v w'∧∃β',Ext β aE w β' aG w'∧ct G β' aG w' X∧fC β' aG w' (be β' aG w' X) res (.returned v):=by
  intro β' s ex hF hq
  split at hq
  ·rename_i c vs' hres
   obtain ⟨hc,hq⟩:=hq
   obtain ⟨u,k1,k2⟩:=yP hT hF hres hc
   refine ⟨hF.defers,u,k1,?_⟩
   rcases hq with ⟨rfl,rfl⟩|⟨ks,y,q1,q2,rfl,q3,rfl⟩|⟨k,sz,m,es,q0,q1,q2,q3,q4,rfl,rfl⟩|⟨sz,q0,q1,q2,rfl,rfl⟩
   ·exact ⟨β',ex,hF.cx,k2⟩
   ·obtain ⟨e1,c1,r1⟩:=Dv hF.cx q1 k2
    obtain ⟨e2,c2⟩:=Mo ks c1
    exact ⟨β',AS ((ex.trans e1).trans e2),AR c2 q3,mO (fun aB hb=>AQ _ aB hb) y u q2 (ah.mono (e2.dQ X) _ _ r1)⟩
   ·rw [q0] at k2
    exact zX hF.cx ex q3 q4 (.inr ⟨q2,q1⟩) (.inr k2)
   rw [q0] at k2
   simp only [ah,List.length_nil] at k2
   obtain ⟨base,k2,_⟩:=k2
   exact zX (k:=0) hF.cx ex q1 q2 (.inl ⟨rfl,rfl⟩) (.inl ⟨rfl,rfl,base,k2⟩)
  exact hq.elim
 cases e<;>simp only [ee,bodyPost] at oe ⊢
 ·obtain ⟨β',s,h1,h2,h3⟩:=oe;exact fin β' s h1 h2 h3
 ·obtain ⟨β',s,h1,h2,h3⟩:=oe;exact h3.elim
 ·obtain ⟨β',s,h1,h2,h3⟩:=oe;exact fin β' s h1 h2 h3
 obtain ⟨β',iG,v,u,h1,h2,h3,h4,h5,h6⟩:=oe
 obtain ⟨rfl,rfl⟩:=h6.ok
 exact ⟨h5,β',h2,h3,u,h1,h4⟩
theorem vA (hT:iH P T) {f N:Nat} {fn:Func} {c:Code} {args:List AV} {aE aG:List ax} {res:fm} (hf:P.funcs[f]?=some fn) (hb:fn.body=some c)
 (hname:(fn.name== "runtime.NumGoroutine")=false) (hN:fn.ntmps=N) (hlen:Nat.ble args.length N=true)
 (h:∀(β:Nat→Nat) (w:World) (X:Nat→Prop) (a:Act),Fr G N [] β w X ⟨gA 0 args,aE⟩ a→c.wp P (ee G N [] X β aE w (Df T fn.results.toList aE.length res aG)) a w):bg P G f args aE res aG:=by
 intro β w vs X cx hx
 refine .inl ⟨?_,calls_of_wp hf hb (AW (f:=f) hT hN hlen h β w vs X cx hx)⟩
 simp [callFunc,run_program,hf,hb]
 simpa using hname
def AX (P:Program) (G:Nat→Option (List D)) (f:Nat) (args:List AV) (bx:List ax) (res:fm) (aG:List ax):Prop:=
 ∀(β:Nat→Nat) (w:World) (vs:List Value) (X:Nat→Prop),ct G β bx w X→aj β bx w (be β bx w X) args vs→(callFunc f ⟨vs⟩).run P w=.ok (.enter f ⟨vs⟩) w∧
  ∀u,CallsD P f ⟨vs⟩ u w fun e u' w'=>u'=u∧∃β',Ext β bx w β' aG w'∧ct G β' aG w' X∧fC β' aG w' (be β' aG w' X) res e
theorem EU (hT:iH P T) {f N:Nat} {fn:Func} {c:Code} {args:List AV} {aE aG:List ax} {res:fm} (hf:P.funcs[f]?=some fn) (hb:fn.body=some c)
 (hname:(fn.name== "runtime.NumGoroutine")=false) (hN:fn.ntmps=N) (hlen:Nat.ble args.length N=true)
 (h:∀(β:Nat→Nat) (w:World) (X:Nat→Prop) (a:Act),Fr G N [] β w X ⟨gA 0 args,aE⟩ a→c.wp P (ee G N [] X β aE w (Df T fn.results.toList aE.length res aG)) a w):AX P G f args aE res aG:=by
 intro β w vs X cx hx
 refine ⟨?_,fun u=>callsD_of_wp hf hb (AW (f:=f) hT hN hlen h β w vs X cx hx)⟩
 simp [callFunc,run_program,hf,hb]
 simpa using hname
end
end Dem
end
section
open Go Go.Deep
namespace Dem
inductive PT where
 |bool
 |int (k:IntKind)
 |str
 |sl (es:List PT)
def P6 (r:TypeId→Option (List PT)) (sz:TypeId→Nat):List Field→Nat→Option (List PT)
 |[],_=>some []
 |f::fs,off=>if f.offset=off then match r f.type,P6 r sz fs (off+sz f.type) with
  |some a,some b=>if a.length=sz f.type then some (a++b) else none
  |_,_=>none else none
def G2 (P:Program):Nat→TypeId→Option (List PT)
 |0,_=>none
 |n+1,t=>match P.underlying t with
  |some .bool=>some [.bool]
  |some (.int k)=>some [.int k]
  |some .string=>some [.str]
  |some (.slice e)=>match G2 P n e with
   |some ps=>if ps.length=P.cellsOf e∧0<ps.length then some [.sl ps] else none
   |none=>none
  |some (.struct fs)=>match P6 (G2 P n) P.cellsOf fs.toList 0 with
   |some ps=>if ps.length=P.cellsOf t then some ps else none
   |none=>none
  |some (.array k e)=>match G2 P n e with
   |some ps=>if ps.length=P.cellsOf e∧k*ps.length=P.cellsOf t then some (List.replicate k ps).flatten else none
   |none=>none
  |_=>none
mutual
def rm:PT→D→Prop
 |.bool,d=>∃b,d=.bool b
 |.int k,d=>∃n,d=.int k n∧(Lit.int k n).wf=true
 |.str,d=>∃s:List UInt8,d=.str s∧s.length≤maxLen
 |.sl ps,d=>∃es:List (List D),d=.sl es∧es.length≤maxLen∧∀r∈es,cG ps r
def cG:List PT→List D→Prop
 |[],ds=>ds=[]
 |p::ps,ds=>∃d r,ds=d::r∧rm p d∧cG ps r
end
theorem cG.length:∀{ps:List PT} {ds:List D},cG ps ds→ds.length=ps.length
 |[],ds,h=>by simp only [cG] at h;subst h;rfl
 |p::ps,ds,h=>by
  simp only [cG] at h
  obtain ⟨d,r,rfl,_,h2⟩:=h
  simp [cG.length h2]
theorem cG.append:∀{ps qs:List PT} {ds es:List D},cG ps ds→cG qs es→cG (ps++qs) (ds++es)
 |[],qs,ds,es,h,g=>by simp only [cG] at h;subst h;exact g
 |p::ps,qs,ds,es,h,g=>by
  simp only [cG] at h
  obtain ⟨d,r,rfl,h1,h2⟩:=h
  simp only [List.cons_append,cG]
  exact ⟨d,r++es,rfl,h1,h2.append g⟩
theorem cq.append {w:World} {ok:Nat→Prop}:∀{ds es:List D} {vs us:List Value},cq w ok ds vs→cq w ok es us→cq w ok (ds++es) (vs++us)
 |[],es,vs,us,h,g=>by simp only [cq] at h;subst h;exact g
 |d::ds,es,vs,us,h,g=>by
  simp only [cq] at h
  obtain ⟨v,r,rfl,h1,h2⟩:=h
  simp only [List.cons_append,cq]
  exact ⟨v,r++us,rfl,h1,h2.append g⟩
theorem cq.row {w:World} {ok:Nat→Prop} {aB:Nat}:∀{ds:List D} {vs:List Value} {off:Nat},cq w ok ds vs→(∀i,i<vs.length→w.cell? ⟨aB,off+i,none⟩=vs[i]?)→aY w ok aB ds off
 |[],_,_,_,_=>by simp [aY]
 |d::ds,vs,off,h,hc=>by
  simp only [cq] at h
  obtain ⟨v,r,rfl,h1,h2⟩:=h
  simp only [aY]
  refine ⟨⟨v,by simpa using hc 0 (by simp),h1⟩,h2.row fun i hi=>?_⟩
  have:=hc (i+1) (by simp;omega)
  simpa [Nat.add_assoc,Nat.add_comm 1 i] using this
mutual
def fI {H:Type}:DataW H→List D
 |.lit (.bool b)=>[.bool b]
 |.lit (.int k n)=>[.int k n]
 |.lit (.string s)=>[.str s]
 |.nil=>[.sl []]
 |.slice elems _=>[.sl (vB elems)]
 |.agg parts=>ij parts
 |_=>[]
def vB {H:Type}:List (DataW H)→List (List D)
 |[]=>[]
 |d::r=>fI d::vB r
def ij {H:Type}:List (DataW H)→List D
 |[]=>[]
 |d::r=>fI d++ij r
end
theorem vC {H:Type}:∀l:List (DataW H),vB l=l.map fI
 |[]=>rfl
 |d::r=>by simp [vB,vC r]
theorem Dw {w:World} {ok:Nat→Prop} {aB sz:Nat}:∀(n off:Nat) (f:Nat→List D),(∀i,i<n→aY w ok aB (f i) (off+i*sz)∧(f i).length=sz)→av w ok aB sz ((List.range n).map f) off
 |0,off,_,_=>by simp [av]
 |n+1,off,f,h=>by
  obtain ⟨h1,h2⟩:=h 0 (by omega)
  rw [List.range_succ_eq_map,List.map_cons,List.map_map]
  simp only [av]
  refine ⟨h2,by simpa using h1,Dw n (off+sz) _ fun i hi=>?_⟩
  obtain ⟨k1,k2⟩:=h (i+1) (by omega)
  rw [show off+sz+i*sz=off+(i+1)*sz by rw [Nat.succ_mul];omega]
  exact ⟨k1,k2⟩
theorem Nz {w:World} {a:Addr} {v:Value} (h:w.cell? a=some v):a.spot=none:=by
 unfold World.cell? at h
 split at h
 ·split at h
  ·cases h
  rename_i hs;simpa using hs
 cases h
theorem add_eq {a:Addr} (h:a.spot=none) (n:Nat):a.add n=⟨a.block,a.off+n,none⟩:=by
 unfold Addr.add
 split
 ·rename_i h0;subst h0;cases a;simp_all
 rfl
theorem AY {α:Type} (cs:List α) (off a b:Nat):(cs.drop off).take (a+b)=(cs.drop off).take a++(cs.drop (off+a)).take b:=by
 rw [List.take_add,List.drop_drop]
section
variable {H:Type} {enc:TypeId×Value→H} {P:Program} {w:World} {spare:Nat→Bool} {held:Bool} {ok:Nat→Prop}
theorem AZ {r:TypeId→Option (List PT)} {n:Nat} {cs:List Value} (hr:∀t cs x ps,DataW.trod enc P w 0 spare held n t cs=some x→r t=some ps→cq w ok (fI x.1) cs∧cG ps (fI x.1)):
 ∀(fs:List Field) (xs:List (DataW H×List MemPlace)) (off:Nat) (ps:List PT),P6 r P.cellsOf fs off=some ps→xs.length=fs.length→
  (∀(i:Nat) (f:Field),fs[i]?=some f→DataW.trod enc P w 0 spare held n f.type ((cs.drop f.offset).take (P.cellsOf f.type))=xs[i]?)→
  cq w ok (ij (xs.map (·.1))) ((cs.drop off).take ps.length)∧cG ps (ij (xs.map (·.1)))
 |[],xs,off,ps,h,hl,_=>by
  simp only [P6,Option.some.injEq] at h;subst h
  obtain rfl:xs=[]:=by simpa using hl
  exact ⟨by simp [cq,ij],by simp [cG,ij]⟩
 |f::fs,[],off,ps,h,hl,hx=>by simp at hl
 |f::fs,x::xs,off,ps,h,hl,hx=>by
  simp only [P6] at h
  split at h
  ·rename_i ho
   split at h
   ·rename_i a b ha hb
    split at h
    ·rename_i hla
     simp only [Option.some.injEq] at h;subst h
     have hx0:=hx 0 f rfl
     obtain ⟨g1,g2⟩:=hr _ _ _ _ (by simpa using hx0) ha
     obtain ⟨k1,k2⟩:=AZ hr fs xs _ b hb (by simpa using hl) (fun i f hf=>by simpa using hx (i+1) f (by simpa using hf))
     rw [List.length_append,AY]
     rw [ho,←hla] at g1
     rw [←hla] at k1
     simp only [List.map_cons,ij]
     exact ⟨g1.append k1,g2.append k2⟩
    cases h
   cases h
  cases h
theorem Dx {r:List PT} {cs:List Value}:∀(k off:Nat) (xs:List (DataW H×List MemPlace)),xs.length=k→(∀i x,xs[i]?=some x→cq w ok (fI x.1) ((cs.drop (off+i*r.length)).take r.length)∧cG r (fI x.1))→
 cq w ok (ij (xs.map (·.1))) ((cs.drop off).take (k*r.length))∧cG (List.replicate k r).flatten (ij (xs.map (·.1)))
 |0,off,xs,hl,_=>by
  obtain rfl:xs=[]:=by simpa using hl
  exact ⟨by simp [cq,ij],by simp [cG,ij]⟩
 |k+1,off,[],hl,h=>by simp at hl
 |k+1,off,x::xs,hl,h=>by
  obtain ⟨g1,g2⟩:=h 0 x rfl
  obtain ⟨k1,k2⟩:=Dx (r:=r) (cs:=cs) k (off+r.length) xs (by simpa using hl) (fun i x hx=>by
   obtain ⟨k1,k2⟩:=h (i+1) x (by simpa using hx)
   rw [show off+r.length+i*r.length=off+(i+1)*r.length by rw [Nat.succ_mul];omega]
   exact ⟨k1,k2⟩)
  rw [show (k+1)*r.length=r.length+k*r.length by rw [Nat.succ_mul];omega,AY,List.replicate_succ,List.flatten_cons]
  simp only [List.map_cons,ij]
  exact ⟨cq.append (by simpa using g1) k1,g2.append k2⟩
theorem oB (hok:∀aB,aB<w.heap.size→ok aB):
 ∀(n m:Nat) (t:TypeId) (cs:List Value) (x:DataW H×List MemPlace) (ps:List PT),DataW.trod enc P w 0 spare held m t cs=some x→G2 P n t=some ps→cq w ok (fI x.1) cs∧cG ps (fI x.1)
 |0,_,_,_,_,_,_,h=>by simp [G2] at h
 |n+1,m,t,cs,x,ps,h,hp=>by
  have ih:=oB hok n
  rw [G2] at hp
  cases hu:P.underlying t with
  |none=>simp [hu] at hp
  |some d=>
   simp only [hu] at hp
   cases d<;>(try (cases hp;done))<;>simp only at hp
   case bool=>
    simp only [Option.some.injEq] at hp;subst hp
    obtain ⟨b,rfl,rfl⟩:=DataW.trod_bool hu h
    exact ⟨by simp [cq,aK,fI],by simp [cG,rm,fI]⟩
   case int k=>
    simp only [Option.some.injEq] at hp;subst hp
    obtain ⟨z,rfl,rfl,hw⟩:=DataW.trod_int hu h
    exact ⟨by simp [cq,aK,fI],by simpa [cG,rm,fI] using hw⟩
   case string=>
    simp only [Option.some.injEq] at hp;subst hp
    obtain ⟨s,rfl,rfl,hs⟩:=DataW.trod_string hu h
    refine ⟨by simp [cq,aK,fI],?_⟩
    simp only [cG,rm,fI]
    exact ⟨_,_,rfl,⟨_,rfl,by rw [Array.length_toList];exact hs⟩,rfl⟩
   case slice e=>
    split at hp
    ·rename_i qs hq
     split at hp
     ·rename_i hl
      simp only [Option.some.injEq] at hp;subst hp
      rcases open_slice hu h with ⟨rfl,rfl⟩|⟨a,len,cap,mm,n',Dd,Pl,rfl,hb,hlc,hm,NA,rfl,hx⟩
      ·exact ⟨by simp [cq,aK,fI],by simp [cG,rm,fI]⟩
      have hlen:len≤mm:=by rw [NA];split<;>omega
      have hel:∀i,i<len→∃cs',w.cells? 0 (a.add (i*P.cellsOf e)) (P.cellsOf e)=some cs'∧cq w ok (fI (Dd i)) cs'∧cG qs (fI (Dd i)):=by
       intro i hi
       obtain ⟨cs',hc,Yf⟩:=hx i (by omega)
       exact ⟨cs',hc,ih _ _ _ _ _ Yf hq⟩
      have hfl:fI (.slice ((List.range len).map Dd) ((List.range (mm-len)).map fun j=>Dd (len+j)))=[.sl ((List.range len).map fun i=>fI (Dd i))]:=by
       simp [fI,vC,List.map_map,Function.comp_def]
      simp only [hfl]
      have Wt:cG [.sl qs] [.sl ((List.range len).map fun i=>fI (Dd i))]:=by
       simp only [cG,rm]
       refine ⟨_,_,rfl,⟨_,rfl,by simp;omega,?_⟩,rfl⟩
       intro r hr
       obtain ⟨i,hi,rfl⟩:=List.mem_map.1 hr
       obtain ⟨cs',_,_,g⟩:=hel i (by simpa using hi)
       exact g
      refine ⟨?_,Wt⟩
      cases len with
      |zero=>simp [cq,aK]
      |succ len=>
       have hsp:a.spot=none:=by
        obtain ⟨cs',hc,Yf⟩:=hel 0 (by omega)
        obtain ⟨_,hl',hcell⟩:=World.cells?_some hc
        have h0:=hcell 0 (by omega)
        rw [List.getElem?_eq_getElem (by omega)] at h0
        have:=Nz h0
        simpa [Addr.add] using this
       have aa2:a.block<w.heap.size:=by
        obtain ⟨cs',hc,Yf⟩:=hel 0 (by omega)
        have:=World.cells?_block hc (by omega)
        simpa [Addr.add] using this
       have g:=Dw (w:=w) (ok:=ok) (aB:=a.block) (sz:=P.cellsOf e) (len+1) a.off (fun i=>fI (Dd i)) (fun i hi=>by
        obtain ⟨cs',hc,g1,g2⟩:=hel i hi
        obtain ⟨_,hl',hcell⟩:=World.cells?_some hc
        refine ⟨g1.row (fun j hj=>?_),by rw [g2.length];exact hl.1⟩
        have:=hcell j (by omega)
        rw [add_eq hsp,add_eq rfl] at this
        exact this)
       simp only [cq,aK]
       exact ⟨_,_,rfl,⟨some a,cap,by simp,by simp;omega,.inr ⟨a.block,a.off,P.cellsOf e,by cases a;simp_all,hok _ aa2,g⟩⟩,rfl⟩
     cases hp
    cases hp
   case struct fs=>
    split at hp
    ·rename_i qs hq
     split at hp
     ·rename_i hl
      simp only [Option.some.injEq] at hp;subst hp
      obtain ⟨xs,m',hm,rfl,S6,hxl,hxs⟩:=DataW.trod_struct hu h
      have hf:∀(i:Nat) (f:Field),fs.toList[i]?=some f→DataW.trod enc P w 0 spare held m' f.type ((cs.drop f.offset).take (P.cellsOf f.type))=xs[i]?:=by
       intro i f hf
       exact hxs i f (by simpa using hf)
      obtain ⟨g1,g2⟩:=AZ (ok:=ok) (fun t cs x ps=>ih m' t cs x ps) fs.toList xs 0 _ hq (by simpa using hxl) hf
      simp only [fI]
      refine ⟨?_,g2⟩
      have e:(cs.drop 0).take qs.length=cs:=by rw [List.drop_zero,hl,←S6,List.take_length]
      rwa [e] at g1
     cases hp
    cases hp
   case array k e=>
    split at hp
    ·rename_i qs hq
     split at hp
     ·rename_i hl
      simp only [Option.some.injEq] at hp;subst hp
      obtain ⟨xs,m',hm,rfl,S6,hxl,hxs⟩:=DataW.trod_array hu h
      obtain ⟨g1,g2⟩:=Dx (w:=w) (ok:=ok) (r:=qs) (cs:=cs) k 0 xs hxl (fun i x hi=>by
       have hi3:i<xs.length:=(List.getElem?_eq_some_iff.1 hi).1
       have:=hxs i (by omega)
       rw [hl.1,Nat.zero_add]
       rw [hi] at this
       exact ih _ _ _ _ _ this hq)
      simp only [fI]
      refine ⟨?_,g2⟩
      have e:(cs.drop 0).take (k*qs.length)=cs:=by rw [List.drop_zero,hl.2,←S6,List.take_length]
      rwa [e] at g1
     cases hp
    cases hp
end
end Dem
end
section
open Go
namespace Dem
section
variable {T:Nat→Option TI} {G:Nat→Option (List D)} {bx aG:List ax}
def lI (bx aG:List ax):Prop:=∀(i:Nat) (b:ax),bx[i]?=some b→b.born=true→aG[i]?=some b
theorem lI.refl (bx:List ax):lI bx bx:=fun _ _ h _=>h
theorem P7 (h:lI bx aG) {x:AV} {y:D} (hx:x.tD bx=some y):x.tD aG=some y:=by
 cases x with
 |ow b sz n=>
  simp only [AV.tD] at hx ⊢
  split at hx
  ·rename_i s es hb
   rw [h _ _ hb rfl];exact hx
  ·rename_i s es hb
   rw [h _ _ hb rfl];exact hx
  simp at hx
 |fn f cs=>cases cs with
  |nil=>exact hx
  |cons c cs=>exact hx
 |_=>exact hx
theorem Mp (h:lI bx aG):∀{xs:List AV} {ys:List D},iJ bx xs=some ys→iJ aG xs=some ys
 |[],ys,hx=>hx
 |x::xs,ys,hx=>by
  simp only [iJ] at hx ⊢
  split at hx
  ·rename_i y ys' hy hys
   rw [P7 h hy,Mp h hys];exact hx
  simp at hx
theorem sF (h:lI bx aG) {x:AV} {es:List (List D)} (hx:x.rows bx=some es):x.rows aG=some es:=by
 cases x with
 |d y=>cases y<;>exact hx
 |ow b sz n=>
  simp only [AV.rows] at hx ⊢
  split at hx
  ·rename_i s es hb
   rw [h _ _ hb rfl];exact hx
  ·rename_i s es hb
   rw [h _ _ hb rfl];exact hx
  simp at hx
 |vw b sz off n c ex=>
  simp only [AV.rows] at hx ⊢
  split at hx
  ·rename_i s es hb
   rw [h _ _ hb rfl];exact hx
  ·rename_i s es hb
   rw [h _ _ hb rfl];exact hx
  simp at hx
 |_=>exact hx
theorem VE (h:lI bx aG) {x y:AV} (hx:fz bx x=some y):fz aG x=some y:=by
 cases x with
 |ow b sz n=>
  simp only [fz,Option.map_eq_some_iff] at hx ⊢
  obtain ⟨q,h1,h2⟩:=hx
  exact ⟨q,P7 h h1,h2⟩
 |vw b sz off n c ex=>
  simp only [fz,Option.map_eq_some_iff] at hx ⊢
  obtain ⟨q,h1,h2⟩:=hx
  exact ⟨q,sF h h1,h2⟩
 |_=>exact hx
theorem P8 (h:lI bx aG):∀{xs ys:List AV},JD bx xs=some ys→JD aG xs=some ys
 |[],ys,hx=>hx
 |x::xs,ys,hx=>by
  simp only [JD] at hx ⊢
  split at hx
  ·rename_i y ys' hy hys
   rw [VE h hy,P8 h hys];exact hx
  simp at hx
theorem EV (h:lI bx aG):∀{xs ys:List AV},eP bx xs=some ys→eP aG xs=some ys
 |[],ys,hx=>hx
 |x::xs,ys,hx=>by
  simp only [eP] at hx ⊢
  split at hx
  ·rename_i y ys' hy hys
   have:qN aG x=some y:=by
    cases x with
    |agg cs=>
     simp only [qN,Option.map_eq_some_iff] at hy ⊢
     obtain ⟨q,h1,h2⟩:=hy
     exact ⟨q,P8 h h1,h2⟩
    |_=>simp only [qN] at hy ⊢;exact VE h hy
   rw [this,EV h hys];exact hx
  simp at hx
theorem P9 (h:lI bx aG) {ti:TI} {a:AV} {r:R} (hx:qd ti a bx=some r):qd ti a aG=some r:=by
 cases a with
 |ptr b off=>
  simp only [qd] at hx ⊢
  split at hx
  ·rename_i cs hb
   rw [h _ _ hb rfl];exact hx
  simp at hx
 |rp b sz i j=>
  simp only [qd] at hx ⊢
  split at hx
  ·rename_i s es hb
   rw [h _ _ hb rfl];exact hx
  ·rename_i s es hb
   rw [h _ _ hb rfl];exact hx
  simp at hx
 |_=>exact hx
theorem Tn (h:lI bx aG) {x v:AV} (hx:Al x bx=some v):Al x aG=some v:=by
 cases x with
 |d y=>cases y<;>exact hx
 |ow b sz n=>
  simp only [Al] at hx ⊢
  split at hx
  ·rename_i es hr
   rw [sF h hr];exact hx
  simp at hx
 |vw b sz off n c ex=>
  simp only [Al] at hx ⊢
  split at hx
  ·rename_i es hr
   rw [sF h hr];exact hx
  simp at hx
 |_=>exact hx
theorem Dy (h:lI bx aG) {size:Nat}:∀{ps:List (Nat×AV)} {rs:List (List D)},rowsOf bx size ps=some rs→rowsOf aG size ps=some rs
 |[],rs,hx=>hx
 |(i,v)::r,rs,hx=>by
  simp only [rowsOf] at hx ⊢
  split at hx
  ·rename_i vs hv
   split at hx
   ·rename_i ds Yr hd hr
    simp only [Mp h hd,Dy h hr];exact hx
   simp at hx
  simp at hx
theorem NB (h:lI bx aG) {t:Nat} {x:AV} {lo hi mx:Option Int} {c:Prop} {v:AV} (hx:qM T t x lo hi mx bx=some ⟨c,v,none⟩):qM T t x lo hi mx aG=some ⟨c,v,none⟩:=by
 unfold qM at hx ⊢
 split at hx
 ·split at hx
  ·exact hx
  ·split at hx
   ·rename_i es te hr hte
    simp only [sF h hr,hte]
    simp only [Option.some.injEq,R.mk.injEq] at hx ⊢
    refine ⟨hx.1,hx.2.1,?_⟩
    have h3:=hx.2.2
    generalize cA _=q at h3 ⊢
    cases q<;>simp at h3 ⊢
   simp at hx
  ·split at hx
   ·have hr:=‹AV.rows bx _=some _›
    have hte:=‹T _=some _›
    simp only [sF h hr,hte]
    simp only [Option.some.injEq,R.mk.injEq] at hx ⊢
    refine ⟨hx.1,hx.2.1,?_⟩
    have h3:=hx.2.2
    generalize cA _=q at h3 ⊢
    cases q<;>simp at h3 ⊢
   simp at hx
  ·exact hx
  ·split at hx
   ·split at hx
    ·simp at hx
    simp at hx
   simp at hx
  simp at hx
 simp at hx
theorem A2 (h:lI bx aG) {t n:Nat} {ps:List (Nat×AV)} {c:Prop} {v:AV} (hx:fG T t n ps bx=some ⟨c,v,none⟩):fG T t n ps aG=some ⟨c,v,none⟩:=by
 unfold fG at hx ⊢
 split at hx
 ·split at hx
  ·split at hx
   ·rename_i te hte
    generalize (Nat.beq ps.length n&&m9 0 ps&&Nat.ble (n*te.size) 16777216&&te.zero.cells?.isSome)=q at hx ⊢
    cases q with
    |false=>simp at hx
    |true=>
     simp only [cond_true] at hx ⊢
     split at hx
     ·rename_i rs hr
      simp only [Dy h hr]
      simp only [Option.some.injEq,R.mk.injEq] at hx ⊢
      refine ⟨hx.1,hx.2.1,?_⟩
      have h3:=hx.2.2
      generalize Gj _=q at h3 ⊢
      cases q<;>simp at h3 ⊢
     simp at hx
   simp at hx
  simp at hx
 simp at hx
theorem Qa (h:lI bx aG) {s d:Nat} {x:AV} {r:R} (hx:yD T s d x bx=some r):yD T s d x aG=some r:=by
 unfold yD at hx ⊢
 split at hx
 ·split at hx
  ·exact hx
  ·split at hx
   ·rename_i te es hte hr
    simp only [sF h hr,hte];exact hx
   simp at hx
  ·exact hx
  simp at hx
 simp at hx
theorem vD {t:Nat} {s x:AV} {r:R} (hx:lD T t s x bx=some r):r.bx≠none:=by
 unfold lD at hx
 split at hx
 ·split at hx
  ·split at hx
   ·rename_i te hte
    cases hz:eE te with
    |false=>simp [hz] at hx
    |true=>
    simp only [hz,cond_true] at hx
    split at hx
    ·split at hx
     ·simp only [Option.some.injEq] at hx;subst hx;simp
     ·split at hx
      ·simp at hx
      simp only [Option.some.injEq] at hx;subst hx;simp
     ·split at hx
      ·rename_i b _ _ _ _ _ _
       generalize sameBox _ x=q at hx
       cases q with
       |true=>simp at hx
       |false=>simp only [cond_false,Option.some.injEq] at hx;subst hx;simp
      simp at hx
     simp at hx
    simp at hx
   simp at hx
  simp at hx
 simp at hx
theorem G3 {ti:TI} {a v:AV} {r:R} (hx:tX ti a v bx=some r):r.bx≠none:=by
 unfold tX at hx
 split at hx
 ·simp at hx
 generalize Nat.beq _ _=q at hx
 cases q with
 |false=>simp at hx
 |true=>
 simp only [cond_true] at hx
 split at hx
 ·split at hx
  ·generalize Nat.ble _ _=q at hx
   cases q with
   |false=>simp at hx
   |true=>simp only [cond_true,Option.some.injEq] at hx;subst hx;simp
  simp at hx
 ·split at hx
  ·split at hx
   ·simp only [Option.some.injEq] at hx;subst hx;simp
   simp at hx
  simp at hx
 simp at hx
theorem G4 (h:lI bx aG) {b:Builtin} {args:List AV} {ats:List Nat} {c:Prop} {v:AV} (hx:iL T b args ats bx=some ⟨c,v,none⟩):iL T b args ats aG=some ⟨c,v,none⟩:=by
 unfold iL at hx ⊢
 split at hx
 ·split at hx
  ·split at hx
   ·exact hx
   ·exact hx
   ·split at hx
    ·rename_i v' hl
     simp only [Tn h hl];exact hx
    simp at hx
   simp at hx
  simp at hx
 ·exact hx
 ·exact hx
 ·split at hx
  ·split at hx
   ·simp at hx
   exact absurd rfl (vD hx)
  simp at hx
 simp at hx
theorem Kc {te:TI} {n m:Int} {bx:List ax} {c:Prop} {v:AV} {b:Option (List ax)} (h:Gk te n m bx=some ⟨c,v,b⟩):b≠none:=by
 unfold Gk at h
 split at h
 ·cases hz:eE te with
  |false=>simp [hz] at h
  |true=>simp only [hz,cond_true,Option.some.injEq,R.mk.injEq] at h;obtain ⟨_,_,rfl⟩:=h;simp
 simp at h
theorem Qb (h:lI bx aG) {ev:Operand→AV} {op:Op} {c:Prop} {v:AV} (hx:nh T ev op bx=some ⟨c,v,none⟩):nh T ev op aG=some ⟨c,v,none⟩:=by
 unfold nh at hx ⊢
 split at hx
 ·exact hx
 ·exact hx
 ·split at hx
  ·exact absurd rfl (Kc hx)
  simp at hx
 ·split at hx
  ·exact hx
  ·exact hx
  ·split at hx
   ·simp only [Db] at hx
    split at hx
    ·split at hx
     ·generalize (Nat.beq _ _&&Nat.beq _ _)=q at hx
      cases q<;>simp at hx
     simp at hx
    simp at hx
   simp at hx
  ·split at hx
   ·simp only [EC] at hx
    split at hx
    ·split at hx
     ·rename_i te _ _ _ _ _ _ _ _ _ _ _ _ _ _ _
      cases hq:(Nat.beq _ _&&Nat.beq _ _&&eE _:Bool)<;>rw [hq] at hx<;>simp at hx
     simp at hx
    simp at hx
   simp at hx
  ·split at hx
   ·split at hx
    ·simp only [L6] at hx
     split at hx
     ·generalize (Nat.beq _ _&&Nat.beq _ _&&eE _&&_)=q at hx
      cases q<;>simp at hx
     simp at hx
    simp at hx
   ·generalize sameBox _ _=q at hx
    cases q with
    |true=>
     simp only [cond_true,sq] at hx
     split at hx
     ·generalize (Nat.beq _ _&&Nat.beq _ _)=q at hx
      cases q<;>simp at hx
     simp at hx
    |false=>
     simp only [cond_false] at hx
     split at hx
     ·rename_i hap
      simp only [Option.some.injEq,R.mk.injEq] at hx
      obtain ⟨_,_,rfl⟩:=hx
      exact absurd rfl (vD hap)
     simp at hx
   simp at hx
  simp at hx
 simp at hx
theorem To (h:lI bx aG) {ev:Operand→AV} {op:Op} {c:Prop} {v:AV} (hx:lE T ev op bx=some ⟨c,v,none⟩):lE T ev op aG=some ⟨c,v,none⟩:=by
 unfold lE at hx ⊢
 split at hx
 ·exact hx
 ·exact hx
 ·split at hx
  ·split at hx<;>simp at hx
  simp at hx
 ·split at hx<;>simp at hx
 ·split at hx
  ·exact P9 h hx
  simp at hx
 ·split at hx
  ·exact absurd rfl (G3 hx)
  simp at hx
 ·exact hx
 ·exact A2 h hx
 ·exact hx
 ·exact hx
 ·exact hx
 ·exact hx
 ·exact hx
 ·exact hx
 ·exact hx
 ·exact Qa h hx
 ·split at hx
  ·exact NB h hx
  simp at hx
 ·exact hx
 ·exact hx
 ·exact hx
 ·exact hx
 ·exact G4 h hx
 exact hx
theorem Wu (h:lI bx aG) {ev:Operand→AV} {op:Op} {c:Prop} {v:AV} (hx:Gd T ev op bx=some ⟨c,v,none⟩):Gd T ev op aG=some ⟨c,v,none⟩:=by
 unfold Gd at hx ⊢
 cases hv:iM ev op with
 |true=>rw [hv,cond_true] at hx;rw [cond_true];exact Qb h hx
 |false=>rw [hv,cond_false] at hx;rw [cond_false];exact To h hx
theorem mu {ev sG:Operand→AV} {x:Option Operand} (h:∀y,x=some y→ev y=sG y):CH ev x=CH sG x:=by
 cases x with
 |none=>rfl
 |some y=>simp only [CH,h y rfl]
theorem Ke {ev sG:Operand→AV} {op:Op} (h:∀x∈op.operands.toList,ev x=sG x):lE T ev op bx=lE T sG op bx:=by
 have pairs:∀ps:Array (Nat×Operand),(∀x∈(ps.toList.map (·.2)).toArray.toList,ev x=sG x)→(ps.toList.map fun p=>(p.1,ev p.2))=(ps.toList.map fun p=>(p.1,sG p.2)):=by
  intro ps hp
  refine List.map_congr_left fun p hm=>?_
  rw [hp p.2 (by simp only [List.mem_map];exact ⟨p,hm,rfl⟩)]
 cases op<;>simp only [Op.operands] at h
 case build t ps=>simp only [lE,pairs ps h]
 case buildSlice t n ps=>simp only [lE,pairs ps h]
 case makeFunc fn first captured=>
  cases fn<;>simp only [lE]
  rw [List.map_congr_left (l:=captured.toList) (f:=ev) (g:=sG) fun x hx=>h x (by simp;exact .inr (by simpa using hx)),List.map_congr_left (l:=first.toList) (f:=ev) (g:=sG) fun x hx=>h x (by simp;exact .inl (by simpa using hx))]
 case slice t x lo hi mx=>
  simp only [lE,h x (by simp),mu (x:=lo) (fun y hy=>h y (by simp [hy])),mu (x:=hi) (fun y hy=>h y (by simp [hy])),mu (x:=mx) (fun y hy=>h y (by simp [hy]))]
 case call c=>
  obtain ⟨callee,args,ats⟩:=c
  cases callee<;>simp only [lE]
  rw [List.map_congr_left (f:=ev) (g:=sG) fun x hx=>h x (by simp [Call.operands];exact by simpa using hx)]
 all_goals (first|rfl|(simp only [lE];simp_all;done)|(simp_all [lE];done))
theorem yQ {ev sG:Operand→AV} {op:Op} (h:∀x∈op.operands.toList,ev x=sG x):iM ev op=iM sG op∧nh T ev op bx=nh T sG op bx:=by
 cases op<;>simp only [Op.operands] at h
 case slice t x lo hi mx=>
  simp only [iM,nh,h x (by simp),mu (x:=lo) (fun y hy=>h y (by simp [hy])),mu (x:=hi) (fun y hy=>h y (by simp [hy])),mu (x:=mx) (fun y hy=>h y (by simp [hy])),and_self]
 case indexAddr t x i=>simp only [iM,nh,h x (by simp),h i (by simp),and_self]
 case makeSlice t x i=>simp only [iM,nh,h x (by simp),h i (by simp),and_self]
 case call c=>
  obtain ⟨callee,args,ats⟩:=c
  cases callee
  case builtin b=>
   have hm:args.toList.map ev=args.toList.map sG:=List.map_congr_left (f:=ev) (g:=sG) fun x hx=>h x (by simp [Call.operands];exact by simpa using hx)
   have hs:∀x∈args.toList,ev x=sG x:=fun x hx=>h x (by simp [Call.operands];exact by simpa using hx)
   refine ⟨?_,by simp only [nh,hm]⟩
   simp only [iM]
   generalize args.toList=l at hs
   split<;>first|rfl|(rw [hs _ (by simp)])
  all_goals exact ⟨rfl,rfl⟩
 all_goals exact ⟨rfl,rfl⟩
theorem NC {ev sG:Operand→AV} {op:Op} (h:∀x∈op.operands.toList,ev x=sG x):Gd T ev op bx=Gd T sG op bx:=by
 unfold Gd
 rw [(yQ (T:=T) (bx:=bx) h).1,(yQ (T:=T) (bx:=bx) h).2,Ke h]
end
end Dem
end
