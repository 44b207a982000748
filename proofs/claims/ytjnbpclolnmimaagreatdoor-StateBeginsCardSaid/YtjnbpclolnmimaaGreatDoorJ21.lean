/- Parts of a proof, joined. -/
import Derived.Test.YtjnbpclolnmimaaGreatDoorJ20
set_option linter.unusedSimpArgs false
set_option linter.unusedVariables false
set_option maxRecDepth 100000
set_option maxHeartbeats 4000000
section
open Go Dem Go.Proofs
namespace Dem
variable {t:Th}
def Ei (s:aD) (p:Int):Option (Jb×Int):=
 match bD s p with
 |⟨i,p1,true⟩=>match Eh s p1 with
  |some (x,p2)=>match bD s p2 with
   |⟨f,e,true⟩=>if 0<f∧f<9223372036854775808 then some (⟨i,x,true,f⟩,e) else none
   |_=>none
  |none=>none
 |_=>none
theorem ym {s:aD} {p e:Int} {j:Jb} (h:Ei s p=some (j,e)):∃p1 p2,bD s p=⟨j.id,p1,true⟩∧Eh s p1=some (j.x,p2)∧bD s p2=⟨j.left,e,true⟩∧j.runs=true∧0<j.left∧j.left<9223372036854775808:=by
 unfold Ei at h
 split at h
 ·rename_i i p1 e1
  split at h
  ·rename_i x p2 e2
   split at h
   ·rename_i f q e3
    split at h
    ·rename_i g
     simp only [osI,Prod.mk.injEq] at h
     obtain ⟨rfl,rfl⟩:=h
     exact ⟨p1,p2,e1,e2,e3,rfl,g.1,g.2⟩
    cases h
   cases h
  cases h
 cases h
theorem UP {s:aD} {p e:Int} {l:List Term} (hs:s.length<9223372036854775000) (h:DS s p=some (l,e)):0≤e∧e≤s.length:=by
 obtain ⟨n,q,g1,g2,g3⟩:=Cn h
 have b:=Af g1
 have:∀(n:Nat) (l L:List Term) (p e:Int),jV s n l p=some (L,e)→0≤p→p≤s.length→0≤e∧e≤s.length:=by
  intro n
  induction n with
  |zero=>intro l L p e h h1 h2;rw [jV] at h;simp only [osI,Prod.mk.injEq] at h;omega
  |succ n ih=>
   intro l L p e h h1 h2
   obtain ⟨x,q,g1,g2⟩:=zE h
   have:=I0 hs g1
   exact ih _ _ _ _ g2 this.1 this.2
 exact this _ _ _ _ _ g2 b.2.2.1 b.2.2.2
theorem UQ {s:aD} {p e:Int} {x:Ask} (hs:s.length<9223372036854775000) (h:Eh s p=some (x,e)):0≤e∧e≤s.length:=by
 obtain ⟨p1,p2,p3,p4,p5,e0,e1,e2,e3,e4,e5,_⟩:=Cp h
 exact UP hs e5
theorem M6 {s:aD} {p e:Int} {j:Jb} (h:Ei s p=some (j,e)):0≤e∧e≤s.length:=by
 obtain ⟨p1,p2,g1,g2,g3,_⟩:=ym h
 exact (fw g3).2.2
theorem UR (ht:TT t) (s:aD) {p e:Int} (ji ja jb jc jd jn jp jt jf:Int) (jq:aD) (jr:Bool) {jB:List Term} {tn:List (List D)} (m8:tn=jB.map Term.cells) (hs:s.length<9223372036854775000) (hp:p<9223372036854775808) (fR:(⟨jq,⟨ja,jb,jc,jd⟩,jn,jp,jt,jB⟩:Ask).sm) (h:Ei s p=some (⟨ji,⟨jq,⟨ja,jb,jc,jd⟩,jn,jp,jt,jB⟩,jr,jf⟩,e)):
 FC 137 [.ptr 0 0] [.var [ST s,bq p]] (.ret (.agg [az ji,ST jq,az ja,az jb,az jc,az jd,bq jn,bq jp,bq jt,SL tn,BL jr,bq jf])) [.var [ST s,bq e]]:=by
 obtain ⟨p1,p2,g1,g2,g3,g4,g5,g6⟩:=ym h
 simp only at g1 g2 g3 g4 g5 g6
 have b1:=fw g1
 have b2:=UQ hs g2
 have b3:=fw g3
 have hw:IntKind.i64.wrap jf=jf:=by rw [bZ (by omega) (by omega)]
 subst g4
 refine bC ht (aE:=[.var [ST s,bq p]]) Tryz.func137 (c:=_) rfl rfl (N:=38) rfl (rs:=_) rfl (n:=1) rfl rfl ?_
 cbv
 have tq:tn.length=jB.length:=by rw [m8,lgM]
 (refine cE [0] trivial rfl rfl (kH ht s hs (by omega) g1) (bK ?_))
 cbv
 refine vM [0,4] [0,4,9,10,11,12] [false,false,false,false,false,false,false,false,false,false,false,false,false,false,true,true,true] (by kernel_rfl) (by kernel_rfl) (by kernel_rfl) (by kernel_rfl) (by kernel_rfl) (by kernel_rfl) ?_
 cbv
 iterate 8 refine gI (by simp) ?_
 refine .inl ?_
 (refine mT (fun g9=>⟨by simp,by simp,XC ht s hs (by ((try simp only [aa] at*);omega)) m8 fR g2⟩) rfl rfl rfl ?_)
 cbv
 iterate 4 refine gI (by simp) ?_
 (refine cE [0] trivial rfl rfl (wM ht s _ _) (bK ?_))
 cbv
 (apply DF [1] (.more 0 (.one 1 (.more 2 (.more 3 (.one 4 (.one 5 (.one 6 (.one 7 .done)))) (.one 4 (.more 3 (.one 5 (.one 6 (.one 7 .done))) (.one 5 (.one 3 (.one 6 (.one 7 .done))))))) (.one 4 (.one 2 (.more 3 (.one 5 (.one 6 (.one 7 .done))) (.one 5 (.one 3 (.one 6 (.one 7 .done))))))))) (.one 1 (.more 0 (.more 2 (.more 3 (.one 4 (.one 5 (.one 6 (.one 7 .done)))) (.one 4 (.more 3 (.one 5 (.one 6 (.one 7 .done))) (.one 5 (.one 3 (.one 6 (.one 7 .done))))))) (.one 4 (.one 2 (.more 3 (.one 5 (.one 6 (.one 7 .done))) (.one 5 (.one 3 (.one 6 (.one 7 .done)))))))) (.one 2 (.more 0 (.more 3 (.one 4 (.one 5 (.one 6 (.one 7 .done)))) (.one 4 (.more 3 (.one 5 (.one 6 (.one 7 .done))) (.one 5 (.one 3 (.one 6 (.one 7 .done))))))) (.one 3 (.one 0 (.one 4 (.one 5 (.one 6 (.one 7 .done)))))))))));kernel_rfl;kernel_rfl;kernel_rfl;kernel_rfl;(next=>cbv;repeat (first|(refine cE [0] trivial rfl rfl (kH ht s hs (by ((try simp only [aa] at*);omega)) g3) (bK ?_);cbv)|refine And.intro ?_ ?_|exact rfl|exact True.intro)))
 cbv
 (exact an trivial (by simp) rfl rfl rfl (by simp only [ht,hw];simp;omega))
def RW (r:aR×Int):AV:=.dF [N6 r.1,bq r.2]
theorem FW (ht:TT t) (a0 a1 a2 a3 b0 b1 b2 b3:Int):FC 26 [V4 a0 a1 a2 a3,V4 b0 b1 b2 b3] [] (.ret (TP (t _ fun _=>gT ⟨a0,a1,a2,a3⟩ ⟨b0,b1,b2,b3⟩))) []:=by
 simp only [ht];exact Rb ht _ _ _ _ _ _ _ _ rfl
theorem Lq (ht:TT t) (v1 v2 v3 v4:Int) (p:aD) (a b c d e f g h:Int):
 FC 143 [V4 v1 v2 v3 v4,.agg [ST p,az a,az b,az c,az d,az e,az f,az g,az h]] [] (.ret (RW (t _ fun _=>gm ⟨v1,v2,v3,v4⟩ ⟨p,⟨a,b,c,d⟩,⟨e,f,g,h⟩⟩))) []:=by
 obtain ⟨⟨⟨s1,s2,s3,s4⟩,k⟩,hS⟩:∃r,r=gT ⟨e,f,g,h⟩ ⟨v1,v2,v3,v4⟩:=⟨_,rfl⟩
 refine bC ht (aE:=[]) Tryz.func143 (c:=_) rfl rfl (N:=28) rfl (rs:=_) rfl (n:=0) rfl rfl ?_
 cbv
 refine gj trivial (Rb ht _ _ _ _ _ _ _ _ (by assumption)) trivial rfl rfl ?_
 cbv
 refine ai (fun h0=>?_) (fun h0=>?_)
 ·simp [ht] at h0
  cbv
  refine an trivial trivial rfl rfl rfl ?_
  (simp only [ht,gm,←hS];simp_all;done)
 simp [ht] at h0
 cbv
 refine ay trivial (oJ ht _ _ _ _ _ _ _ _) trivial rfl rfl (fun r1 cX=>?_)
 simp only [ht] at cX
 cbv
 refine ai (fun h2=>?_) (fun h2=>?_)
 ·simp [ht] at h2
  cbv
  refine an trivial trivial rfl rfl rfl ?_
  (simp only [ht,gm,←hS];simp_all;done)
 simp [ht] at h2
 cbv
 refine an trivial trivial rfl rfl rfl ?_
 (simp only [ht,gm,←hS];simp_all;done)
theorem Lr (ht:TT t) (v1 v2 v3 v4:Int) (p:aD) (a b c d e f g h:Int):
 FC 173 [V4 v1 v2 v3 v4,.agg [ST p,az a,az b,az c,az d,az e,az f,az g,az h]] [] (.ret (RW (t _ fun _=>ek ⟨v1,v2,v3,v4⟩ ⟨p,⟨a,b,c,d⟩,⟨e,f,g,h⟩⟩))) []:=by
 obtain ⟨⟨⟨s1,s2,s3,s4⟩,k⟩,hS⟩:∃r,r=gu ⟨e,f,g,h⟩ ⟨v1,v2,v3,v4⟩:=⟨_,rfl⟩
 refine bC ht (aE:=[]) Tryz.func173 (c:=_) rfl rfl (N:=22) rfl (rs:=_) rfl (n:=0) rfl rfl ?_
 cbv
 refine gj trivial (Fu ht _ _ _ _ _ _ _ _ (by assumption)) trivial rfl rfl ?_
 cbv
 refine ai (fun h0=>?_) (fun h0=>?_)
 ·simp [ht] at h0
  cbv
  refine an trivial trivial rfl rfl rfl ?_
  (simp only [ht,ek,←hS];simp_all;done)
 simp [ht] at h0
 cbv
 refine an trivial trivial rfl rfl rfl ?_
 (simp only [ht,ek,←hS];simp_all;done)
theorem UT (ht:TT t) (q:aD) {l:List aR} {es:List (List D)} (aF:es=l.map aR.cells) (hl:l.length<1000000000) {r:Bool} (hr:r=decide (bM l q<0)):
 FC 185 [ST q,.ptr 0 0] [.var [SL es]] (.ret (BL r)) [.var [SL es]]:=by
 refine bC ht (aE:=[.var [SL es]]) Tryz.func185 (c:=_) rfl rfl (N:=8) rfl (rs:=_) rfl (n:=1) rfl rfl ?_
 cbv
 have ar:es.length=l.length:=by rw [aF,lgM]
 refine ay trivial (kj ht _ (by assumption) (by assumption)) trivial rfl rfl (fun r0 bE=>?_)
 simp only [ht] at bE
 cbv
 refine an trivial trivial rfl rfl rfl ?_
 (simp [*];done)
theorem Oy (ht:TT t) (ts:List (List D)) {l:List (aD)} {es:List (List D)} (aF:es=l.map aT) (f:Nat) (p:aD→Bool) (hl:l.length<9223372036854775807)
 (hf:∀x∈l,FC f [.d (.str x),.ptr 0 0] [.var [SL ts]] (.ret (BL (p x))) [.var [SL ts]]) {r:Int} (hr:r=idxOf p l):FC 163 [SL es,.fn f [.ptr 0 0]] [.var [SL ts]] (.ret (bq r)) [.var [SL ts]]:=by
 have hel:es.length=l.length:=by rw [aF,lgM]
 obtain ⟨J,hJ⟩:∃J:Nat→Nat→Prop,∀n v,J n v↔(v+n=l.length∧∀i<v,∀x,l[i]?=some x→p x=false):=⟨fun n v=>v+n=l.length∧∀i<v,∀x,l[i]?=some x→p x=false,fun _ _=>Iff.rfl⟩
 refine bC ht (aE:=[.var [SL ts]]) Tryz.func163 (c:=_) rfl rfl (N:=19) rfl (rs:=_) rfl (n:=1) rfl rfl ?_
 cbv
 refine aZ ⟨[0,1,7,8],[],[]⟩ (σ:=Nat) (fun k=>[(8,bq (t _ fun _=>(k:Int)))]) (fun _=>[]) J ?_
 cbv
 refine aA ⟨l.length,0,(hJ _ _).2 ⟨by omega,by intro i hi;simp at hi⟩,by simp only [ht];rfl,?_⟩
 rintro n k hj
 obtain ⟨h2,h3⟩:=(hJ _ _).1 hj
 clear hj
 cbv
 refine ai (fun h=>?_) (fun h=>?_)
 ·simp only [ht,aa,decide_eq_true_eq] at h
  have hk:k<l.length:=by omega
  obtain ⟨x,hx⟩:∃x,l[k]?=some x:=⟨l[k],by simp⟩
  have og:x∈l:=List.mem_of_getElem? hx
  have gY:=hf x og
  obtain ⟨px,hpx⟩:∃b,b=p x:=⟨_,rfl⟩
  rw [←hpx] at gY
  skip
  cbv
  refine gS [.str x] ?_ ?_ ?_
  ·simp only [ht,aa];refine ⟨by omega,h,?_⟩;rw [aF];intro r hr;obtain ⟨y,_,rfl⟩:=List.mem_map.1 hr;rfl
  ·simp [ht,aa,aF,hx]
  cbv
  refine dn trivial gY ?_
  cbv
  refine ai (fun hb=>?_) (fun hb=>?_)
  ·cbv
   refine an trivial trivial rfl rfl rfl ?_
   have e:=cN hx (hpx▸hb) h3
   simp only [ht,aa,hr,idxOf,e]
  cbv
  refine aA ⟨n-1,k+1,⟨by omega,(hJ _ _).2 ⟨by omega,?_⟩⟩,?_⟩
  ·intro i hi y hy
   by_cases hik:i<k
   ·exact h3 i hik y hy
   have:i=k:=by omega
   subst this;rw [hx] at hy;cases hy;rw [←hpx];exact hb
  simp only [ht,aa,aC (show k<9223372036854775807 by omega)];rfl
 simp only [ht,aa,decide_eq_false_iff_not] at h
 have hk:¬k<l.length:=by omega
 clear h
 cbv
 refine an trivial trivial rfl rfl rfl ?_
 rw [hr,idxOf,cS]
 intro i y hy
 have:i<l.length:=by
  rcases Nat.lt_or_ge i l.length with h'|h';· exact h'
  simp [List.getElem?_eq_none h'] at hy
 exact h3 i (by omega) y hy
theorem Oz (ht:TT t) (ts:List (List D)) {l:List (aD)} {es:List (List D)} (aF:es=l.map aT) (f:Nat) (p:aD→Bool) (hl:l.length<9223372036854775807)
 (hf:∀x∈l,FC f [.d (.str x),.ptr 0 0] [.var [SL ts]] (.ret (BL (p x))) [.var [SL ts]]) {r:Bool} (hr:r=l.any p):FC 110 [SL es,.fn f [.ptr 0 0]] [.var [SL ts]] (.ret (BL r)) [.var [SL ts]]:=by
 obtain ⟨k,hk⟩:∃k,k=idxOf p l:=⟨_,rfl⟩
 refine bC ht (aE:=[.var [SL ts]]) Tryz.func110 (c:=_) rfl rfl (N:=9) rfl (rs:=_) rfl (n:=1) rfl rfl ?_
 cbv
 refine dn trivial (Oy ht ts aF f p hl hf hk) ?_
 cbv
 refine an trivial trivial rfl rfl rfl ?_
 simp only [ht,hr,eT,hk]
theorem OA (ht:TT t) {l:List aR} {qs:List aD} {es ss:List (List D)} (aF:es=l.map aR.cells) (hss:ss=qs.map aT) (hl:l.length<1000000000) (hq:qs.length<1000000000) {r:Bool} (hr:r=qs.any (fun q=>decide (bM l q<0))):
 FC 110 [SL ss,.fn 185 [.ptr 0 0]] [.var [SL es]] (.ret (BL r)) [.var [SL es]]:=
 Oz ht es hss 185 (fun q=>decide (bM l q<0)) (by omega) (fun x _=>UT ht x aF hl rfl) hr
theorem I3 (ht:TT t) {es:List (List D)} (aF:∀r∈es,r.length=9) (hs:es.length*80≤140737488355328) {m:Nat} (hm:m=es.length):
 FC 186 [SL es] [] (.ret (.ow 0 9 m)) [.row 9 es]:=by
 refine bC ht (aE:=[]) Tryz.func186 (c:=_) rfl rfl (N:=8) rfl (rs:=_) rfl (n:=0) rfl rfl ?_
 cbv
 refine ⟨fun b hb=>?_⟩
 simp only [ht] at hb
 cbv
 refine ai (fun h=>?_) (fun h=>?_)
 ·have he:=hb h
  subst he
  cbv
  exact Kz trivial rfl rfl (by rw [hm];rfl) rfl
 clear hb h
 cbv
 refine ⟨?_,?_⟩
 ·simp only [ht];simp;exact ⟨hs,aF⟩
 refine Fb trivial rfl rfl rfl rfl ?_ ?_
 ·simp only [ht];rw [hm];simp
 simp only [ht];rfl
theorem FX (ht:TT t) {l:List aR} {es:List (List D)} (aF:es=l.map aR.cells) (hs:l.length<1000000000):
 FC 186 [SL es] [] (.ret (.ow 0 9 (t _ fun _=>(l.map aR.cells).length))) [.row 9 (t _ fun _=>l.map aR.cells)]:=by
 simp only [ht];subst aF
 refine I3 ht ?_ ?_ (by simp)
 ·intro r hr;obtain ⟨y,_,rfl⟩:=List.mem_map.1 hr;rfl
 simp;omega
theorem OB (q:aD):(above q).length≤4:=by
 have h1:=ic q
 have h2:=jW q
 simp only [above,List.length_cons];omega
theorem XD {l:List aR} {qs:List aD} {k:Nat} {x:aD} (h:qs.any (fun q=>decide (bM l q<0))=false) (hx:qs[k]?=some x):∃(i:Nat) (y:aR),bM l x=i∧l[i]?=some y∧i<l.length:=by
 have h1:¬bM l x<0:=by
  intro h2
  have:qs.any (fun q=>decide (bM l q<0))=true:=List.any_eq_true.2 ⟨x,List.mem_of_getElem? hx,by simpa using h2⟩
  rw [h] at this;cases this
 rcases rT (q:=x) (r:=bM l x) rfl with ⟨e1,_,_⟩|⟨i,y,e1,_,e2,e3,_⟩
 ·omega
 exact ⟨i,y,e1,e3,e2⟩
theorem M7 (ht:TT t) (f:Nat) (g:aR→aR×Int) (v1 v2 v3 v4:Int) (q:aD) {l:List aR} {es:List (List D)} (aF:es=l.map aR.cells) (hl:l.length<100000) (hq:q.length<1000000000000)
 (hf:∀(p:aD) (a b c d e z g0 h:Int),FC f [V4 v1 v2 v3 v4,.agg [ST p,az a,az b,az c,az d,az e,az z,az g0,az h]] [] (.ret (RW (t _ fun _=>g ⟨p,⟨a,b,c,d⟩,⟨e,z,g0,h⟩⟩))) []):
 FC 142 [SL es,ST q,.fn f [.dF [V4 v1 v2 v3 v4]]] [] (.ret (FE t (t _ fun _=>qp g l q))) []:=by
 have hal:=OB q
 obtain ⟨nq,Gi⟩:∃p,p=named q:=⟨_,rfl⟩
 obtain ⟨aq,ZT⟩:∃p,p=above q:=⟨_,rfl⟩
 rw [←ZT] at hal
 refine bC ht (aE:=[]) Tryz.func142 (c:=_) rfl rfl (N:=55) rfl (rs:=_) rfl (n:=0) rfl rfl ?_
 cbv
 have ar:es.length=l.length:=by rw [aF,lgM]
 refine ay trivial (wq ht _ (by assumption)) trivial rfl rfl (fun r0 bE=>?_)
 simp only [ht] at bE
 rw [←Gi] at bE
 subst r0
 cbv
 refine ai (fun h1=>?_) (fun h1=>?_)
 ·simp [ht] at h1
  cbv
  refine an trivial trivial rfl rfl rfl ?_
  (simp only [ht,qp,←Gi,←ZT];simp_all;done)
 simp [ht] at h1
 cbv
 refine aS trivial (Iy ht _ (by assumption)) trivial rfl rfl rfl (fun r2 cP=>?_)
 simp only [ht] at cP
 rw [←ZT] at cP
 subst r2
 cbv
 (obtain ⟨r9,dN⟩:∃r,r=aq.any (fun q=>decide (bM l q<0)):=⟨_,rfl⟩;refine cE [0] trivial rfl rfl (OA ht aF (qs:=aq) (by simp only [ht]) (by omega) (by omega) dN) (bK ?_))
 cbv
 refine ai (fun h3=>?_) (fun h3=>?_)
 ·cbv
  refine an trivial trivial rfl rfl rfl ?_
  (simp only [ht,qp,←Gi,←ZT];simp_all;done)
 cbv
 refine qn trivial (FX ht (by assumption) (by omega)) trivial rfl (.inr rfl) ?_
 cbv
 obtain ⟨J4,Gh⟩:∃J4:Nat→Int×List (List D)→Prop,∀n i u,J4 n (i,u)↔(∃(k:Nat) (o:List aR),i=k∧k+n=aq.length∧u=o.map aR.cells∧o.length=l.length∧qp g l q=jX g l (aq.drop k) o):=⟨fun n v=>match v with|(i,u)=>(∃(k:Nat) (o:List aR),i=k∧k+n=aq.length∧u=o.map aR.cells∧o.length=l.length∧qp g l q=jX g l (aq.drop k) o),fun _ _ _=>Iff.rfl⟩
 refine aZ ⟨[2,3,9,27,28,29],[],[]⟩ (σ:=Int×List (List D)) (fun v=>[(29,.d (.int .i64 (t _ fun _=>v.1)))]) (fun v=>[(1,.row 9 (t _ fun _=>v.2))]) J4 ?_
 cbv
 refine aA ⟨aq.length,(_,_),(Gh _ _ _).2 ?_,by simp only [ht];rfl,?_⟩
 ·exact ⟨0,l,rfl,by simp,rfl,rfl,by rw [qp,←Gi,←ZT,←dN];simp_all⟩
 rintro n ⟨i,u⟩ hj
 replace hj:=(Gh _ _ _).1 hj
 obtain ⟨k,o,rfl,j1,j2,j3,j4⟩:=hj
 have MO:u.length=o.length:=by rw [j2,lgM]
 cbv
 refine ai (fun h5=>?_) (fun h5=>?_)
 ·simp [ht,aa] at h5
  cbv
  (refine dg ht (l:=aq) (cells:=aT) (cT:=dR t) (by simp only [ht];done) (by simp only [ht,aa];omega) (by simp only [ht,aa];omega) (fun _=>rfl) (fun _=>rfl) (fun xn RX=>?_);simp only [ht] at RX;replace RX:aq[k]?=some xn:=RX;rw [bO RX,jX] at j4;obtain ⟨zz,y,e1,e2,e3⟩:=XD (dN.symm.trans (by assumption)) RX;rw [e1] at j4;simp only [Int.toNat_natCast,List.getD_eq_getElem?_getD,e2,Option.getD_some] at j4)
  cbv
  refine ay trivial (kj ht _ (by assumption) (by omega)) trivial rfl rfl (fun r6 gv=>?_)
  simp only [ht] at gv
  rw [e1] at gv
  cbv
  refine Bz ht aF (cT:=aR.aH t) e2 (by assumption) (fun _=>rfl) (fun _=>rfl) ?_
  cbv
  (refine ay trivial (hf _ _ _ _ _ _ _ _ _) trivial rfl rfl (fun rg erg=>?_);simp only [ht] at erg;obtain ⟨⟨gp,⟨ga,gb,gc,gd⟩,⟨ge,gf,gg,gh⟩⟩,ge0⟩:=rg;replace erg:_=g y:=erg;rw [←erg] at j4;simp only at j4)
  cbv
  refine ai (fun h8=>?_) (fun h8=>?_)
  ·simp [ht] at h8
   cbv
   refine an trivial trivial rfl rfl rfl ?_
   (simp [*];done)
  simp [ht] at h8
  cbv
  refine ⟨?_,?_⟩
  ·(simp only [ht];simp_all;done)
  refine ⟨?_,?_⟩
  ·(simp only [ht];simp_all;done)
  cbv
  refine bf (_,_) (by simp only [ht];rfl) (n-1) ?_ ((Gh _ _ _).2 ?_)
  ·omega
  simp only [aa]
  (refine ⟨k+1,o.set zz ⟨gp,⟨ga,gb,gc,gd⟩,⟨ge,gf,gg,gh⟩⟩,aC (by omega),by omega,?_,by simp [j3],?_⟩<;>simp_all [bF,List.map_set])
 simp [ht,aa] at h5
 cbv
 (refine an trivial (by simp only [ht];simp [MO,j3]) rfl rfl rfl ?_;rw [List.drop_eq_nil_of_le (by omega),jX] at j4;simp only [ht,j4,j2];done)
theorem Ls (ht:TT t) (q:aD) (v1 v2 v3 v4:Int) {l:List aR} {es:List (List D)} (aF:es=l.map aR.cells) (hl:l.length<100000) (hq:q.length<1000000000000):
 FC 82 [SL es,ST q,V4 v1 v2 v3 v4] [] (.ret (FE t (t _ fun _=>iv l q ⟨v1,v2,v3,v4⟩))) []:=by
 have hc:=M7 ht 143 (gm ⟨v1,v2,v3,v4⟩) v1 v2 v3 v4 q aF hl hq (fun p a b c d e z g0 h=>Lq ht v1 v2 v3 v4 p a b c d e z g0 h)
 refine bC ht (aE:=[]) Tryz.func82 (c:=_) rfl rfl (N:=16) rfl (rs:=_) rfl (n:=0) rfl rfl ?_
 cbv
 have ar:es.length=l.length:=by rw [aF,lgM]
 (refine aS trivial hc trivial rfl rfl rfl (fun r9 dN=>?_);simp only [ht] at dN)
 cbv
 refine an trivial trivial rfl rfl rfl ?_
 (simp [iv, *];done)
theorem Lt (ht:TT t) (q:aD) (v1 v2 v3 v4:Int) {l:List aR} {es:List (List D)} (aF:es=l.map aR.cells) (hl:l.length<100000) (hq:q.length<1000000000000):
 FC 126 [SL es,ST q,V4 v1 v2 v3 v4] [] (.ret (FE t (t _ fun _=>sQ l q ⟨v1,v2,v3,v4⟩))) []:=by
 have hc:=M7 ht 173 (ek ⟨v1,v2,v3,v4⟩) v1 v2 v3 v4 q aF hl hq (fun p a b c d e z g0 h=>Lr ht v1 v2 v3 v4 p a b c d e z g0 h)
 refine bC ht (aE:=[]) Tryz.func126 (c:=_) rfl rfl (N:=16) rfl (rs:=_) rfl (n:=0) rfl rfl ?_
 cbv
 have ar:es.length=l.length:=by rw [aF,lgM]
 (refine aS trivial hc trivial rfl rfl rfl (fun r9 dN=>?_);simp only [ht] at dN)
 cbv
 refine an trivial trivial rfl rfl rfl ?_
 (simp [sQ, *];done)
theorem OC (ht:TT t) (p:aD) (a b c d e f g h:Int) {l:List aR} {es:List (List D)} (aF:es=l.map aR.cells) (hl:l.length<100000) (fR:∀x∈l,x.path.length<1000000000000):
 FC 106 [SL es,.agg [ST p,az a,az b,az c,az d,az e,az f,az g,az h]] [] (.ret (bY (t _ fun _=>k9 l ⟨p,⟨a,b,c,d⟩,⟨e,f,g,h⟩⟩))) []:=by
 refine bC ht (aE:=[]) Tryz.func106 (c:=_) rfl rfl (N:=49) rfl (rs:=_) rfl (n:=0) rfl rfl ?_
 cbv
 have ar:es.length=l.length:=by rw [aF,lgM]
 obtain ⟨J0,eg⟩:∃J0:Nat→Int×Int×Int×Int×Int→Prop,∀n i s1 s2 s3 s4,J0 n (i,s1,s2,s3,s4)↔(∃k:Nat,i=k∧k+n=l.length∧qq p l bz.zero=qq p (l.drop k) ⟨s1,s2,s3,s4⟩):=⟨fun n v=>match v with|(i,s1,s2,s3,s4)=>(∃k:Nat,i=k∧k+n=l.length∧qq p l bz.zero=qq p (l.drop k) ⟨s1,s2,s3,s4⟩),fun _ _ _ _ _ _=>Iff.rfl⟩
 refine aZ ⟨[3,5,10,11,12],[],[]⟩ (σ:=Int×Int×Int×Int×Int) (fun v=>[(12,.d (.int .i64 (t _ fun _=>v.1)))]) (fun v=>[(1,.var [.d (.int .u64 (t _ fun _=>v.2.1)),.d (.int .u64 (t _ fun _=>v.2.2.1)),.d (.int .u64 (t _ fun _=>v.2.2.2.1)),.d (.int .u64 (t _ fun _=>v.2.2.2.2))])]) J0 ?_
 cbv
 refine aA ⟨l.length,(_,_,_,_,_),(eg _ _ _ _ _ _).2 ?_,by simp only [ht];rfl,?_⟩
 ·exact ⟨0,rfl,by simp,rfl⟩
 rintro n ⟨i,s1,s2,s3,s4⟩ hj
 replace hj:=(eg _ _ _ _ _ _).1 hj
 obtain ⟨k,rfl,j1,j4⟩:=hj
 cbv
 refine ai (fun h1=>?_) (fun h1=>?_)
 ·simp [ht,aa,ar] at h1
  cbv
  refine dg ht aF (cT:=aR.aH t) (by (simp only [ht,aa];omega)) (by (simp only [ht,aa];omega)) (fun _=>rfl) (fun _=>rfl) (fun x2 iw=>?_)
  simp [ht,aa] at iw
  obtain ⟨pp,JI⟩:∃pp,pp=parent (x2).path:=⟨_,rfl⟩
  obtain ⟨⟨⟨w1,w2,w3,w4⟩,wk⟩,hW⟩:∃r,r=gT ⟨s1,s2,s3,s4⟩ (x2).used:=⟨_,rfl⟩
  rw [bO iw,qq,←JI,←hW] at j4
  have sx2:=fR _ (List.mem_of_getElem? iw)
  cbv
  refine bJ [true,true,true,true,false,false,false,false,false,true,true] (by kernel_rfl) (by kernel_rfl) ?_
  cbv
  iterate 2 refine gI (by simp [ht]) ?_
  refine aM (fun g3=>⟨by simp [ht] at g3 ⊢;exact g3,trivial,sV ht _ (by assumption)⟩) rfl rfl (fun r4 dO=>?_)
  simp only [ht] at dO
  rw [←JI] at dO
  subst r4
  cbv
  iterate 3 refine gI (by simp [ht]) ?_
  refine pI (by simp [ht]) ?_
  refine ai (fun h5=>?_) (fun h5=>?_)
  ·simp [ht] at h5
   cbv
   refine bf (_,_,_,_,_) (by simp only [ht];rfl) (n-1) ?_ ((eg _ _ _ _ _ _).2 ?_)
   ·omega
   simp only [aa]
   (refine ⟨k+1,aC (by omega),by omega,?_⟩;rw [j4];clear j4 eg;rcases h5 with h5|h5<;>simp [h5];done)
  simp [ht] at h5
  cbv
  refine ay trivial (FW ht _ _ _ _ _ _ _ _) trivial rfl rfl (fun r6 gv=>?_)
  simp only [ht] at gv
  replace gv:=gv.trans (show _=((⟨w1,w2,w3,w4⟩,wk):bz×Bool) from hW.symm)
  subst r6
  cbv
  refine ai (fun h7=>?_) (fun h7=>?_)
  ·simp [ht] at h7
   cbv
   refine an trivial trivial rfl rfl rfl ?_
   (simp only [ht,k9];rw [j4];simp_all;done)
  simp [ht] at h7
  cbv
  refine bf (_,_,_,_,_) (by simp only [ht];rfl) (n-1) ?_ ((eg _ _ _ _ _ _).2 ?_)
  ·omega
  simp only [aa]
  (refine ⟨k+1,aC (by omega),by omega,?_⟩;simp only at j4;rw [j4];simp_all;done)
 simp [ht,aa,ar] at h1
 cbv
 refine ay trivial (oJ ht _ _ _ _ _ _ _ _) trivial rfl rfl (fun r8 qy=>?_)
 simp only [ht] at qy
 cbv
 iterate 3 refine gI (by simp) ?_
 refine aM (fun g9=>⟨by simp at g9 ⊢;exact g9,trivial,oJ ht _ _ _ _ _ _ _ _⟩) rfl rfl (fun r10 BR=>?_)
 simp only [ht] at BR
 cbv
 refine pI (by simp) ?_
 refine an trivial trivial rfl rfl rfl ?_
 (rw [List.drop_eq_nil_of_le (by omega),qq] at j4;simp [k9, *];done)
theorem RY (ht:TT t) (x:aR) {l:List aR} {es:List (List D)} (aF:es=l.map aR.cells) (hl:l.length<100000) (fR:∀x∈l,x.path.length<1000000000000) {r:Bool} (hr:r=!k9 l x):
 FC 105 [.agg [ST x.path,az x.dc.a,az x.dc.b,az x.dc.c,az x.dc.d,az x.used.a,az x.used.b,az x.used.c,az x.used.d],.ptr 0 0] [.var [SL es]] (.ret (BL r)) [.var [SL es]]:=by
 obtain ⟨nm,⟨a,b,c,d⟩,⟨e,g,u,v⟩⟩:=x
 refine bC ht (aE:=[.var [SL es]]) Tryz.func105 (c:=_) rfl rfl (N:=8) rfl (rs:=_) rfl (n:=1) rfl rfl ?_
 cbv
 have ar:es.length=l.length:=by rw [aF,lgM]
 refine ay trivial (OC ht _ _ _ _ _ _ _ _ _ (by assumption) (by assumption) (by assumption)) trivial rfl rfl (fun r0 bE=>?_)
 simp only [ht] at bE
 cbv
 refine an trivial trivial rfl rfl rfl ?_
 (simp [*];done)
theorem OD (ht:TT t) (ts:List (List D)) {l:List (aR)} {es:List (List D)} (aF:es=l.map aR.cells) (f:Nat) (p:aR→Bool) (hl:l.length<9223372036854775807)
 (hf:∀x∈l,FC f [.agg [ST x.path,az x.dc.a,az x.dc.b,az x.dc.c,az x.dc.d,az x.used.a,az x.used.b,az x.used.c,az x.used.d],.ptr 0 0] [.var [SL ts]] (.ret (BL (p x))) [.var [SL ts]]) {r:Int} (hr:r=idxOf p l):FC 90 [SL es,.fn f [.ptr 0 0]] [.var [SL ts]] (.ret (bq r)) [.var [SL ts]]:=by
 have hel:es.length=l.length:=by rw [aF,lgM]
 obtain ⟨J,hJ⟩:∃J:Nat→Nat→Prop,∀n v,J n v↔(v+n=l.length∧∀i<v,∀x,l[i]?=some x→p x=false):=⟨fun n v=>v+n=l.length∧∀i<v,∀x,l[i]?=some x→p x=false,fun _ _=>Iff.rfl⟩
 refine bC ht (aE:=[.var [SL ts]]) Tryz.func90 (c:=_) rfl rfl (N:=19) rfl (rs:=_) rfl (n:=1) rfl rfl ?_
 cbv
 refine aZ ⟨[0,1,7,8],[],[]⟩ (σ:=Nat) (fun k=>[(8,bq (t _ fun _=>(k:Int)))]) (fun _=>[]) J ?_
 cbv
 refine aA ⟨l.length,0,(hJ _ _).2 ⟨by omega,by intro i hi;simp at hi⟩,by simp only [ht];rfl,?_⟩
 rintro n k hj
 obtain ⟨h2,h3⟩:=(hJ _ _).1 hj
 clear hj
 cbv
 refine ai (fun h=>?_) (fun h=>?_)
 ·simp only [ht,aa,decide_eq_true_eq] at h
  have hk:k<l.length:=by omega
  obtain ⟨x,hx⟩:∃x,l[k]?=some x:=⟨l[k],by simp⟩
  have og:x∈l:=List.mem_of_getElem? hx
  have gY:=hf x og
  obtain ⟨px,hpx⟩:∃b,b=p x:=⟨_,rfl⟩
  rw [←hpx] at gY
  obtain ⟨nm,⟨a,b,c,d⟩,⟨e,g,u,v⟩⟩:=x
  cbv
  refine gS [.str nm,.int .u64 a,.int .u64 b,.int .u64 c,.int .u64 d,.int .u64 e,.int .u64 g,.int .u64 u,.int .u64 v] ?_ ?_ ?_
  ·simp only [ht,aa];refine ⟨by omega,h,?_⟩;rw [aF];intro r hr;obtain ⟨y,_,rfl⟩:=List.mem_map.1 hr;rfl
  ·simp [ht,aa,aF,hx]
  cbv
  refine dn trivial gY ?_
  cbv
  refine ai (fun hb=>?_) (fun hb=>?_)
  ·cbv
   refine an trivial trivial rfl rfl rfl ?_
   have e:=cN hx (hpx▸hb) h3
   simp only [ht,aa,hr,idxOf,e]
  cbv
  refine aA ⟨n-1,k+1,⟨by omega,(hJ _ _).2 ⟨by omega,?_⟩⟩,?_⟩
  ·intro i hi y hy
   by_cases hik:i<k
   ·exact h3 i hik y hy
   have:i=k:=by omega
   subst this;rw [hx] at hy;cases hy;rw [←hpx];exact hb
  simp only [ht,aa,aC (show k<9223372036854775807 by omega)];rfl
 simp only [ht,aa,decide_eq_false_iff_not] at h
 have hk:¬k<l.length:=by omega
 clear h
 cbv
 refine an trivial trivial rfl rfl rfl ?_
 rw [hr,idxOf,cS]
 intro i y hy
 have:i<l.length:=by
  rcases Nat.lt_or_ge i l.length with h'|h';· exact h'
  simp [List.getElem?_eq_none h'] at hy
 exact h3 i (by omega) y hy
theorem OE (ht:TT t) (ts:List (List D)) {l:List (aR)} {es:List (List D)} (aF:es=l.map aR.cells) (f:Nat) (p:aR→Bool) (hl:l.length<9223372036854775807)
 (hf:∀x∈l,FC f [.agg [ST x.path,az x.dc.a,az x.dc.b,az x.dc.c,az x.dc.d,az x.used.a,az x.used.b,az x.used.c,az x.used.d],.ptr 0 0] [.var [SL ts]] (.ret (BL (p x))) [.var [SL ts]]) {r:Bool} (hr:r=l.any p):FC 45 [SL es,.fn f [.ptr 0 0]] [.var [SL ts]] (.ret (BL r)) [.var [SL ts]]:=by
 obtain ⟨k,hk⟩:∃k,k=idxOf p l:=⟨_,rfl⟩
 refine bC ht (aE:=[.var [SL ts]]) Tryz.func45 (c:=_) rfl rfl (N:=9) rfl (rs:=_) rfl (n:=1) rfl rfl ?_
 cbv
 refine dn trivial (OD ht ts aF f p hl hf hk) ?_
 cbv
 refine an trivial trivial rfl rfl rfl ?_
 simp only [ht,hr,eT,hk]
theorem OF (ht:TT t) {l:List aR} {es:List (List D)} (aF:es=l.map aR.cells) (hl:l.length<100000) (fR:∀x∈l,x.path.length<1000000000000) {r:Bool} (hr:r=l.any (fun e=>!k9 l e)):
 FC 45 [SL es,.fn 105 [.ptr 0 0]] [.var [SL es]] (.ret (BL r)) [.var [SL es]]:=
 OE ht es aF 105 (fun e=>!k9 l e) (by omega) (fun x _=>RY ht x aF hl fR rfl) hr
def oP (l:List aR) (k:Nat):Option aD:=match k with
 |0=>none
 |k+1=>(l[k]?).map (·.path)
def OG (all:List aR) (q:aD) (e:aR):Bool:=!sle e.path q&&named e.path&&!decide (bM all (parent e.path)<0)
theorem I4 {all l:List aR} {k:Nat} {x:aR} (hx:all[k]?=some x):eO all (oP all k) (x::l)=((decide (k=0)||match all[k-1]? with|none=>true|some y=>OG all y.path x)&&eO all (oP all (k+1)) l):=by
 cases k with
 |zero=>simp [oP,eO,hx]
 |succ k=>
  have hk:k<all.length:=by have:=(List.getElem?_eq_some_iff.1 hx).1;omega
  simp only [oP,hx,List.getElem?_eq_getElem hk,Option.map_some,eO,OG]
  simp [List.getElem?_eq_getElem hk]
theorem OH {l:List aR} (h:l.length<1∨16<l.length∨∃x,l[0]?=some x∧x.path≠[]):gU l=false:=by
 unfold gU
 rcases h with h|h|⟨x,h,h2⟩
 ·rw [if_pos h]
 ·rw [if_neg (by omega),if_pos h]
 by_cases a:l.length<1
 ·rw [if_pos a]
 by_cases b:16<l.length
 ·rw [if_neg a,if_pos b]
 rw [if_neg a,if_neg b,if_pos (by simpa [List.getD_eq_getElem?_getD,h] using h2)]
theorem Lu {l:List aR} {x0:aR} (hx0:0<l.length→l[0]?=some x0) (h0:((l.length:Int)<1∨16<(l.length:Int))∨¬x0.path=[]):gU l=false:=by
 refine OH ?_
 by_cases a:l.length<1
 ·exact .inl a
 rcases h0 with (h|h)|h
 ·omega
 ·exact .inr (.inl (by omega))
 exact .inr (.inr ⟨x0,hx0 (by omega),h⟩)
theorem zG {l:List aR} {x0:aR} (hx0:0<l.length→l[0]?=some x0) (h0:(1≤(l.length:Int)∧(l.length:Int)≤16)∧x0.path=[]):gU l=(eO l none l&&!(l.any fun e=>!k9 l e)):=by
 unfold gU
 rw [if_neg (by omega),if_neg (by omega),if_neg (by have:=hx0 (by omega);simp [List.getD_eq_getElem?_getD,this,h0.2])]
theorem I5 {l:List aR} {x0 x y:aR} {k:Nat} {r5 rest:Bool} {r7:aD} {r9:Int} (hx0:0<l.length→l[0]?=some x0) (h0:(1≤(l.length:Int)∧(l.length:Int)≤16)∧x0.path=[])
 (j4:eO l none l=((decide (k=0)||match l[k-1]? with|none=>true|some y=>OG l y.path x)&&rest)) (my:0<k→l[k-1]?=some y) (e5:r5=named x.path) (e7:r7=parent x.path) (e9:r9=bM l r7)
 (h:0<k∧(((Op.bytesLess x.path y.path=true∨x.path=y.path)∨r5=false)∨r9<0)):gU l=false:=by
 subst e7 e5 e9
 rw [zG hx0 h0,j4,my h.1]
 have k0:¬k=0:=by omega
 rcases h.2 with ((h1|h1)|h1)|h1<;>simp [k0,OG,sle,h1]
theorem OI {l:List aR} {x y:aR} {k:Nat} {r5 rest:Bool} {r7:aD} {r9:Int}
 (my:0<k→l[k-1]?=some y) (e5:r5=named x.path) (e7:r7=parent x.path) (e9:r9=bM l r7)
 (h:0<k→((Op.bytesLess x.path y.path=false∧¬x.path=y.path)∧r5=true)∧0≤r9):((decide (k=0)||match l[k-1]? with|none=>true|some y=>OG l y.path x)&&rest)=rest:=by
 subst e7 e5 e9
 by_cases k0:k=0
 ·simp [k0]
 have h:=h (by omega)
 rw [my (by omega)]
 have:=h.2
 simp [k0,OG,sle,h.1.1.1,h.1.1.2,h.1.2];omega
theorem Ej (ht:TT t) {l:List aR} {es:List (List D)} (aF:es=l.map aR.cells) (hl:l.length<100000) (fR:∀x∈l,x.path.length<1000000000000):
 FC 40 [SL es] [] (.ret (bY (t _ fun _=>gU l))) []:=by
 obtain ⟨x0,hx0⟩:=elemAt l 0
 refine bC ht (aE:=[]) Tryz.func40 (c:=_) rfl rfl (N:=59) rfl (rs:=_) rfl (n:=0) rfl rfl ?_
 cbv
 have ar:es.length=l.length:=by rw [aF,lgM]
 iterate 3 refine gI (by simp [ht]) ?_
 refine pI (by simp [ht]) ?_
 refine gI (by simp [ht]) ?_
 (refine IA ht aF (cT:=aR.aH t) 0 x0 (fun g=>by simp [ht,aa] at g;exact ⟨rfl,hx0 (by omega)⟩) (fun _=>rfl) (fun _=>rfl) (fun g=>by exact ⟨g,trivial⟩) ?_)
 cbv
 iterate 3 refine gI (by simp [ht]) ?_
 refine pI (by simp [ht]) ?_
 refine ai (fun h0=>?_) (fun h0=>?_)
 ·simp [ht,aa,ar] at h0
  cbv
  refine an trivial trivial rfl rfl rfl ?_
  (simp only [ht];rw [Lu hx0 h0])
 simp [ht,aa,ar] at h0
 cbv
 obtain ⟨J1,fe⟩:∃J1:Nat→Int→Prop,∀n i,J1 n i↔(∃k:Nat,i=k∧k+n=l.length∧eO l none l=eO l (oP l k) (l.drop k)):=⟨fun n v=>match v with|i=>(∃k:Nat,i=k∧k+n=l.length∧eO l none l=eO l (oP l k) (l.drop k)),fun _ _=>Iff.rfl⟩
 refine aZ ⟨[1,20,21,22],[],[]⟩ (σ:=Int) (fun v=>[(22,.d (.int .i64 (t _ fun _=>v)))]) (fun v=>[]) J1 ?_
 cbv
 refine aA ⟨l.length,_,(fe _ _).2 ?_,by simp only [ht];rfl,?_⟩
 ·exact ⟨0,rfl,by simp,rfl⟩
 rintro n i hj
 replace hj:=(fe _ _).1 hj
 obtain ⟨k,rfl,j1,j4⟩:=hj
 cbv
 refine ai (fun h2=>?_) (fun h2=>?_)
 ·simp [ht,aa,ar] at h2
  cbv
  refine dg ht aF (cT:=aR.aH t) (by (simp only [ht,aa];omega)) (by (simp only [ht,aa];omega)) (fun _=>rfl) (fun _=>rfl) (fun x3 ke=>?_)
  simp [ht,aa] at ke
  rw [bO ke,I4 ke] at j4
  have sx3:=fR _ (List.mem_of_getElem? ke)
  cbv
  refine bJ [true,true,true,false,false,false,false,false,false,false,false,true,true,true,true,true,true,true,true,false,false,false,false,true,true,true,true] (by kernel_rfl) (by kernel_rfl) ?_
  cbv
  iterate 5 refine gI (by simp [ht]) ?_
  (refine HY ht aF (cT:=aR.aH t) (k-1) (fun g=>by simp [ht,aa] at g ⊢;simp [g]) (fun g=>by simp [ht,aa] at g;simp only [ht,aa];exact ⟨vX (by omega) (by omega),by omega⟩) (fun _=>rfl) (fun _=>rfl) (fun y my=>?_);simp [ht,aa] at my)
  cbv
  iterate 6 refine gI (by simp [ht]) ?_
  refine aM (fun g4=>⟨by simp [ht] at g4 ⊢;exact g4,trivial,wq ht _ (by assumption)⟩) rfl rfl (fun r5 jA=>?_)
  simp only [ht] at jA
  cbv
  refine gI (by simp [ht]) ?_
  refine gI (by simp [ht,ak];intros;simp_all) ?_
  iterate 4 refine gI (by simp [ht]) ?_
  refine aM (fun g6=>⟨by simp [ht] at g6 ⊢;exact g6,trivial,sV ht _ (by assumption)⟩) rfl rfl (fun r7 gL=>?_)
  simp only [ht] at gL
  cbv
  refine aM (fun g8=>⟨by simp [ht] at g8 ⊢;exact g8,trivial,kj ht _ (by assumption) (by omega)⟩) rfl rfl (fun r9 dN=>?_)
  simp only [ht] at dN
  cbv
  refine gI (by simp [ht]) ?_
  refine gI (by simp [ht,ak];intros;simp_all) ?_
  refine pI (by simp [ht]) ?_
  refine ai (fun h10=>?_) (fun h10=>?_)
  ·simp [ht,aa] at h10
   cbv
   refine an trivial trivial rfl rfl rfl ?_
   (simp only [ht];rw [I5 hx0 h0 j4 my jA gL dN h10])
  simp [ht,aa] at h10
  cbv
  refine bf _ (by simp only [ht];rfl) (n-1) ?_ ((fe _ _).2 ?_)
  ·omega
  simp only [aa]
  exact ⟨k+1,aC (by omega),by omega,j4.trans (OI my jA gL dN h10)⟩
 simp [ht,aa,ar] at h2
 cbv
 (obtain ⟨r9,dN⟩:∃r,r=l.any (fun e=>!k9 l e):=⟨_,rfl⟩;refine cE [0] trivial rfl rfl (OF ht aF (by omega) fR dN) (bK ?_))
 cbv
 refine an trivial trivial rfl rfl rfl ?_
 (rw [List.drop_eq_nil_of_le (by omega),eO] at j4;simp only [ht,zG hx0 h0,j4,Bool.true_and,←dN];done)
theorem I6 {s:aD} {p m:Int}:((aU s p m).t.length:Int)≤max m 0:=by
 unfold aU
 split
 ·rename_i h
  simp only [List.length_take,List.length_drop];omega
 simp [Fk.no];omega
def ZU (r:bB aR):AV:=.dF [N6 r.x,bq r.next,BL r.ok]
def XE (t:Th) (r:bB (List aR)):AV:=.dF [Ro t r.x,bq r.next,BL r.ok]
theorem UU (ht:TT t) (s:aD) (p:Int) (hs:s.length<9223372036854775000) (hp:p<9223372036854775808):FC 183 [ST s,bq p] [] (.ret (ZU (t _ fun _=>xY s p))) []:=by
 refine bC ht (aE:=[]) Tryz.func183 (c:=_) rfl rfl (N:=40) rfl (rs:=_) rfl (n:=0) rfl rfl ?_
 cbv
 refine ay trivial (gJ ht _ _ _ (by assumption) (by assumption) (by omega)) trivial rfl rfl (fun r0 bE=>?_)
 simp only [ht] at bE
 have RK:=dw (s:=s) (p:=p) (m:=98) hs
 (try rw [←bE] at RK)
 (try obtain ⟨abV,abW,abX⟩:=RK)
 cbv
 refine ai (fun h1=>?_) (fun h1=>?_)
 ·simp [ht] at h1
  cbv
  refine an trivial trivial rfl rfl rfl ?_
  (simp only [ht,xY,bB.TV,aR.zero,bz.zero];grind)
 simp [ht] at h1
 cbv
 refine ay trivial (wI ht _ _ (by assumption) (by (refine Int.lt_of_le_of_lt (by assumption) (by ((try simp only [aa] at*);omega))))) trivial rfl rfl (fun r2 cP=>?_)
 simp only [ht] at cP
 have ae2:(r2).next≤s.length:=by rw [cP];exact sP
 cbv
 refine ai (fun h3=>?_) (fun h3=>?_)
 ·simp [ht] at h3
  cbv
  refine an trivial trivial rfl rfl rfl ?_
  (simp only [ht,xY,bB.TV,aR.zero,bz.zero];grind)
 simp [ht] at h3
 cbv
 refine ay trivial (wI ht _ _ (by assumption) (by (refine Int.lt_of_le_of_lt (by assumption) (by ((try simp only [aa] at*);omega))))) trivial rfl rfl (fun r4 dO=>?_)
 simp only [ht] at dO
 have ae3:(r4).next≤s.length:=by rw [dO];exact sP
 cbv
 refine an trivial trivial rfl rfl rfl ?_
 (simp only [ht,xY,bB.TV,aR.zero,bz.zero];grind)
theorem UW {s:aD} {p:Int}:(xY s p).next≤s.length:=by
 unfold xY;split;· simp [bB.TV]
 split;· simp [bB.TV]
 exact sP
theorem UX {s:aD} {p:Int}:(xY s p).x.path.length<1000000000000:=by
 have:=I6 (s:=s) (p:=p) (m:=98)
 unfold xY;split;· simp [bB.TV,aR.zero]
 split;· simp [bB.TV,aR.zero]
 simp only;omega
theorem Lv {s:aD} {n:Nat} {l:List aR} {p:Int} {r:bB aR} (e:r=xY s p):lB s (n+1) l p=if !r.ok then bB.nW else if decide (r.x=aR.zero)&&decide (0<l.length) then bB.nW else lB s n (l++[r.x]) r.next:=by rw [lB,e]
theorem XF {x y:aR}:x=y↔x.path=y.path∧x.dc=y.dc∧x.used=y.used:=by cases x;cases y;simp
theorem I7 {x:aR}:x=aR.zero↔x.path=[]∧(x.dc.a=0∧x.dc.b=0∧x.dc.c=0∧x.dc.d=0)∧x.used.a=0∧x.used.b=0∧x.used.c=0∧x.used.d=0:=by
 rw [XF,nT,nT];simp [aR.zero,bz.zero]
theorem RZ {s:aD} {p:Int} {r:z8} (e:r=bD s p) (h:r.ok=false∨16<r.u):BJ s p=bB.nW:=by
 unfold BJ
 rw [←e]
 by_cases a:r.ok=true
 ·rcases h with h|h
  ·rw [a] at h;cases h
  simp [a,h]
 simp [a]
theorem R3 {s:aD} {p:Int} {r:z8} (e:r=bD s p) (h:r.ok=true∧r.u≤16) (j:lB s r.u.toNat [] r.next=bB.nW):BJ s p=bB.nW:=by
 unfold BJ
 rw [←e,j]
 simp only [h.1,bB.nW]
 split<;>simp
theorem I8 {s:aD} {p a:Int} {r:z8} {rs:List aR} (e:r=bD s p) (h:r.ok=true∧r.u≤16) (j:lB s r.u.toNat [] r.next=⟨rs,a,true⟩):BJ s p=if gU rs then ⟨rs,a,true⟩ else bB.nW:=by
 unfold BJ
 rw [←e,j]
 have:¬16<r.u:=by omega
 cases hr:gU rs<;>simp [h.1,this]
theorem Lw {r:bB aR} {rs:List aR} {z:bB (List aR)} (h:r.ok=false∨(r.x.path=[]∧(r.x.dc.a=0∧r.x.dc.b=0∧r.x.dc.c=0∧r.x.dc.d=0)∧r.x.used.a=0∧r.x.used.b=0∧r.x.used.c=0∧r.x.used.d=0)∧0<rs.length):
 (if (!r.ok)=true then bB.nW else if (decide (r.x=aR.zero)&&decide (0<rs.length))=true then bB.nW else z)=bB.nW:=by
 rcases h with h|⟨h,h2⟩
 ·simp [h]
 rw [←I7] at h
 split;· rfl
 rw [if_pos (by simp [h,h2])]
theorem R4 {r:bB aR} {rs:List aR} {z:bB (List aR)} (h:r.ok=true∧(r.x.path=[]→r.x.dc.a=0→r.x.dc.b=0→r.x.dc.c=0→r.x.dc.d=0→r.x.used.a=0→r.x.used.b=0→r.x.used.c=0→r.x.used.d=0→rs=[])):
 (if (!r.ok)=true then bB.nW else if (decide (r.x=aR.zero)&&decide (0<rs.length))=true then bB.nW else z)=z:=by
 rw [if_neg (by simp [h.1]),if_neg]
 rw [Bool.and_eq_true]
 rintro ⟨h1,h2⟩
 rw [decide_eq_true_eq,I7] at h1
 obtain ⟨a,⟨b,c,d,e⟩,f,g,i,j⟩:=h1
 rw [h.2 a b c d e f g i j] at h2
 simp at h2
theorem UY (ht:TT t) (s:aD) (p:Int) (hs:s.length<9223372036854775000) (hp:p<9223372036854775808):FC 136 [ST s,bq p] [] (.ret (XE t (t _ fun _=>BJ s p))) []:=by
 refine bC ht (aE:=[]) Tryz.func136 (c:=_) rfl rfl (N:=57) rfl (rs:=_) rfl (n:=0) rfl rfl ?_
 cbv
 refine ay trivial (fu ht _ _ (by assumption) (by assumption)) trivial rfl rfl (fun r0 bE=>?_)
 simp only [ht] at bE
 have gb:=eM (s:=s) (p:=p)
 rw [←bE] at gb
 cbv
 iterate 2 refine gI (by simp [ht]) ?_
 refine pI (by simp [ht]) ?_
 refine ai (fun h1=>?_) (fun h1=>?_)
 ·simp [ht] at h1
  cbv
  refine an trivial trivial rfl rfl rfl ?_
  (simp only [ht,RZ bE h1,bB.nW];rfl)
 simp [ht] at h1
 cbv
 obtain ⟨J2,FM⟩:∃J2:Nat→Int×List (List D)×Int→Prop,∀n a o i,J2 n (a,o,i)↔(∃(k:Nat) (rs:List aR),i=k∧k+n=r0.u.toNat∧o=rs.map aR.cells∧rs.length=k∧a<9223372036854775808∧(∀x∈rs,x.path.length<1000000000000)∧lB s r0.u.toNat [] r0.next=lB s n rs a):=⟨fun n v=>match v with|(a,o,i)=>(∃(k:Nat) (rs:List aR),i=k∧k+n=r0.u.toNat∧o=rs.map aR.cells∧rs.length=k∧a<9223372036854775808∧(∀x∈rs,x.path.length<1000000000000)∧lB s r0.u.toNat [] r0.next=lB s n rs a),fun _ _ _ _=>Iff.rfl⟩
 refine aZ ⟨[0,1,4,24,25],[(4,9)],[]⟩ (σ:=Int×List (List D)×Int) (fun v=>[(1,.d (.int .i64 (t _ fun _=>v.1))),(4,.ow 0 9 (t _ fun _=>(v.2.1).length)),(25,.d (.int .u64 (t _ fun _=>v.2.2)))]) (fun v=>[(0,.row 9 (t _ fun _=>v.2.1))]) J2 ?_
 cbv
 refine aA ⟨r0.u.toNat,(_,[],_),(FM _ _ _ _).2 ?_,by simp only [ht];rfl,?_⟩
 ·(have g:=gb (by simp_all);exact ⟨0,[],rfl,by omega,rfl,rfl,Int.lt_of_le_of_lt g.2.2.1 (by ((try simp only [aa] at*);omega)),by simp,rfl⟩)
 rintro n ⟨a,o,i⟩ hj
 replace hj:=(FM _ _ _ _).1 hj
 obtain ⟨k,rs,j1,j3,j2,j5,j6,j7,j4⟩:=hj
 have tV:o.length=rs.length:=by rw [j2,lgM]
 cbv
 refine ai (fun h3=>?_) (fun h3=>?_)
 ·simp [ht] at h3
  cbv
  refine ay trivial (UU ht _ _ (by assumption) (by (simp only [ht];omega))) trivial rfl rfl (fun r4 dO=>?_)
  simp only [ht] at dO
  have RL:=UW (s:=s) (p:=a)
  have gb3:=UX (s:=s) (p:=a)
  rw [←dO] at RL gb3
  obtain ⟨m,rfl⟩:∃m,n=m+1:=⟨n-1,by ((try simp only [aa] at*);omega)⟩
  rw [Lv dO] at j4
  cbv
  iterate 7 refine gI (by simp [ht]) ?_
  refine gI (by simp [ht,ak];intros;simp_all) ?_
  refine pI (by simp [ht]) ?_
  refine ai (fun h5=>?_) (fun h5=>?_)
  ·simp [ht,aa,tV] at h5
   cbv
   refine an trivial trivial rfl rfl rfl ?_
   (simp only [ht,R3 bE h1 (j4.trans (Lw h5)),bB.nW];rfl)
  simp [ht,aa,tV] at h5
  cbv
  refine ⟨?_,?_⟩
  ·(simp only [ht,true_and];exact zb j2 (fun _=>rfl) rfl (by omega) (by decide))
  cbv
  refine bf (_,_,_) (by simp only [ht,←List.length_append];rfl) m ?_ ((FM _ _ _ _).2 ?_)
  ·omega
  simp only [aa]
  exact ⟨k+1,rs++[(r4).x],by rw [bG];((try simp only [aa] at*);omega),by omega,by rw [j2];simp,by simp;omega,Int.lt_of_le_of_lt RL (by ((try simp only [aa] at*);omega)),(by intro y hy;rcases List.mem_append.1 hy with hy|hy;exact j7 y hy;simp at hy;rw [hy];exact gb3),j4.trans (R4 h5)⟩
 simp [ht] at h3
 cbv
 refine ay trivial (Ej ht (by (simp only [ht];omega)) (by omega) (by assumption)) (by simp [ht]) rfl rfl (fun r6 gv=>?_)
 simp only [ht] at gv
 cbv
 refine ai (fun h7=>?_) (fun h7=>?_)
 ·simp [ht] at h7
  cbv
  refine an trivial trivial rfl rfl rfl ?_
  (have n0:n=0:=(by ((try simp only [aa] at*);omega));subst n0;rw [lB] at j4;have te:=I8 bE h1 j4;rw [←gv,h7] at te;simp only [ht,te,bB.nW];rfl)
 simp [ht] at h7
 cbv
 refine an trivial (by simp [ht]) rfl rfl rfl ?_
 (have n0:n=0:=(by ((try simp only [aa] at*);omega));subst n0;rw [lB] at j4;have te:=I8 bE h1 j4;rw [←gv,h7] at te;simp [ht,te,j2];done)
def kB (s:aD):Nat→List Jb→Int→Option (List Jb×Int)
 |0,l,p=>some (l,p)
 |n+1,l,p=>match Ei s p with
  |some (j,q)=>kB s n (l++[j]) q
  |none=>none
theorem zH {s:aD} {n:Nat} {l L:List Jb} {p e:Int} (h:kB s n l p=some (L,e)):n=0∨∃m j q,n=m+1∧Ei s p=some (j,q)∧kB s m (l++[j]) q=some (L,e):=by
 cases n with
 |zero=>exact .inl rfl
 |succ m=>
  rw [kB] at h
  split at h
  ·rename_i j q g;exact .inr ⟨m,j,q,rfl,g,h⟩
  cases h
theorem yo {s:aD}:∀{n:Nat} {l L:List Jb} {p e:Int},kB s n l p=some (L,e)→0≤p→p≤s.length→(0≤e∧e≤s.length)∧L.length=l.length+n∧∀x∈l,x∈L
 |0,l,L,p,e,h,h1,h2=>by rw [kB] at h;simp only [osI,Prod.mk.injEq] at h;obtain ⟨rfl,rfl⟩:=h;exact ⟨⟨h1,h2⟩,rfl,fun x h=>h⟩
 |n+1,l,L,p,e,h,h1,h2=>by
  rcases zH h with h0|⟨m,j,q,e1,g1,g2⟩
  ·cases h0
  cases e1
  have b:=M6 g1
  have:=yo g2 b.1 b.2
  simp only [List.length_append,List.length_singleton,List.mem_append,List.mem_singleton] at this
  exact ⟨this.1,by omega,fun x hx=>this.2.2 x (.inl hx)⟩
theorem R5 {l:List Jb} {a b c d e f g h j:Int} {q:aD} {r:Bool} {sr:List (List D)} (hl:l.length<1000000):((l.map Jb.cells).length+[[D.int .u64 a,D.str q,D.int .u64 b,D.int .u64 c,D.int .u64 d,D.int .u64 e,D.int .i64 f,D.int .i64 g,D.int .i64 h,D.sl sr,D.bool r,D.int .i64 j]].length)*120≤140737488355328∧∀x,x∈l.map Jb.cells++[[D.int .u64 a,D.str q,D.int .u64 b,D.int .u64 c,D.int .u64 d,D.int .u64 e,D.int .i64 f,D.int .i64 g,D.int .i64 h,D.sl sr,D.bool r,D.int .i64 j]]→x.length=12:=by
 refine ⟨by simp;omega,?_⟩
 intro x hx
 rcases List.mem_append.1 hx with hx|hx
 ·obtain ⟨y,_,rfl⟩:=List.mem_map.1 hx;rfl
 rw [List.mem_singleton.1 hx];rfl
theorem OJ (ht:TT t) (s:aD) {p p1 p2 p3 p4 p5 p6 p7 e c:Int} (rd nx ef af:Int) {nl:List Node} {pl:List Place} {tl:List aR} {jl:List Jb} {ql:List bX} {el al:List bU} {ns ps ts js qs es cY:List (List D)} (gX:ns=nl.map Node.cells) (hps:ps=pl.map Place.cells) (hts:ts=tl.map aR.cells) (gi:js=jl.map Jb.cells) (fq:qs=ql.map bX.cells) (aF:es=el.map bU.cells) (has:cY=al.map bU.cells) (hs:s.length<9223372036854775000) (hp:p<9223372036854775808) (hq:ql=[])
 (g1:bD s p=⟨rd,p1,true⟩) (g2:bD s p1=⟨nx,p2,true⟩) (g3:Ib s p2=⟨⟨nl,pl⟩,p3,true⟩) (l3:p3≤s.length) (g4:BJ s p3=⟨tl,p4,true⟩) (l4:p4≤s.length)
 (g5:bD s p4=⟨c,p5,true⟩) (g6:kB s c.toNat [] p5=some (jl,p6)) (hjl:jl.length<1000000) (fR:∀j∈jl,j.x.sm)
 (g7:lm s p6=some (⟨ef,el⟩,p7)) (hel:el.length<1000000) (g8:lm s p7=some (⟨af,al⟩,e)) (hal:al.length<1000000):
 FC 78 [.ptr 0 0] [.var [ST s,bq p]] (.ret (.agg [az rd,az nx,SL ns,SL ps,SL ts,SL js,SL qs,az ef,SL es,az af,SL cY])) [.var [ST s,bq e]]:=by
 have b1:=fw g1
 have b2:=fw g2
 have b5:=fw g5
 have b6:=yo g6 b5.2.2.1 b5.2.2.2
 have b7:=I1 g7
 have b8:=I1 g8
 have b60:=b6.1
 have b61:=b6.2.1
 simp only [List.length_nil,Nat.zero_add] at b61
 subst hq
 refine bC ht (aE:=[.var [ST s,bq p]]) Tryz.func78 (c:=_) rfl rfl (N:=89) rfl (rs:=_) rfl (n:=1) rfl rfl ?_
 cbv
 have fj:ns.length=nl.length:=by rw [gX,lgM]
 have fE:ps.length=pl.length:=by rw [hps,lgM]
 have fZ:ts.length=tl.length:=by rw [hts,lgM]
 have dy:js.length=jl.length:=by rw [gi,lgM]
 have ar:es.length=el.length:=by rw [aF,lgM]
 have dU:cY.length=al.length:=by rw [has,lgM]
 (refine cE [0] trivial rfl rfl (kH ht s hs (by omega) g1) (bK ?_))
 cbv
 (refine cE [0] trivial rfl rfl (kH ht s hs (by ((try simp only [aa] at*);omega)) g2) (bK ?_))
 cbv
 refine vM [0,4] [0,4,9,10,11,12] [false,false,false,false,false,false,false,false,false,false,false,false,false,false,true,true,true] (by kernel_rfl) (by kernel_rfl) (by kernel_rfl) (by kernel_rfl) (by kernel_rfl) (by kernel_rfl) ?_
 cbv
 iterate 8 refine gI (by simp) ?_
 refine .inl ?_
 refine iu (fun g0=>⟨trivial,trivial,UE ht _ _ (by assumption) (by ((try simp only [aa] at*);omega))⟩) rfl rfl rfl (fun r1 cX=>?_)
 simp only [ht] at cX
 (rw [g3] at cX;subst cX)
 cbv
 iterate 4 refine gI (by simp) ?_
 (refine cE [0] trivial rfl rfl (wM ht s _ _) (bK ?_))
 cbv
 refine bJ [false,false,false,false,false,false,false,false,true,true,false,false,false,false,false,true] (by kernel_rfl) (by kernel_rfl) ?_
 cbv
 iterate 8 refine gI (by simp) ?_
 refine aS trivial (UY ht _ _ (by assumption) (by ((try simp only [aa] at*);omega))) trivial rfl rfl rfl (fun r2 cP=>?_)
 simp only [ht] at cP
 (rw [g4] at cP;subst cP)
 cbv
 iterate 5 refine gI (by simp) ?_
 (refine cE [0] trivial rfl rfl (wM ht s _ _) (bK ?_))
 cbv
 (refine cE [0] trivial rfl rfl (kH ht s hs (by ((try simp only [aa] at*);omega)) g5) (bK ?_))
 cbv
 obtain ⟨J3,FN⟩:∃J3:Nat→Int×List (List D)×Int→Prop,∀n i o a,J3 n (i,o,a)↔(∃(k:Nat) (l:List Jb),i=k∧k+n=c.toNat∧o=l.map Jb.cells∧l.length=k∧0≤a∧a≤s.length∧kB s n l a=some (jl,p6)):=⟨fun n v=>match v with|(i,o,a)=>(∃(k:Nat) (l:List Jb),i=k∧k+n=c.toNat∧o=l.map Jb.cells∧l.length=k∧0≤a∧a≤s.length∧kB s n l a=some (jl,p6)),fun _ _ _ _=>Iff.rfl⟩
 refine aZ ⟨[0,2,3,54,55],[],[(2,5,12)]⟩ (σ:=Int×List (List D)×Int) (fun v=>[(55,.d (.int .u64 (t _ fun _=>v.1)))]) (fun v=>[(3,.row 12 (t _ fun _=>v.2.1)),(2,.var [AV.d (D.int IntKind.u64 rd),AV.d (D.int IntKind.u64 nx),AV.d (D.sl (t (List (List D)) fun x=>List.map (fun x=>[D.str (Node.name x),D.int IntKind.u64 (bz.a (Node.cap x)),D.int IntKind.u64 (bz.b (Node.cap x)),D.int IntKind.u64 (bz.c (Node.cap x)),D.int IntKind.u64 (bz.d (Node.cap x)),D.sl (List.map (fun p=>[D.str (bT.key p),D.str (bT.value p)]) (Node.labels x)),D.bool (Node.up x)]) (cO.nodes {nodes:=nl,places:=pl}))),AV.d (D.sl (t (List (List D)) fun x=>List.map (fun x=>[D.int IntKind.u64 (Place.bu x),D.str (Place.node x),D.int IntKind.u64 (bz.a (Place.v x)),D.int IntKind.u64 (bz.b (Place.v x)),D.int IntKind.u64 (bz.c (Place.v x)),D.int IntKind.u64 (bz.d (Place.v x))]) (cO.places {nodes:=nl,places:=pl}))),AV.d (D.sl (t (List (List D)) fun x=>List.map (fun e=>[D.str (aR.path e),D.int IntKind.u64 (bz.a (aR.dc e)),D.int IntKind.u64 (bz.b (aR.dc e)),D.int IntKind.u64 (bz.c (aR.dc e)),D.int IntKind.u64 (bz.d (aR.dc e)),D.int IntKind.u64 (bz.a (aR.used e)),D.int IntKind.u64 (bz.b (aR.used e)),D.int IntKind.u64 (bz.c (aR.used e)),D.int IntKind.u64 (bz.d (aR.used e))]) tl)),.ow 3 12 (t _ fun _=>(v.2.1).length),AV.cl [],AV.d (D.int IntKind.u64 0),AV.cl [],AV.d (D.int IntKind.u64 0),AV.cl []]),(0,.var [AV.d (D.str s),.d (.int .i64 (t _ fun _=>v.2.2))])]) J3 ?_
 cbv
 refine aA ⟨c.toNat,(_,[],_),(FN _ _ _ _).2 ?_,by simp only [ht];rfl,?_⟩
 ·exact ⟨0,[],rfl,by omega,rfl,rfl,b5.2.2.1,b5.2.2.2,g6⟩
 rintro n ⟨i,o,a⟩ hj
 replace hj:=(FN _ _ _ _).1 hj
 obtain ⟨k,l,rfl,j1,rfl,j3,j4,j5,j6⟩:=hj
 have hx:=zH j6
 cbv
 refine ai (fun h4=>?_) (fun h4=>?_)
 ·simp [ht,aa] at h4
  cbv
  (obtain ⟨m,⟨ji,⟨jq,⟨ja,jb,jc,jd⟩,jn,jp,jt,jB⟩,jr,jf⟩,q,rfl,gx,gy⟩:=hx.resolve_left (by ((try simp only [aa] at*);omega));have bx:=M6 gx;have bm:=(yo gy bx.1 bx.2).2.2 _ (List.mem_append_right _ (List.mem_singleton.2 rfl));have bs:=fR _ bm;obtain ⟨_,_,_,_,_,br,_,_⟩:=ym gx;simp only at br;subst br;obtain ⟨tn,m8⟩:∃tn,tn=jB.map Term.cells:=⟨_,rfl⟩;refine cE [0] trivial rfl rfl (UR ht s ji ja jb jc jd jn jp jt jf jq true m8 hs (by simp only [ht];((try simp only [aa] at*);omega)) bs (by simp only [ht];exact gx)) (bK ?_))
  cbv
  refine ⟨?_,?_⟩
  ·(simp only [ht,true_and];exact R5 (l:=l) (by omega))
  cbv
  refine ai (fun h5=>?_) (fun h5=>?_)
  ·simp [ht] at h5
  simp [ht] at h5
  cbv
  refine bf (_,_,_) (by simp only [ht,←List.length_append];rfl) m ?_ ((FN _ _ _ _).2 ?_)
  ·omega
  simp only [aa]
  exact ⟨k+1,l++[⟨ji,⟨jq,⟨ja,jb,jc,jd⟩,jn,jp,jt,jB⟩,true,jf⟩],M4 (by omega),by omega,by simp [Jb.cells,m8],by simp;omega,bx.1,bx.2,gy⟩
 simp [ht,aa] at h4
 cbv
 ((have hn:n=0:=(by ((try simp only [aa] at*);omega));subst hn;rw [kB] at j6;simp only [osI,Prod.mk.injEq] at j6;obtain ⟨j7,j8⟩:=j6;refine cE [0] trivial rfl rfl (I2 ht s hs (by simp only [ht];((try simp only [aa] at*);omega)) hel aF (by simp only [ht];rw [j8];exact g7)) (bK ?_)))
 cbv
 ((refine cE [0] trivial rfl rfl (I2 ht s hs (by ((try simp only [aa] at*);omega)) hal has g8) (bK ?_)))
 cbv
 (exact an trivial (by simp [ht]) rfl (by simp only [ht];rfl) rfl (by simp only [ht,gX,hps,hts,gi,fq,j7];rfl))
def Jb.aH (t:Th) (j:Jb):List D:=[.int .u64 j.id,.str j.x.path,.int .u64 j.x.fQ.a,.int .u64 j.x.fQ.b,.int .u64 j.x.fQ.c,.int .u64 j.x.fQ.d,.int .i64 j.x.count,.int .i64 j.x.prio,.int .i64 j.x.dS,.sl (t _ fun _=>j.x.b9.map Term.cells),.bool j.runs,.int .i64 j.left]
def EJb (t:Th) (j:Jb):AV:=.agg [az j.id,ST j.x.path,az j.x.fQ.a,az j.x.fQ.b,az j.x.fQ.c,az j.x.fQ.d,bq j.x.count,bq j.x.prio,bq j.x.dS,SL (t _ fun _=>j.x.b9.map Term.cells),BL j.runs,bq j.left]
def ab7 (t:Th) (r:Jb×Bool):AV:=.dF [EJb t r.1,BL r.2]
theorem R6 (ht:TT t) (id:Int) {l:List (Jb)} {es:List (List D)} (aF:es=l.map Jb.cells) (f:Nat) (p:Jb→Bool) (hl:l.length<9223372036854775807)
 (hf:∀x∈l,FC f [.agg [az x.id,ST x.x.path,az x.x.fQ.a,az x.x.fQ.b,az x.x.fQ.c,az x.x.fQ.d,bq x.x.count,bq x.x.prio,bq x.x.dS,SL (x.x.b9.map Term.cells),BL x.runs,bq x.left],.ptr 0 0] [.var [az id]] (.ret (BL (p x))) [.var [az id]]) {r:Int} (hr:r=idxOf p l):FC 122 [SL es,.fn f [.ptr 0 0]] [.var [az id]] (.ret (bq r)) [.var [az id]]:=by
 have hel:es.length=l.length:=by rw [aF,lgM]
 obtain ⟨J,hJ⟩:∃J:Nat→Nat→Prop,∀n v,J n v↔(v+n=l.length∧∀i<v,∀x,l[i]?=some x→p x=false):=⟨fun n v=>v+n=l.length∧∀i<v,∀x,l[i]?=some x→p x=false,fun _ _=>Iff.rfl⟩
 refine bC ht (aE:=[.var [az id]]) Tryz.func122 (c:=_) rfl rfl (N:=19) rfl (rs:=_) rfl (n:=1) rfl rfl ?_
 cbv
 refine aZ ⟨[0,1,7,8],[],[]⟩ (σ:=Nat) (fun k=>[(8,bq (t _ fun _=>(k:Int)))]) (fun _=>[]) J ?_
 cbv
 refine aA ⟨l.length,0,(hJ _ _).2 ⟨by omega,by intro i hi;simp at hi⟩,by simp only [ht];rfl,?_⟩
 rintro n k hj
 obtain ⟨h2,h3⟩:=(hJ _ _).1 hj
 clear hj
 cbv
 refine ai (fun h=>?_) (fun h=>?_)
 ·simp only [ht,aa,decide_eq_true_eq] at h
  have hk:k<l.length:=by omega
  obtain ⟨x,hx⟩:∃x,l[k]?=some x:=⟨l[k],by simp⟩
  have og:x∈l:=List.mem_of_getElem? hx
  have gY:=hf x og
  obtain ⟨px,hpx⟩:∃b,b=p x:=⟨_,rfl⟩
  rw [←hpx] at gY
  obtain ⟨id',⟨p',⟨a',b',c',d'⟩,n',pr',Pr,ru⟩,rn',lf'⟩:=x;obtain ⟨JH,pS⟩:∃lr:List (List D),lr=ru.map Term.cells:=⟨_,rfl⟩;simp only [←pS] at gY
  cbv
  refine gS [.int .u64 id',.str p',.int .u64 a',.int .u64 b',.int .u64 c',.int .u64 d',.int .i64 n',.int .i64 pr',.int .i64 Pr,.sl JH,.bool rn',.int .i64 lf'] ?_ ?_ ?_
  ·simp only [ht,aa];refine ⟨by omega,h,?_⟩;rw [aF];intro r hr;obtain ⟨y,_,rfl⟩:=List.mem_map.1 hr;rfl
  ·simp [ht,aa,aF,hx,pS,Jb.cells]
  cbv
  refine dn trivial gY ?_
  cbv
  refine ai (fun hb=>?_) (fun hb=>?_)
  ·cbv
   refine an trivial trivial rfl rfl rfl ?_
   have e:=cN hx (hpx▸hb) h3
   simp only [ht,aa,hr,idxOf,e]
  cbv
  refine aA ⟨n-1,k+1,⟨by omega,(hJ _ _).2 ⟨by omega,?_⟩⟩,?_⟩
  ·intro i hi y hy
   by_cases hik:i<k
   ·exact h3 i hik y hy
   have:i=k:=by omega
   subst this;rw [hx] at hy;cases hy;rw [←hpx];exact hb
  simp only [ht,aa,aC (show k<9223372036854775807 by omega)];rfl
 simp only [ht,aa,decide_eq_false_iff_not] at h
 have hk:¬k<l.length:=by omega
 clear h
 cbv
 refine an trivial trivial rfl rfl rfl ?_
 rw [hr,idxOf,cS]
 intro i y hy
 have:i<l.length:=by
  rcases Nat.lt_or_ge i l.length with h'|h';· exact h'
  simp [List.getElem?_eq_none h'] at hy
 exact h3 i (by omega) y hy
theorem OK (ht:TT t) (id i n k l a b c d:Int) (p:aD) (sr:List (List D)) (rn:Bool) (lf:Int):FC 123 [.agg [az i,ST p,az a,az b,az c,az d,bq n,bq k,bq l,SL sr,BL rn,bq lf],.ptr 0 0] [.var [az id]] (.ret (BL (decide (i=id)))) [.var [az id]]:=by
 refine bC ht (aE:=[.var [az id]]) Tryz.func123 (c:=_) rfl rfl (N:=8) rfl (rs:=_) rfl (n:=1) rfl rfl ?_
 cbv
 refine an trivial trivial rfl rfl rfl ?_
 simp [ht]
theorem tv (ht:TT t) (id rd nx ef af:Int) (ns ps ts qs el al:List (List D)) {l:List Jb} {es:List (List D)} (aF:es=l.map Jb.cells) (hl:l.length<1000000000):
 FC 61 [.agg [az rd,az nx,SL ns,SL ps,SL ts,SL es,SL qs,az ef,SL el,az af,SL al],az id] [] (.ret (kR (t _ fun _=>KR l id))) []:=by
 obtain ⟨r,hr⟩:∃r,r=KR l id:=⟨_,rfl⟩
 refine bC ht (aE:=[]) Tryz.func61 (c:=_) rfl rfl (N:=9) rfl (rs:=_) rfl (n:=0) rfl rfl ?_
 cbv
 refine cE [1] trivial rfl rfl (R6 ht id aF 123 (fun x=>decide (x.id=id)) (by omega) (fun x _=>OK ht id _ _ _ _ _ _ _ _ _ _ _ _) (r:=r) hr) (bK ?_)
 cbv
 exact an trivial trivial rfl rfl rfl (by simp [ht,hr])
theorem wN (ht:TT t) (id rd nx ef af:Int) (ns ps ts qs el al:List (List D)) {l:List Jb} {es:List (List D)} (aF:es=l.map Jb.cells) (hl:l.length<1000000000):
 FC 19 [.agg [az rd,az nx,SL ns,SL ps,SL ts,SL es,SL qs,az ef,SL el,az af,SL al],az id] [] (.ret (ab7 t (t _ fun _=>eH l id))) []:=by
 refine bC ht (aE:=[]) Tryz.func19 (c:=_) rfl rfl (N:=18) rfl (rs:=_) rfl (n:=0) rfl rfl ?_
 cbv
 have ar:es.length=l.length:=by rw [aF,lgM]
 refine ay trivial (tv ht _ _ _ _ _ _ _ _ _ _ _ (by assumption) (by assumption)) trivial rfl rfl (fun r0 bE=>?_)
 simp only [ht] at bE
 have ec:=cU bE
 clear bE
 rcases ec with ⟨e1,e2,e3⟩|⟨i,x,hi,hil,e1,e2,e3,e4⟩
 ·cbv
  refine ai (fun h1=>?_) (fun h1=>?_)
  ·simp [ht] at h1
   cbv
   refine an trivial trivial rfl rfl rfl ?_
   (simp [ht,eH,e3,Jb.zero,Ask.zero,bz.zero];done)
  simp [ht] at h1
  omega
 cbv
 refine ai (fun h2=>?_) (fun h2=>?_)
 ·simp [ht] at h2
  (simp only [aa] at*;omega)
 simp [ht] at h2
 cbv
 refine Bz ht aF (cT:=Jb.aH t) e1 (by assumption) (fun _=>rfl) (fun _=>(by (simp only [ht,Jb.aH];rfl))) ?_
 cbv
 refine an trivial trivial rfl rfl rfl ?_
 (simp [ht,eH,e4];done)
theorem OL (ht:TT t) (ts:List (List D)) {l:List (aD)} {es:List (List D)} (aF:es=l.map aT) (f:Nat) (p:aD→Bool) (hl:l.length<9223372036854775807)
 (hf:∀x∈l,FC f [.d (.str x),.ptr 0 0] [.var [SL ts]] (.ret (BL (p x))) [.var [SL ts]]) {r:Int} (hr:r=idxOf p l):FC 163 [SL es,.fn f [.ptr 0 0]] [.var [SL ts]] (.ret (bq r)) [.var [SL ts]]:=by
 have hel:es.length=l.length:=by rw [aF,lgM]
 obtain ⟨J,hJ⟩:∃J:Nat→Nat→Prop,∀n v,J n v↔(v+n=l.length∧∀i<v,∀x,l[i]?=some x→p x=false):=⟨fun n v=>v+n=l.length∧∀i<v,∀x,l[i]?=some x→p x=false,fun _ _=>Iff.rfl⟩
 refine bC ht (aE:=[.var [SL ts]]) Tryz.func163 (c:=_) rfl rfl (N:=19) rfl (rs:=_) rfl (n:=1) rfl rfl ?_
 cbv
 refine aZ ⟨[0,1,7,8],[],[]⟩ (σ:=Nat) (fun k=>[(8,bq (t _ fun _=>(k:Int)))]) (fun _=>[]) J ?_
 cbv
 refine aA ⟨l.length,0,(hJ _ _).2 ⟨by omega,by intro i hi;simp at hi⟩,by simp only [ht];rfl,?_⟩
 rintro n k hj
 obtain ⟨h2,h3⟩:=(hJ _ _).1 hj
 clear hj
 cbv
 refine ai (fun h=>?_) (fun h=>?_)
 ·simp only [ht,aa,decide_eq_true_eq] at h
  have hk:k<l.length:=by omega
  obtain ⟨x,hx⟩:∃x,l[k]?=some x:=⟨l[k],by simp⟩
  have og:x∈l:=List.mem_of_getElem? hx
  have gY:=hf x og
  obtain ⟨px,hpx⟩:∃b,b=p x:=⟨_,rfl⟩
  rw [←hpx] at gY
  skip
  cbv
  refine gS [.str x] ?_ ?_ ?_
  ·simp only [ht,aa];refine ⟨by omega,h,?_⟩;rw [aF];intro r hr;obtain ⟨y,_,rfl⟩:=List.mem_map.1 hr;rfl
  ·simp [ht,aa,aF,hx]
  cbv
  refine dn trivial gY ?_
  cbv
  refine ai (fun hb=>?_) (fun hb=>?_)
  ·cbv
   refine an trivial trivial rfl rfl rfl ?_
   have e:=cN hx (hpx▸hb) h3
   simp only [ht,aa,hr,idxOf,e]
  cbv
  refine aA ⟨n-1,k+1,⟨by omega,(hJ _ _).2 ⟨by omega,?_⟩⟩,?_⟩
  ·intro i hi y hy
   by_cases hik:i<k
   ·exact h3 i hik y hy
   have:i=k:=by omega
   subst this;rw [hx] at hy;cases hy;rw [←hpx];exact hb
  simp only [ht,aa,aC (show k<9223372036854775807 by omega)];rfl
 simp only [ht,aa,decide_eq_false_iff_not] at h
 have hk:¬k<l.length:=by omega
 clear h
 cbv
 refine an trivial trivial rfl rfl rfl ?_
 rw [hr,idxOf,cS]
 intro i y hy
 have:i<l.length:=by
  rcases Nat.lt_or_ge i l.length with h'|h';· exact h'
  simp [List.getElem?_eq_none h'] at hy
 exact h3 i (by omega) y hy
theorem OM (ht:TT t) (ts:List (List D)) {l:List (aD)} {es:List (List D)} (aF:es=l.map aT) (f:Nat) (p:aD→Bool) (hl:l.length<9223372036854775807)
 (hf:∀x∈l,FC f [.d (.str x),.ptr 0 0] [.var [SL ts]] (.ret (BL (p x))) [.var [SL ts]]) {r:Bool} (hr:r=l.any p):FC 110 [SL es,.fn f [.ptr 0 0]] [.var [SL ts]] (.ret (BL r)) [.var [SL ts]]:=by
 obtain ⟨k,hk⟩:∃k,k=idxOf p l:=⟨_,rfl⟩
 refine bC ht (aE:=[.var [SL ts]]) Tryz.func110 (c:=_) rfl rfl (N:=9) rfl (rs:=_) rfl (n:=1) rfl rfl ?_
 cbv
 refine dn trivial (OL ht ts aF f p hl hf hk) ?_
 cbv
 refine an trivial trivial rfl rfl rfl ?_
 simp only [ht,hr,eT,hk]
theorem R7 (ht:TT t) (q:aD) {l:List aR} {es:List (List D)} (aF:es=l.map aR.cells) (hl:l.length<1000000000) {r:Bool} (hr:r=!(lA l q).2):
 FC 112 [ST q,.ptr 0 0] [.var [SL es]] (.ret (BL r)) [.var [SL es]]:=by
 refine bC ht (aE:=[.var [SL es]]) Tryz.func112 (c:=_) rfl rfl (N:=14) rfl (rs:=_) rfl (n:=1) rfl rfl ?_
 cbv
 have ar:es.length=l.length:=by rw [aF,lgM]
 refine ay trivial (BQ ht _ (by assumption) (by assumption)) trivial rfl rfl (fun r0 bE=>?_)
 simp only [ht] at bE
 cbv
 refine an trivial trivial rfl rfl rfl ?_
 (simp [*];done)
theorem yp (ht:TT t) (p:aD) {l:List aR} {es:List (List D)} (aF:es=l.map aR.cells) (hl:l.length<1000000000) (hp:p.length<1000000000000):
 FC 48 [SL es,ST p] [] (.ret (bY (t _ fun _=>gV l p))) []:=by
 have h1:=jW p
 have h2:=ic p
 obtain ⟨ws,hws⟩:∃ws,ws=mW p++[[]]:=⟨_,rfl⟩
 obtain ⟨r9,dN⟩:∃r,r=ws.any (fun q=>!(lA l q).2):=⟨_,rfl⟩
 refine bC ht (aE:=[]) Tryz.func48 (c:=_) rfl rfl (N:=12) rfl (rs:=_) rfl (n:=0) rfl rfl ?_
 cbv
 have ar:es.length=l.length:=by rw [aF,lgM]
 refine qn trivial (MT ht p (by assumption)) trivial rfl (.inr rfl) ?_
 cbv
 refine ⟨?_,?_⟩
 ·(simp only [ht];grind)
 cbv
 (refine VU (v:=BL r9) trivial rfl (by simp [ht]) (by exact eZ [0] rfl rfl rfl rfl (OM ht es (l:=ws) (by simp only [ht,hws];simp) 112 (fun q=>!(lA l q).2) (by rw [hws];simp;omega) (fun x _=>R7 ht x aF hl rfl) dN)) ?_)
 cbv
 refine an trivial trivial rfl rfl rfl ?_
 (simp only [ht,gV,←hws,←dN];done)
end Dem
end
