/- Parts of a proof, joined. -/
import Derived.Test.YtjnbpclolnmimaaGreatDoorJ28
set_option linter.unusedSimpArgs false
set_option linter.unusedVariables false
set_option maxRecDepth 100000
set_option maxHeartbeats 4000000
section
open Go Dem Go.Proofs
namespace Dem
variable {t:Th}
theorem CC (ht:TT t) {l:List cu} {es:List (List D)} (aF:es=l.map cu.cells) (hl:l.length<1000000) (hlb:∀s∈l,s.labels.length<1000000000) {x:List Term} {xr:List (List D)} (F8:xr=x.map Term.cells) (hx:x.length<1000000000) (Gf:∀m∈x,m.fW.length<1000000000)
 {m c k:Nat} (hm:m=l.length) (hc:m≤c) {r:List (List D)} (hr:r=(fitting l x).map cu.cells) (hk:k=r.length) {rz:List (List D)} (Wb:rz=r++List.replicate (m-k) [.str [],.int .u64 0,.int .u64 0,.int .u64 0,.int .u64 0,.sl []]):
 FC 155 [.vw 0 6 0 m c true,.fn 157 [.ep [.sl xr]]] [.row 6 es] (.ret (.vw 0 6 0 k c true)) [.row 6 rz]:=
 LX ht xr aF hm hc 157 (fun s=>!xS x s.labels) (by omega) (fun s hs=>LY ht _ _ _ _ _ rfl (hlb s hs) F8 hx Gf rfl) (by rw [hr,fitting];simp) hk Wb
theorem Vi {r z:List (List D)} {k:Nat} (hk:k=r.length):r=(r++z).take k:=by rw [hk,List.take_left]
theorem L0 (ht:TT t) {l:List cu} {es:List (List D)} (aF:es=l.map cu.cells) (hl:l.length<1000000) (hlb:∀s∈l,s.labels.length<1000000000) {x:List Term} {xr:List (List D)} (F8:xr=x.map Term.cells) (hx:x.length<1000000000) (Gf:∀m∈x,m.fW.length<1000000000)
 (h0:fitting l x=[]):FC 100 [SL es,SL xr] [] (.ret (SL [])) []:=by
 obtain ⟨m,hm⟩:∃m,m=l.length:=⟨_,rfl⟩
 have hel:m=es.length:=by rw [aF,lgM,hm]
 have hrows:∀r∈es,r.length=6:=by rw [aF];intro r hr;obtain ⟨y,_,rfl⟩:=List.mem_map.1 hr;rfl
 have hD:FC 155 [.ow 1 6 m,.fn 157 [.ptr 0 0]] [.var [SL xr],.row 6 es] (.ret (SL [])) [.dead,.dead]:=
  CB rfl rfl rfl<|eZ [1] rfl rfl rfl rfl<|fJ fun c hc _=>LW rfl (by simp) (by simp) rfl (CC ht aF hl hlb F8 hx Gf hm hc (r:=[]) (by rw [h0];rfl) (k:=0) rfl rfl)
 refine bC ht (aE:=[]) Tryz.func100 (c:=_) rfl rfl (N:=9) rfl (rs:=_) rfl (n:=0) rfl rfl ?_
 cbv
 refine qn trivial (zL ht hrows (by omega) hel) trivial rfl (.inr rfl) ?_
 cbv
 refine dn trivial hD ?_
 cbv
 refine an trivial trivial rfl rfl rfl ?_
 simp
theorem Ph (ht:TT t) {l:List cu} {es:List (List D)} (aF:es=l.map cu.cells) (hl:l.length<1000000) (hlb:∀s∈l,s.labels.length<1000000000) {x:List Term} {xr:List (List D)} (F8:xr=x.map Term.cells) (hx:x.length<1000000000) (Gf:∀m∈x,m.fW.length<1000000000)
 {r:List (List D)} (hr:r=(fitting l x).map cu.cells) {k:Nat} (hk:k=r.length) (h0:0<k):FC 100 [SL es,SL xr] [] (.ret (.ow 0 6 k)) [.row 6 r]:=by
 obtain ⟨m,hm⟩:∃m,m=l.length:=⟨_,rfl⟩
 have hel:m=es.length:=by rw [aF,lgM,hm]
 have hrows:∀r∈es,r.length=6:=by rw [aF];intro r hr;obtain ⟨y,_,rfl⟩:=List.mem_map.1 hr;rfl
 obtain ⟨rz,Wb⟩:∃rz,rz=r++List.replicate (m-k) [.str [],.int .u64 0,.int .u64 0,.int .u64 0,.int .u64 0,.sl []]:=⟨_,rfl⟩
 have hD:FC 155 [.ow 1 6 m,.fn 157 [.ptr 0 0]] [.var [SL xr],.row 6 es] (.ret (.ow 1 6 k)) [.dead,.row 6 r]:=
  CB rfl rfl rfl<|eZ [1] rfl rfl rfl rfl<|fJ fun c hc _=>LV h0 rfl (by rw [Wb,hk];simp) (by rw [Wb];exact Vi hk) rfl (CC ht aF hl hlb F8 hx Gf hm hc hr hk Wb)
 refine bC ht (aE:=[]) Tryz.func100 (c:=_) rfl rfl (N:=9) rfl (rs:=_) rfl (n:=0) rfl rfl ?_
 cbv
 refine qn trivial (zL ht hrows (by omega) hel) trivial rfl (.inr rfl) ?_
 cbv
 refine dn trivial hD ?_
 cbv
 exact Fb trivial rfl rfl rfl rfl rfl rfl
theorem Nh {x:cu} {v:bz} {B C:Ig} {r:bz×Bool} {o:Int} (er:r=gu x.free v) (eo:o=uE r.1 B.left) (h:r.2=true→B.ok=true∧0≤o):
 (if (gu x.free v).2&&(!B.ok||decide (uE (gu x.free v).1 B.left<0)) then C else B)=B:=by
 rw [←er,←eo,if_neg]
 intro g
 simp only [Bool.and_eq_true,Bool.or_eq_true,Bool.not_eq_true',decide_eq_true_eq] at g
 obtain ⟨g1,g2⟩:=g
 obtain ⟨g3,g4⟩:=h g1
 rcases g2 with g2|g2
 ·rw [g3] at g2;cases g2
 omega
def aag (r:Ig):AV:=.dF [bq r.at_,V4 r.left.a r.left.b r.left.c r.left.d,BL r.ok]
theorem Ni (ht:TT t) (d1 d2 d3 d4:Int) {l:List cu} {es:List (List D)} (aF:es=l.map cu.cells) (hl:l.length<1000000):
 FC 101 [SL es,V4 d1 d2 d3 d4] [] (.ret (aag (t _ fun _=>best l ⟨d1,d2,d3,d4⟩))) []:=by
 refine bC ht (aE:=[]) Tryz.func101 (c:=_) rfl rfl (N:=42) rfl (rs:=_) rfl (n:=0) rfl rfl ?_
 cbv
 have ar:es.length=l.length:=by rw [aF,lgM]
 obtain ⟨J0,eg⟩:∃J0:Nat→Int×Bool×Int×Int×Int×Int×Int→Prop,∀n A K i a b c d,J0 n (A,K,i,a,b,c,d)↔(∃(k:Nat) (B:Ig),i=k∧k+n=l.length∧A=B.at_∧K=B.ok∧a=B.left.a∧b=B.left.b∧c=B.left.c∧d=B.left.d∧best l ⟨d1,d2,d3,d4⟩=v8 ⟨d1,d2,d3,d4⟩ (l.drop k) k B):=⟨fun n v=>match v with|(A,K,i,a,b,c,d)=>(∃(k:Nat) (B:Ig),i=k∧k+n=l.length∧A=B.at_∧K=B.ok∧a=B.left.a∧b=B.left.b∧c=B.left.c∧d=B.left.d∧best l ⟨d1,d2,d3,d4⟩=v8 ⟨d1,d2,d3,d4⟩ (l.drop k) k B),fun _ _ _ _ _ _ _ _=>Iff.rfl⟩
 refine aZ ⟨[0,3,4,5,6,11,12],[],[]⟩ (σ:=Int×Bool×Int×Int×Int×Int×Int) (fun v=>[(4,.d (.int .i64 (t _ fun _=>v.1))),(6,.d (.bool (t _ fun _=>v.2.1))),(12,.d (.int .i64 (t _ fun _=>v.2.2.1)))]) (fun v=>[(1,.var [.d (.int .u64 (t _ fun _=>v.2.2.2.1)),.d (.int .u64 (t _ fun _=>v.2.2.2.2.1)),.d (.int .u64 (t _ fun _=>v.2.2.2.2.2.1)),.d (.int .u64 (t _ fun _=>v.2.2.2.2.2.2))])]) J0 ?_
 cbv
 refine aA ⟨l.length,(_,_,_,_,_,_,_),(eg _ _ _ _ _ _ _ _).2 ?_,by simp only [ht];rfl,?_⟩
 ·exact ⟨0,⟨0,bz.zero,false⟩,rfl,by simp,rfl,rfl,rfl,rfl,rfl,rfl,rfl⟩
 rintro n ⟨A,K,i,a,b,c,d⟩ hj
 replace hj:=(eg _ _ _ _ _ _ _ _).1 hj
 obtain ⟨k,⟨q1,⟨q2,q3,q4,q5⟩,q6⟩,rfl,j1,rfl,rfl,rfl,rfl,rfl,rfl,j4⟩:=hj
 cbv
 refine ai (fun h1=>?_) (fun h1=>?_)
 ·simp [ht,aa,ar] at h1
  cbv
  refine vM [0,1] [0,1,7,8,9] [false,false,false,false,false,false,false,false,false,false,false,true,true] (by kernel_rfl) (by kernel_rfl) (by kernel_rfl) (by kernel_rfl) (by kernel_rfl) (by kernel_rfl) ?_
  cbv
  iterate 2 refine gI (by simp) ?_
  refine dg ht aF (cT:=cu.aH t) (by (simp only [ht,aa];omega)) (by (simp only [ht,aa];omega)) (fun _=>rfl) (fun _=>(by (simp only [ht,cu.aH];rfl))) (fun x2 iw=>?_)
  simp [ht,aa] at iw
  rw [bO iw,v8] at j4
  cbv
  iterate 3 refine gI (by simp) ?_
  refine .inl ?_
  refine aM (fun g3=>⟨trivial,trivial,US ht _ _ _ _ _ _ _ _⟩) rfl rfl (fun r4 dO=>?_)
  simp only [ht] at dO
  cbv
  iterate 6 refine gI (by simp) ?_
  iterate 2 refine gI (by simp [ht]) ?_
  refine aM (fun g5=>⟨by simp [ht] at g5 ⊢;exact g5,trivial,Pg ht _ _ _ _ _ _ _ _⟩) rfl rfl (fun r6 gv=>?_)
  simp only [ht] at gv
  cbv
  refine gI (by simp [ht]) ?_
  refine gI (by simp [ht,ak];intros;simp_all) ?_
  refine pI (by simp) ?_
  refine ai (fun h7=>?_) (fun h7=>?_)
  ·simp [ht] at h7
   cbv
   refine bJ [false,false,false,true,true] (by kernel_rfl) (by kernel_rfl) ?_
   cbv
   iterate 3 refine gI (by simp) ?_
   refine bf (_,_,_,_,_,_,_) (by simp only [ht];rfl) (n-1) ?_ ((eg _ _ _ _ _ _ _ _).2 ?_)
   ·omega
   simp only [aa]
   first|exact ⟨k+1,⟨k,_,true⟩,aC (by omega),by omega,rfl,rfl,rfl,rfl,rfl,rfl,by rw [j4];congr 1;simp_all⟩|exact ⟨k+1,⟨q1,⟨a,b,c,d⟩,K⟩,aC (by ((try simp only [aa] at*);omega)),by ((try simp only [aa] at*);omega),rfl,rfl,rfl,rfl,rfl,rfl,by rw [j4,Nh (B:=⟨q1,⟨a,b,c,d⟩,K⟩) dO gv h7]⟩
  simp [ht] at h7
  cbv
  refine bf (_,_,_,_,_,_,_) (by simp only [ht];rfl) (n-1) ?_ ((eg _ _ _ _ _ _ _ _).2 ?_)
  ·omega
  simp only [aa]
  first|exact ⟨k+1,⟨k,_,true⟩,aC (by omega),by omega,rfl,rfl,rfl,rfl,rfl,rfl,by rw [j4];congr 1;simp_all⟩|exact ⟨k+1,⟨q1,⟨a,b,c,d⟩,K⟩,aC (by omega),by omega,rfl,rfl,rfl,rfl,rfl,rfl,by rw [j4,Nh (B:=⟨q1,⟨a,b,c,d⟩,K⟩) dO gv h7]⟩
 simp [ht,aa,ar] at h1
 cbv
 refine Qx [0,2] [false,false,false,false,true,true] (by kernel_rfl) (by kernel_rfl) (by kernel_rfl) (by kernel_rfl) (by kernel_rfl) ?_
 cbv
 iterate 4 refine gI (by simp) ?_
 refine an trivial trivial rfl rfl rfl ?_
 (rw [List.drop_eq_nil_of_le (by omega),v8] at j4;simp only [ht,j4];rfl)
theorem Jw {v:bz} {n:Nat} {l:List cu} {out:List aD} (h:0<n):xX v n l out=if !(best l v).ok then ([],false) else
 xX v (n-1) (l.set (best l v).at_ {l.getD (best l v).at_ default with free:=(best l v).left}) (out++[(l.getD (best l v).at_ default).node]):=by
 obtain ⟨n',rfl⟩:∃n',n=n'+1:=⟨n-1,by omega⟩
 rfl
theorem Jx {v:bz}:∀(l:List cu) (k:Nat) (b:Ig),(b.ok=true→b.at_<k)→(v8 v l k b).ok=true→(v8 v l k b).at_<k+l.length
 |[],k,b,h,g=>h g
 |s::r,k,b,h,g=>by
  rw [v8] at g ⊢
  have:=Jx r (k+1) _ (by
   intro g2
   split
   ·show k<k+1;omega
   rename_i hh;rw [if_neg hh] at g2;have:=h g2;omega) g
  simp only [List.length_cons];omega
theorem Vj {v:bz} {l:List cu} (h:(best l v).ok=true):(best l v).at_<l.length:=by
 have:=Jx l 0 _ (by simp) h
 simpa [best] using this
theorem Nj {l:List cu} {x:List Term} {v:bz} {c:Int} (h:8<c):fit l x v c=([],false):=by rw [fit,if_pos h]
theorem F9 {l L:List cu} {x:List Term} {v:bz} {c:Int} {m:Nat} (h:c≤8) (hm:(m:Int)=max c 0) (hL:L=fitting l x):fit l x v c=xX v m L []:=by
 rw [fit,if_neg (by omega),hL];congr 1;omega
theorem SG {cur:List cu} {y:cu} {i:Nat} {u:List (List D)} (ju:u=cur.map cu.cells) (hy:cur[i]?=some y) (v:bz):
 u.set i (bF (u.getD i []) 1 [.int .u64 v.a,.int .u64 v.b,.int .u64 v.c,.int .u64 v.d])=(cur.set i {y with free:=v}).map cu.cells:=by
 rw [List.map_set,ju];congr 1
 simp [List.getD_eq_getElem?_getD,hy,cu.cells,bF]
def X4 (t:Th) (r:List aD×Bool):AV:=.dF [SL (t _ fun _=>r.1.map aT),BL r.2]
theorem Vk (ht:TT t) (d1 d2 d3 d4 c:Int) {l:List cu} {es:List (List D)} (aF:es=l.map cu.cells) (hl:l.length<1000000) (hlb:∀s∈l,s.labels.length<1000000000) {x:List Term} {xr:List (List D)} (F8:xr=x.map Term.cells) (hx:x.length<1000000000) (Gf:∀m∈x,m.fW.length<1000000000)
 (h0:fitting l x≠[]):FC 37 [SL es,SL xr,V4 d1 d2 d3 d4,bq c] [] (.ret (X4 t (t _ fun _=>fit l x ⟨d1,d2,d3,d4⟩ c))) []:=by
 obtain ⟨L,hL⟩:∃L,L=fitting l x:=⟨_,rfl⟩
 have JG:L.length<1000000:=by rw [hL];exact Nat.lt_of_le_of_lt (List.length_filter_le _ _) hl
 obtain ⟨r,hr⟩:∃r,r=L.map cu.cells:=⟨_,rfl⟩
 obtain ⟨k,hk⟩:∃k,k=r.length:=⟨_,rfl⟩
 have hkL:k=L.length:=by rw [hk,hr,lgM]
 have hk0:0<k:=by rw [hkL,hL];exact List.length_pos_iff.2 h0
 obtain ⟨m,hm⟩:∃m:Nat,(m:Int)=max c 0:=⟨(max c 0).toNat,by omega⟩
 refine bC ht (aE:=[]) Tryz.func37 (c:=_) rfl rfl (N:=47) rfl (rs:=_) rfl (n:=0) rfl rfl ?_
 cbv
 have ar:es.length=l.length:=by rw [aF,lgM]
 have LU:xr.length=x.length:=by rw [F8,lgM]
 have ad9:r.length=L.length:=by rw [hr,lgM]
 refine ai (fun h0=>?_) (fun h0=>?_)
 ·simp [ht] at h0
  cbv
  refine an trivial trivial rfl rfl rfl ?_
  (simp only [ht];rw [Nj (by assumption)];rfl)
 simp [ht] at h0
 cbv
 (refine qn trivial (Ph ht aF hl hlb F8 hx Gf (hL▸hr) hk hk0) trivial rfl (.inr rfl) ?_)
 cbv
 obtain ⟨J1,fe⟩:∃J1:Nat→List (List D)×Int×List (List D)→Prop,∀n o i u,J1 n (o,i,u)↔(∃(q:Nat) (cur:List cu) (out:List aD),i=q∧q+n=m∧u=cur.map cu.cells∧o=out.map aT∧cur.length=k∧out.length=q∧xX ⟨d1,d2,d3,d4⟩ m L []=xX ⟨d1,d2,d3,d4⟩ n cur out):=⟨fun n v=>match v with|(o,i,u)=>(∃(q:Nat) (cur:List cu) (out:List aD),i=q∧q+n=m∧u=cur.map cu.cells∧o=out.map aT∧cur.length=k∧out.length=q∧xX ⟨d1,d2,d3,d4⟩ m L []=xX ⟨d1,d2,d3,d4⟩ n cur out),fun _ _ _ _=>Iff.rfl⟩
 refine aZ ⟨[0,6,10,20,21],[(10,1)],[]⟩ (σ:=List (List D)×Int×List (List D)) (fun v=>[(10,.ow 2 1 (t _ fun _=>(v.1).length)),(21,.d (.int .i64 (t _ fun _=>v.2.1)))]) (fun v=>[(2,.row 1 (t _ fun _=>v.1)),(0,.row 6 (t _ fun _=>v.2.2))]) J1 ?_
 cbv
 refine aA ⟨m,([],_,_),(fe _ _ _ _).2 ?_,by simp only [ht];rfl,?_⟩
 ·exact ⟨0,L,[],rfl,by simp,hr,rfl,hkL.symm,rfl,rfl⟩
 rintro n ⟨o,i,u⟩ hj
 replace hj:=(fe _ _ _ _).1 hj
 obtain ⟨q,cur,out,rfl,j1,ju,jo,j2,j3,j4⟩:=hj
 have MO:u.length=cur.length:=by rw [ju,lgM]
 have tV:o.length=out.length:=by rw [jo,lgM]
 cbv
 refine ai (fun h2=>?_) (fun h2=>?_)
 ·simp [ht,aa] at h2
  cbv
  (refine ay trivial (Ni ht _ _ _ _ (l:=cur) (by simp only [ht];exact ju) (by omega)) (by simp only [ht];exact ⟨by rw [ju,lgM];exact j2.symm,trivial⟩) rfl rfl (fun rb Wc=>?_);simp only [ht] at Wc;rw [Jw (show 0<n by ((try simp only [aa] at*);omega)),←Wc] at j4;have hlt:rb.ok=true→rb.at_<cur.length:=fun g=>by rw [Wc] at g ⊢;exact Vj g)
  cbv
  refine ai (fun h3=>?_) (fun h3=>?_)
  ·simp [ht] at h3
   cbv
   refine an trivial trivial rfl rfl rfl ?_
   (simp only [ht];rw [F9 (by assumption) hm hL,j4,h3];rfl)
  simp [ht] at h3
  cbv
  refine ⟨?_,?_⟩
  ·(simp only [ht];have hl4:rb.at_<cur.length:=hlt (by assumption);exact ⟨Int.natCast_nonneg _,by rw [←j2];exact Int.ofNat_lt.2 hl4⟩)
  cbv
  (have HQ:=hlt (by assumption);obtain ⟨y,hy⟩:∃y,cur[rb.at_]?=some y:=⟨_,List.getElem?_eq_getElem HQ⟩;have hyd:cur.getD rb.at_ default=y:=(by simp [List.getD_eq_getElem?_getD,hy]);rw [hyd] at j4;refine WK (cu.aH t y) (by simp only [ht];rw [ju,lgM];exact HQ) (by simp only [ht];rw [ju];simp [List.getD_eq_getElem?_getD,hy,cu.cells,cu.aH,ht]) ?_)
  cbv
  refine ⟨?_,?_⟩
  ·(simp only [ht];grind)
  refine ⟨?_,?_⟩
  ·(simp only [ht];have hl4:rb.at_<cur.length:=hlt (by assumption);exact ⟨Int.natCast_nonneg _,by rw [←j2];exact Int.ofNat_lt.2 hl4⟩)
  refine ⟨?_,?_⟩
  ·(simp only [ht];rw [ju,lgM];refine ⟨HQ,?_⟩;simp [List.getD_eq_getElem?_getD,hy,cu.cells];done)
  cbv
  refine bf (_,_,_) (by simp only [ht,←List.length_append];rfl) (n-1) ?_ ((fe _ _ _ _).2 ?_)
  ·((try simp only [aa] at*);omega)
  simp only [aa]
  (exact ⟨q+1,cur.set rb.at_ {y with free:=rb.left},out++[y.node],aC (by ((try simp only [aa] at*);omega)),by ((try simp only [aa] at*);omega),SG ju hy _,by simp [jo],by simp [j2],by simp [j3],by rw [j4,h3];rfl⟩)
 simp [ht,aa] at h2
 cbv
 refine an trivial (by simp [ht]) rfl rfl rfl ?_
 (simp only [ht];rw [F9 (by assumption) hm hL,j4,show n=0 by ((try simp only [aa] at*);omega)];simp [xX,jo];done)
theorem Vl (ht:TT t) (d1 d2 d3 d4 c:Int) {l:List cu} {es:List (List D)} (aF:es=l.map cu.cells) (hl:l.length<1000000) (hlb:∀s∈l,s.labels.length<1000000000) {x:List Term} {xr:List (List D)} (F8:xr=x.map Term.cells) (hx:x.length<1000000000) (Gf:∀m∈x,m.fW.length<1000000000)
 (h9:fitting l x=[]):FC 37 [SL es,SL xr,V4 d1 d2 d3 d4,bq c] [] (.ret (X4 t (t _ fun _=>fit l x ⟨d1,d2,d3,d4⟩ c))) []:=by
 obtain ⟨m,hm⟩:∃m:Nat,(m:Int)=max c 0:=⟨(max c 0).toNat,by omega⟩
 refine bC ht (aE:=[]) Tryz.func37 (c:=_) rfl rfl (N:=47) rfl (rs:=_) rfl (n:=0) rfl rfl ?_
 cbv
 have ar:es.length=l.length:=by rw [aF,lgM]
 have LU:xr.length=x.length:=by rw [F8,lgM]
 refine ai (fun h0=>?_) (fun h0=>?_)
 ·simp [ht] at h0
  cbv
  refine an trivial trivial rfl rfl rfl ?_
  (simp only [ht];rw [Nj (by assumption)];rfl)
 simp [ht] at h0
 cbv
 (refine HK trivial (L0 ht aF hl hlb F8 hx Gf h9) trivial rfl rfl rfl ?_)
 cbv
 obtain ⟨J1,fe⟩:∃J1:Nat→List (List D)×Int→Prop,∀n o i,J1 n (o,i)↔(i=0∧n=m∧o=[]):=⟨fun n v=>match v with|(o,i)=>(i=0∧n=m∧o=[]),fun _ _ _=>Iff.rfl⟩
 refine aZ ⟨[0,6,10,20,21],[(10,1)],[]⟩ (σ:=List (List D)×Int) (fun v=>[(10,.ow 1 1 (t _ fun _=>(v.1).length)),(21,.d (.int .i64 (t _ fun _=>v.2)))]) (fun v=>[(1,.row 1 (t _ fun _=>v.1))]) J1 ?_
 cbv
 refine aA ⟨m,([],_),(fe _ _ _).2 ?_,by simp only [ht];rfl,?_⟩
 ·exact ⟨rfl,rfl,rfl⟩
 rintro n ⟨o,i⟩ hj
 replace hj:=(fe _ _ _).1 hj
 obtain ⟨rfl,j1,rfl⟩:=hj
 cbv
 refine ai (fun h2=>?_) (fun h2=>?_)
 ·simp [ht] at h2
  cbv
  (refine ay trivial (Ni ht _ _ _ _ (l:=[]) rfl (by simp)) (by simp) rfl rfl (fun rb Wc=>?_);simp only [ht] at Wc;replace Wc:rb=⟨0,bz.zero,false⟩:=Wc;subst Wc)
  cbv
  refine ai (fun h3=>?_) (fun h3=>?_)
  ·simp [ht] at h3
   cbv
   refine an trivial trivial rfl rfl rfl ?_
   (simp only [ht];rw [F9 (by assumption) hm h9.symm,Jw (show 0<m by ((try simp only [aa] at*);omega))];rfl)
  simp [ht] at h3
 simp [ht] at h2
 cbv
 refine an trivial (by simp [ht]) rfl rfl rfl ?_
 (simp only [ht];rw [F9 (by assumption) hm h9.symm,show m=0 by ((try simp only [aa] at*);omega)];rfl)
theorem Ga (ht:TT t) (d1 d2 d3 d4 c:Int) {l:List cu} {es:List (List D)} (aF:es=l.map cu.cells) (hl:l.length<1000000) (hlb:∀s∈l,s.labels.length<1000000000) {x:List Term} {xr:List (List D)} (F8:xr=x.map Term.cells) (hx:x.length<1000000000) (Gf:∀m∈x,m.fW.length<1000000000):
 FC 37 [SL es,SL xr,V4 d1 d2 d3 d4,bq c] [] (.ret (X4 t (t _ fun _=>fit l x ⟨d1,d2,d3,d4⟩ c))) []:=by
 by_cases h9:fitting l x=[]
 ·exact Vl ht d1 d2 d3 d4 c aF hl hlb F8 hx Gf h9
 exact Vk ht d1 d2 d3 d4 c aF hl hlb F8 hx Gf h9
theorem wU {x:Ask} (h:zJ x):x.sm:=
 ⟨by have:=h.path;omega,⟨h.fQ 0 (by decide),h.fQ 1 (by decide),h.fQ 2 (by decide),h.fQ 3 (by decide)⟩,by have:=h.b9;omega,
  fun m hm=>by obtain ⟨a,b,c⟩:=h.key m hm;exact ⟨by omega,by omega,fun v hv=>by have:=c v hv;omega⟩⟩
theorem cH.ok.small {s:cH} (h:s.ok) (l:s.dc zJ):s.sm where
 nodes:=⟨by have:=h.aW.most;omega,l.names⟩
 places:=by have:=h.LN;omega
 tree:=⟨by have:=h.tree.most;omega,fun e he=>by have:=l.paths e he;omega⟩
 aI:=⟨by have:=h.most;omega,fun x hx=>⟨wU (l.xs x hx),⟨by have:=h.IP x hx;omega,by have:=h.IP x hx;have:=h.next;omega⟩,by
  have:=(h.CN x hx).1
  unfold cR Q3 at this
  split at this
  ·cases this
  split at this
  ·cases this
  simp_all;omega⟩⟩
 queue:=by
  have h1:=h.Xl
  have h2:gW s.aI≤s.aI.length:=List.length_filter_le _ _
  have:=h.most;omega
 notes:=by have:=h.notes;omega
theorem Jy {l:List Jb} {id:Int} (h:∀x∈l,x.x.sm):(eH l id).1.x.sm:=by
 unfold eH
 split
 ·rename_i x hx;exact h _ (List.mem_of_find?_eq_some hx)
 exact ⟨by decide,by decide,by decide,fun m hm=>by cases hm⟩
theorem SH {nl:List Node} {pl:List Place} (h:nl.length<1000000) (h2:∀x∈nl,x.sm):(nl.filterMap (tP nl pl)).length<1000000∧∀s∈nl.filterMap (tP nl pl),s.labels.length<1000000000:=by
 refine ⟨Nat.lt_of_le_of_lt (List.length_filterMap_le _ _) h,fun s hs=>?_⟩
 obtain ⟨n,hn,e⟩:=List.mem_filterMap.1 hs
 unfold tP at e
 split at e
 ·cases e;exact (h2 n hn).2.1
 cases e
theorem CD {v:bz}:∀(n:Nat) (l:List cu) (out:List aD),out.length+n≤8→(xX v n l out).1.length≤8
 |0,_,out,h=>by simpa [xX] using h
 |n+1,l,out,h=>by
  rw [xX]
  split
  ·simp
  exact CD n _ _ (by simp;omega)
theorem Ew (l:List cu) (x:List Term) (v:bz) (c:Int):(fit l x v c).1.length<1000000:=by
 unfold fit
 split
 ·simp
 have:=CD (v:=v) (max c 0).toNat (fitting l x) [] (by simp;omega)
 omega
theorem Pj (k:Nat):gr [[D.str [110,49]],[D.str [110,50]],[D.str [110,51]]] none (some (k:Int))=(kw.take k).map aT:=by
 rw [List.map_take];rfl
theorem Ag (ht:TT t) (x:gw) (hx:x.u) {k a b c d:Int} (hk:k=x.kind) (ha:a=x.a) (hb:b=x.b) (hc:c=x.c) (hd:d=x.d) (rd nx ef af:Int) {nl:List Node} {pl:List Place} {tl:List aR} {jl:List Jb} {ql:List bX} {el al:List bU} {ns ps ts js qs es cY:List (List D)} (gX:ns=nl.map Node.cells) (hps:ps=pl.map Place.cells) (hts:ts=tl.map aR.cells) (gi:js=jl.map Jb.cells) (fq:qs=ql.map bX.cells) (aF:es=el.map bU.cells) (has:cY=al.map bU.cells) (hs:(⟨rd,nx,⟨nl,pl⟩,tl,jl,ql,⟨ef,el⟩,⟨af,al⟩⟩:cH).sm):
 FC 13 [.agg [U8 k,U8 a,U8 b,U8 c,U8 d],.agg [az rd,az nx,SL ns,SL ps,SL ts,SL js,SL qs,az ef,SL es,az af,SL cY]] [] (.ret (yq t (t _ fun _=>jK x ⟨rd,nx,⟨nl,pl⟩,tl,jl,ql,⟨ef,el⟩,⟨af,al⟩⟩))) []:=by
 obtain ⟨⟨s1,s2⟩,s3,⟨s4,s5⟩,⟨s6,s7⟩,s8,s9,Z4⟩:=id hs
 simp only at s1 s2 s3 s4 s5 s6 s7 s8 s9 Z4
 have fR:∀x∈jl,x.x.fQ.u'∧x.x.path.length<1000000000000:=fun x hx=>⟨(s7 x hx).1.2.1,(s7 x hx).1.1⟩
 obtain ⟨u1,u2,u3,u4,u5⟩:=id hx
 obtain ⟨S,hS⟩:∃S,S=jK x ⟨rd,nx,⟨nl,pl⟩,tl,jl,ql,⟨ef,el⟩,⟨af,al⟩⟩:=⟨_,rfl⟩
 rw [←hS]
 obtain ⟨K,hK⟩:∃K:Nat,K=x.kind%8:=⟨_,rfl⟩
 obtain ⟨I,hI⟩:∃I:Int,I=(x.a%12:Nat):=⟨_,rfl⟩
 have k8:k.tmod 8=(K:Int):=by rw [hk,tm8,hK]
 have a12:IntKind.u64.wrap (a.tmod 12)=I:=by rw [ha,acw,hI,U7 _ (by omega)]
 have b4:b.tmod 4=((x.b%4:Nat):Int):=by rw [hb,tm4]
 obtain ⟨sl1,sl2⟩:=SH s1 s2 (pl:=pl)
 refine bC ht (aE:=[]) Tryz.func13 (c:=_) rfl rfl (N:=92) rfl (rs:=_) rfl (n:=0) rfl rfl ?_
 cbv
 have fj:ns.length=nl.length:=by rw [gX,lgM]
 have fE:ps.length=pl.length:=by rw [hps,lgM]
 have fZ:ts.length=tl.length:=by rw [hts,lgM]
 have dy:js.length=jl.length:=by rw [gi,lgM]
 have dM:qs.length=ql.length:=by rw [fq,lgM]
 have ar:es.length=el.length:=by rw [aF,lgM]
 have dU:cY.length=al.length:=by rw [has,lgM]
 refine ⟨?_,?_⟩
 ·(simp only [ht,aa] at*;omega)
 refine ⟨?_,?_⟩
 ·(simp only [ht,aa] at*;omega)
 cbv
 refine ai (fun h0=>?_) (fun h0=>?_)
 ·simp [ht,aa,k8] at h0
  cbv
  refine ai (fun h1=>?_) (fun h1=>?_)
  ·simp [ht,aa,k8] at h1
   cbv
   refine vM [] [4,5,6,7] [false,false,false,true,true,false,false,false,true] (by kernel_rfl) (by kernel_rfl) (by kernel_rfl) (by kernel_rfl) (by kernel_rfl) (by kernel_rfl) ?_
   cbv
   iterate 2 refine gI (by simp) ?_
   refine .inl ?_
   (refine iu (fun g=>⟨by simp,trivial,F5 ht _ _ _ _ _ x hx hk ha hb hc hd⟩) rfl rfl rfl (fun r1 cX=>?_);simp only [ht] at cX;have L2:r1.sm:=(by rw [cX];exact wU (qc x)))
   cbv
   (refine aS trivial (oT ht rd nx ef af gX hps hts gi fq aF has _ _ _ _ _ _ _ _ (jB:=r1.b9) (by simp only [ht]) L2 s4 s6 s8 s9) (by simp) rfl rfl rfl (fun r2 cP=>?_);simp only [ht] at cP)
   cbv
   iterate 3 refine gI (by simp) ?_
   refine an trivial trivial rfl rfl rfl ?_
   (have e:S=r2.1:=(by rw [hS];unfold jK;rw [if_pos (by omega),cP,cX]);simp only [ht,e];done)
  simp [ht,aa,k8] at h1
  omega
 simp [ht,aa,k8] at h0
 cbv
 refine ai (fun h2=>?_) (fun h2=>?_)
 ·simp [ht,aa,k8] at h2
  cbv
  refine ai (fun h3=>?_) (fun h3=>?_)
  ·simp [ht,aa,k8] at h3
   cbv
   refine vM [] [4,5,6,7] [false,false,false,true,true,false,false,false,true] (by kernel_rfl) (by kernel_rfl) (by kernel_rfl) (by kernel_rfl) (by kernel_rfl) (by kernel_rfl) ?_
   cbv
   iterate 2 refine gI (by simp) ?_
   refine .inl ?_
   (refine iu (fun g=>⟨by simp,trivial,F5 ht _ _ _ _ _ x hx hk ha hb hc hd⟩) rfl rfl rfl (fun r1 cX=>?_);simp only [ht] at cX;have L2:r1.sm:=(by rw [cX];exact wU (qc x)))
   cbv
   (refine aS trivial (oT ht rd nx ef af gX hps hts gi fq aF has _ _ _ _ _ _ _ _ (jB:=r1.b9) (by simp only [ht]) L2 s4 s6 s8 s9) (by simp) rfl rfl rfl (fun r2 cP=>?_);simp only [ht] at cP)
   cbv
   iterate 3 refine gI (by simp) ?_
   refine an trivial trivial rfl rfl rfl ?_
   (have e:S=r2.1:=(by rw [hS];unfold jK;rw [if_pos (by ((try simp only [aa] at*);omega)),cP,cX]);simp only [ht,e];done)
  simp [ht,aa,k8] at h3
  contradiction
 simp [ht,aa,k8] at h2
 cbv
 refine ai (fun h4=>?_) (fun h4=>?_)
 ·simp [ht,aa,k8] at h4
  cbv
  refine vM [] [4,5,6,7] [false,false,false,true,true,false,false,false,true] (by kernel_rfl) (by kernel_rfl) (by kernel_rfl) (by kernel_rfl) (by kernel_rfl) (by kernel_rfl) ?_
  cbv
  iterate 2 refine gI (by simp) ?_
  refine .inl ?_
  (refine iu (fun g=>⟨by simp,trivial,F5 ht _ _ _ _ _ x hx hk ha hb hc hd⟩) rfl rfl rfl (fun r1 cX=>?_);simp only [ht] at cX;have L2:r1.sm:=(by rw [cX];exact wU (qc x)))
  cbv
  (refine aS trivial (oT ht rd nx ef af gX hps hts gi fq aF has _ _ _ _ _ _ _ _ (jB:=r1.b9) (by simp only [ht]) L2 s4 s6 s8 s9) (by simp) rfl rfl rfl (fun r2 cP=>?_);simp only [ht] at cP)
  cbv
  iterate 3 refine gI (by simp) ?_
  refine an trivial trivial rfl rfl rfl ?_
  (have e:S=r2.1:=(by rw [hS];unfold jK;rw [if_pos (by ((try simp only [aa] at*);omega)),cP,cX]);simp only [ht,e];done)
 simp [ht,aa,k8] at h4
 cbv
 refine ai (fun h5=>?_) (fun h5=>?_)
 ·simp [ht,aa,k8] at h5
  cbv
  refine ai (fun h6=>?_) (fun h6=>?_)
  ·simp [ht,aa,k8] at h6
   cbv
   (refine aS trivial (wN ht _ rd nx ef af ns ps ts qs es cY gi (by omega)) (by simp) rfl rfl rfl (fun r1 cX=>?_);simp only [ht,a12] at cX;have L2:r1.1.x.sm:=(by rw [cX];exact Jy (fun x hx=>(s7 x hx).1)))
   cbv
   refine bJ [false,false,false,false,false,false,false,false,false,false,false,false,true,true,false,false,false,true] (by kernel_rfl) (by kernel_rfl) ?_
   cbv
   iterate 2 refine gI (by simp) ?_
   refine .inl ?_
   (refine iu (fun g=>⟨by simp,trivial,Ip ht gX hps (by omega) (by omega)⟩) rfl rfl rfl (fun r2 cP=>?_);simp only [ht] at cP)
   cbv
   iterate 9 refine gI (by simp) ?_
   (first|(refine aS trivial (Ga ht _ _ _ _ _ (l:=r2) (by simp only [ht]) (by rw [cP];exact sl1) (by rw [cP];exact sl2) (x:=r1.1.x.b9) (by simp only [ht]) L2.2.2.1 (fun m hm=>(L2.2.2.2 m hm).2.1)) (by simp) rfl rfl rfl (fun r3 gH=>?_);simp only [ht] at gH)|(refine iu (fun g=>⟨by simp [ht],by simp [ht],Ga ht _ _ _ _ _ (l:=r2) (by simp only [ht]) (by rw [cP];exact sl1) (by rw [cP];exact sl2) (x:=r1.1.x.b9) (by simp only [ht]) L2.2.2.1 (fun m hm=>(L2.2.2.2 m hm).2.1)⟩) rfl rfl rfl (fun r3 gH=>?_);simp only [ht] at gH))
   cbv
   iterate 3 refine gI (by simp) ?_
   refine ai (fun h7=>?_) (fun h7=>?_)
   ·cbv
    (refine aS trivial (m5 ht rd nx ef af gX hps hts gi fq aF has _ (names:=r3.1) (by simp only [ht]) fR s4 s6 s1 s3 s8 s9 (by rw [gH];exact Ew _ _ _ _)) (by simp) rfl rfl rfl (fun r4 dO=>?_);simp only [ht,a12] at dO)
    cbv
    refine an trivial trivial rfl rfl rfl ?_
    (have e3:fit (yf ⟨nl,pl⟩) (eH jl (x.a%12:Nat)).1.x.b9 (eH jl (x.a%12:Nat)).1.x.fQ (eH jl (x.a%12:Nat)).1.x.count=r3:=(by rw [gH,cP,cX,hI];rfl);have e:S=r4.1:=(by rw [hS];unfold jK;dsimp only;rw [if_neg (by ((try simp only [aa] at*);omega)),if_pos (by ((try simp only [aa] at*);omega)),e3,if_pos (by assumption),dO,hI]);simp only [ht,e];done)
   cbv
   refine an trivial trivial rfl rfl rfl ?_
   (have e3:fit (yf ⟨nl,pl⟩) (eH jl (x.a%12:Nat)).1.x.b9 (eH jl (x.a%12:Nat)).1.x.fQ (eH jl (x.a%12:Nat)).1.x.count=r3:=(by rw [gH,cP,cX,hI];rfl);have e:S=⟨rd,nx,⟨nl,pl⟩,tl,jl,ql,⟨ef,el⟩,⟨af,al⟩⟩:=(by rw [hS];unfold jK;dsimp only;rw [if_neg (by ((try simp only [aa] at*);omega)),if_pos (by ((try simp only [aa] at*);omega)),e3,if_neg (by simp_all)]);simp only [ht,e,gX,hps,hts,gi,fq,aF,has];done)
  simp [ht,aa,k8] at h6
  contradiction
 simp [ht,aa,k8] at h5
 cbv
 refine ai (fun h8=>?_) (fun h8=>?_)
 ·simp [ht,aa,k8] at h8
  cbv
  (refine aS trivial (wN ht _ rd nx ef af ns ps ts qs es cY gi (by omega)) (by simp) rfl rfl rfl (fun r1 cX=>?_);simp only [ht,a12] at cX;have L2:r1.1.x.sm:=(by rw [cX];exact Jy (fun x hx=>(s7 x hx).1)))
  cbv
  refine bJ [false,false,false,false,false,false,false,false,false,false,false,false,true,true,false,false,false,true] (by kernel_rfl) (by kernel_rfl) ?_
  cbv
  iterate 2 refine gI (by simp) ?_
  refine .inl ?_
  (refine iu (fun g=>⟨by simp,trivial,Ip ht gX hps (by omega) (by omega)⟩) rfl rfl rfl (fun r2 cP=>?_);simp only [ht] at cP)
  cbv
  iterate 9 refine gI (by simp) ?_
  (first|(refine aS trivial (Ga ht _ _ _ _ _ (l:=r2) (by simp only [ht]) (by rw [cP];exact sl1) (by rw [cP];exact sl2) (x:=r1.1.x.b9) (by simp only [ht]) L2.2.2.1 (fun m hm=>(L2.2.2.2 m hm).2.1)) (by simp) rfl rfl rfl (fun r3 gH=>?_);simp only [ht] at gH)|(refine iu (fun g=>⟨by simp [ht],by simp [ht],Ga ht _ _ _ _ _ (l:=r2) (by simp only [ht]) (by rw [cP];exact sl1) (by rw [cP];exact sl2) (x:=r1.1.x.b9) (by simp only [ht]) L2.2.2.1 (fun m hm=>(L2.2.2.2 m hm).2.1)⟩) rfl rfl rfl (fun r3 gH=>?_);simp only [ht] at gH))
  cbv
  iterate 3 refine gI (by simp) ?_
  refine ai (fun h9=>?_) (fun h9=>?_)
  ·cbv
   (refine aS trivial (m5 ht rd nx ef af gX hps hts gi fq aF has _ (names:=r3.1) (by simp only [ht]) fR s4 s6 s1 s3 s8 s9 (by rw [gH];exact Ew _ _ _ _)) (by simp) rfl rfl rfl (fun r4 dO=>?_);simp only [ht,a12] at dO)
   cbv
   refine an trivial trivial rfl rfl rfl ?_
   (have e3:fit (yf ⟨nl,pl⟩) (eH jl (x.a%12:Nat)).1.x.b9 (eH jl (x.a%12:Nat)).1.x.fQ (eH jl (x.a%12:Nat)).1.x.count=r3:=(by rw [gH,cP,cX,hI];rfl);have e:S=r4.1:=(by rw [hS];unfold jK;dsimp only;rw [if_neg (by ((try simp only [aa] at*);omega)),if_pos (by ((try simp only [aa] at*);omega)),e3,if_pos (by assumption),dO,hI]);simp only [ht,e];done)
  cbv
  refine an trivial trivial rfl rfl rfl ?_
  (have e3:fit (yf ⟨nl,pl⟩) (eH jl (x.a%12:Nat)).1.x.b9 (eH jl (x.a%12:Nat)).1.x.fQ (eH jl (x.a%12:Nat)).1.x.count=r3:=(by rw [gH,cP,cX,hI];rfl);have e:S=⟨rd,nx,⟨nl,pl⟩,tl,jl,ql,⟨ef,el⟩,⟨af,al⟩⟩:=(by rw [hS];unfold jK;dsimp only;rw [if_neg (by ((try simp only [aa] at*);omega)),if_pos (by ((try simp only [aa] at*);omega)),e3,if_neg (by simp_all)]);simp only [ht,e,gX,hps,hts,gi,fq,aF,has];done)
 simp [ht,aa,k8] at h8
 cbv
 refine ai (fun h10=>?_) (fun h10=>?_)
 ·simp [ht,aa,k8] at h10
  cbv
  (refine aS trivial (F1 ht rd nx ef af gX hps hts gi fq aF has _ _ fR s4 s6 s3 s8 s9) (by simp) rfl rfl rfl (fun r4 dO=>?_);simp only [ht,a12] at dO)
  cbv
  refine an trivial trivial rfl rfl rfl ?_
  (have e:S=r4.1:=(by rw [hS];unfold jK;rw [if_neg (by ((try simp only [aa] at*);omega)),if_neg (by ((try simp only [aa] at*);omega)),if_pos (by ((try simp only [aa] at*);omega)),dO,hI]);simp only [ht,e];done)
 simp [ht,aa,k8] at h10
 cbv
 refine ai (fun h11=>?_) (fun h11=>?_)
 ·simp [ht,aa,k8] at h11
  cbv
  (refine aS trivial (F2 ht rd nx ef af gX hps hts gi fq aF has _ _ fR s4 s6 s3 s8 s9) (by simp) rfl rfl rfl (fun r4 dO=>?_);simp only [ht,a12] at dO)
  cbv
  refine an trivial trivial rfl rfl rfl ?_
  (have e:S=r4.1:=(by rw [hS];unfold jK;rw [if_neg (by ((try simp only [aa] at*);omega)),if_neg (by ((try simp only [aa] at*);omega)),if_neg (by ((try simp only [aa] at*);omega)),if_pos (by ((try simp only [aa] at*);omega)),dO,hI]);simp only [ht,e];done)
 simp [ht,aa,k8] at h11
 cbv
 refine ai (fun h12=>?_) (fun h12=>?_)
 ·simp [ht,aa,k8] at h12
  cbv
  refine vM [1] [1,8,9,10] [false,false,false,false,false,false,false,true,true,false,false,true] (by kernel_rfl) (by kernel_rfl) (by kernel_rfl) (by kernel_rfl) (by kernel_rfl) (by kernel_rfl) ?_
  cbv
  iterate 5 refine gI (by simp) ?_
  refine gI (by simp [ht]) ?_
  refine gI (by simp [ht,bS];grind) ?_
  (refine aS trivial (m5 ht rd nx ef af gX hps hts gi fq aF has _ (names:=kw.take (x.b%4)) (by simp only [ht];rw [b4];exact Pj _) fR s4 s6 s1 s3 s8 s9 (by simp [kw];omega)) (by simp) rfl rfl rfl (fun r4 dO=>?_);simp only [ht,a12] at dO)
  cbv
  iterate 2 refine gI (by simp) ?_
  refine an trivial trivial rfl rfl rfl ?_
  (have e:S=r4.1:=(by rw [hS];unfold jK;rw [if_neg (by ((try simp only [aa] at*);omega)),if_neg (by ((try simp only [aa] at*);omega)),if_neg (by ((try simp only [aa] at*);omega)),if_neg (by ((try simp only [aa] at*);omega)),dO,hI]);simp only [ht,e];done)
 simp [ht,aa,k8] at h12
 (simp only [aa] at*;omega)
def gw.aH (_:Th) (x:gw):List D:=[.int .u8 x.kind,.int .u8 x.a,.int .u8 x.b,.int .u8 x.c,.int .u8 x.d]
instance:Inhabited gw:=⟨⟨0,0,0,0,0⟩⟩
theorem mv (n:Nat) (l:List gw) (k:Nat):(bQ n l k).sm:=(tc n l k).small (Cz n l k)
structure Told (s:cH) (rd nx:Int) (ns ps ts js qs:List (List D)) (ef:Int) (es:List (List D)) (af:Int) (cY:List (List D)):Prop where
 r:rd=s.round
 x:nx=s.next
 n:ns=s.aW.nodes.map Node.cells
 p:ps=s.aW.places.map Place.cells
 t:ts=s.tree.map aR.cells
 j:js=s.aI.map Jb.cells
 q:qs=s.queue.map bX.cells
 f:ef=s.ev.first
 e:es=s.ev.l.map bU.cells
 g:af=s.au.first
 a:cY=s.au.l.map bU.cells
theorem Told.self (s:cH):Told s s.round s.next (s.aW.nodes.map Node.cells) (s.aW.places.map Place.cells) (s.tree.map aR.cells) (s.aI.map Jb.cells) (s.queue.map bX.cells) s.ev.first (s.ev.l.map bU.cells) s.au.first (s.au.l.map bU.cells):=
 ⟨rfl,rfl,rfl,rfl,rfl,rfl,rfl,rfl,rfl,rfl,rfl⟩
theorem Told.eq {s:cH} {rd nx ef af:Int} {ns ps ts js qs es cY:List (List D)} (h:Told s rd nx ns ps ts js qs ef es af cY):(⟨rd,nx,⟨s.aW.nodes,s.aW.places⟩,s.tree,s.aI,s.queue,⟨ef,s.ev.l⟩,⟨af,s.au.l⟩⟩:cH)=s:=by
 rw [h.r,h.x,h.f,h.g]
end Dem
end
