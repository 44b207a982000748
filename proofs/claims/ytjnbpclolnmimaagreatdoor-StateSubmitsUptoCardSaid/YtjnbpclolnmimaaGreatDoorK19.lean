/- Parts of a proof, joined. -/
import Derived.Test.YtjnbpclolnmimaaGreatDoorK18
set_option linter.all false
set_option maxRecDepth 100000
set_option maxHeartbeats 4000000
section
open Go Dem Go.Proofs
namespace Dem
variable {t:Th}
def H9 {α:Type} [DecidableEq α] (a:α) (l:List α):Int:=idxOf (fun x=>decide (a=x)) l
theorem EZ {α:Type} [DecidableEq α] {a x:α} {l:List α} {k:Nat} (hx:l[k]?=some x) (h:a=x) (h3:∀i<k,∀y,l[i]?=some y→a≠y):H9 a l=k:=by
 simp only [H9,idxOf]
 rw [cO hx (by simpa using h) (fun i hi y hy=>by simpa using h3 i hi y hy)]
theorem E0 {α:Type} [DecidableEq α] {a:α} {l:List α} {k:Nat} (hk:l.length≤k) (h3:∀i<k,∀y,l[i]?=some y→a≠y):H9 a l=-1:=by
 simp only [H9,idxOf]
 rw [cR]
 intro i y hy
 have:i<l.length:=(List.getElem?_eq_some_iff.1 hy).1
 simpa using h3 i (by omega) y hy
theorem w8 {α:Type} {a x:α} {l:List α} {k:Nat} (h3:∀i<k,∀y,l[i]?=some y→a≠y) (hx:l[k]?=some x) (h:a≠x):∀i<k+1,∀y,l[i]?=some y→a≠y:=by
 intro i hi y hy
 rcases Nat.lt_or_ge i k with h1|h1
 ·exact h3 i h1 y hy
 have:i=k:=by omega
 subst this;rw [hx] at hy;cases hy;exact h
theorem BD {α:Type} [DecidableEq α] (a:α) (l:List α):0≤H9 a l↔a∈l:=by
 have h:=eP (fun x=>decide (a=x)) l
 rw [Bool.eq_iff_iff] at h
 simp at h
 exact h.symm
theorem Ia (ht:TT t) (a:aA) {l:List aA} {es:List (List D)} (aD:es=l.map aV) (hl:l.length<1000000000):
 FC 170 [SL es,ST a] [] (.ret (mR (t _ fun _=>H9 a l))) []:=by
 refine bA ht (aB:=[]) Tryz.func170 rfl rfl (N:=19) rfl rfl (n:=0) rfl rfl ?_
 cbv
 have av:es.length=l.length:=by rw [aD,lgM]
 obtain ⟨J0,ee⟩:∃J0:Nat→Int→Prop,∀n i,J0 n i↔(∃k:Nat,i=k∧k+n=l.length∧∀i<k,∀y,l[i]?=some y→a≠y):=⟨fun n v=>match v with|i=>(∃k:Nat,i=k∧k+n=l.length∧∀i<k,∀y,l[i]?=some y→a≠y),fun _ _=>Iff.rfl⟩
 refine bg ⟨[0,1,7,8],[],[]⟩ (σ:=Int) (fun v=>[(8,.d (.int .i64 (t _ fun _=>v)))]) (fun v=>[]) J0 ?_
 cbv
 refine aC ⟨l.length,_,(ee _ _).2 ?_,by simp only [ht];rfl,?_⟩
 ·exact ⟨0,rfl,by simp,fun i hi=>by omega⟩
 rintro n i hj
 replace hj:=(ee _ _).1 hj
 obtain ⟨k,rfl,j1,j4⟩:=hj
 cbv
 refine ai (fun h1=>?_) (fun h1=>?_)
 ·simp [ht,aa,av] at h1
  cbv
  refine dS ht aD (cT:=eR t) (by (simp only [ht,aa];omega)) (by (simp only [ht,aa];omega)) (fun _=>rfl) (fun _=>rfl) (fun x2 iC=>?_)
  simp [ht,aa] at iC
  cbv
  refine ai (fun h3=>?_) (fun h3=>?_)
  ·simp [ht] at h3
   cbv
   refine ak trv trv rfl rfl rfl ?_
   (simp only [ht];rw [EZ ‹_› ‹_› j4];done)
  simp [ht] at h3
  cbv
  refine bu _ (by simp only [ht];rfl) (n-1) ?_ ((ee _ _).2 ?_)
  ·omega
  simp only [aa]
  exact ⟨k+1,aE (by omega),by omega,w8 j4 ‹_› ‹_›⟩
 simp [ht,aa,av] at h1
 cbv
 refine ak trv trv rfl rfl rfl ?_
 (simp only [ht];rw [E0 (by omega) j4];done)
theorem Nv (ht:TT t) (a:aA) {l:List aA} {es:List (List D)} (aD:es=l.map aV) (hl:l.length<1000000000):
 FC 118 [SL es,ST a] [] (.ret (cu (t _ fun _=>l.contains a))) []:=by
 refine bA ht (aB:=[]) Tryz.func118 rfl rfl (N:=9) rfl rfl (n:=0) rfl rfl ?_
 cbv
 have av:es.length=l.length:=by rw [aD,lgM]
 refine ay trv (Ia ht _ ‹_› ‹_›) trv rfl rfl (fun r0 bF=>?_)
 simp only [ht] at bF
 cbv
 refine ak trv trv rfl rfl rfl ?_
 (simp [ht,bF,BD];done)
theorem V5 (ht:TT t) (s:aA) (hs:s.length<1000000000000):FC 111 [ST s] [] (.ret (Hg t (t _ fun _=>mL s))) []:=by
 have hp:=jR s
 refine bA ht (aB:=[]) Tryz.func111 rfl rfl (N:=22) rfl rfl (n:=0) rfl rfl ?_
 cbv
 refine aU trv (vR ht _ ‹_›) trv rfl rfl rfl (fun r0 bF=>?_)
 simp only [ht] at bF
 have hrl:(r0).length=(parts s).length:=by rw [bF]
 cbv
 obtain ⟨J1,gj⟩:∃J1:Nat→List (List D)×Int→Prop,∀n u i,J1 n (u,i)↔(∃k:Nat,i=k∧k+n=(parts s).length∧u=((mL s).take k).map aV):=⟨fun n v=>match v with|(u,i)=>(∃k:Nat,i=k∧k+n=(parts s).length∧u=((mL s).take k).map aV),fun _ _ _=>Iff.rfl⟩
 refine bg ⟨[0,3,7,8],[(3,1)],[]⟩ (σ:=List (List D)×Int) (fun v=>[(3,.ow 0 1 (t _ fun _=>(v.1).length)),(8,.d (.int .i64 (t _ fun _=>v.2)))]) (fun v=>[(0,.row 1 (t _ fun _=>v.1))]) J1 ?_
 cbv
 refine aC ⟨(parts s).length,([],_),(gj _ _ _).2 ?_,by simp only [ht];rfl,?_⟩
 ·exact ⟨0,rfl,by simp,rfl⟩
 rintro n ⟨u,i⟩ hj
 replace hj:=(gj _ _ _).1 hj
 obtain ⟨k,rfl,j1,j4⟩:=hj
 cbv
 refine ai (fun h2=>?_) (fun h2=>?_)
 ·simp [ht,aa] at h2
  cbv
  refine aU trv (vR ht _ ‹_›) trv rfl rfl rfl (fun r3 gQ=>?_)
  simp only [ht] at gQ
  have hrl:(r3).length=(parts s).length:=by rw [gQ]
  cbv
  refine ⟨?_,?_⟩
  ·(simp only [ht];refine ⟨?_,fun r hr=>by obtain ⟨y,_,rfl⟩:=List.mem_map.1 hr;rfl⟩;rw [aE (by omega)];simp only [bQ];rw [lgM];omega)
  cbv
  (refine ay trv (Mf ht (l:=r3.take (k+1)) (by simp only [ht,fX];rw [aE (by omega),List.map_take];rfl) (by simp;omega) (by rw [gQ];exact Nat.le_trans (Dj s (k+1)) (by omega))) trv rfl rfl (fun r4 dV=>?_);simp only [ht] at dV;rw [gQ] at dV)
  cbv
  refine ⟨?_,?_⟩
  ·(simp only [ht];grind)
  cbv
  refine bu (_,_) (by simp only [ht,←List.length_append];rfl) (n-1) ?_ ((gj _ _ _).2 ?_)
  ·omega
  simp only [aa]
  exact ⟨k+1,aE (by omega),by omega,by rw [Dk (by omega),j4,←dV];simp⟩
 simp [ht,aa] at h2
 cbv
 refine ak trv (by simp [ht]) rfl rfl rfl ?_
 (simp [ht,j4,List.take_of_length_le (show (mL s).length≤k by rw [gX];omega)];done)
theorem BE (ht:TT t) (a b:aA) (hs:b.length<1000000000000):FC 59 [ST a,ST b] [] (.ret (cu (t _ fun _=>mM a b))) []:=by
 have hp:=jR b
 have hl:=gX b
 refine bA ht (aB:=[]) Tryz.func59 rfl rfl (N:=9) rfl rfl (n:=0) rfl rfl ?_
 cbv
 refine aU trv (V5 ht _ ‹_›) trv rfl rfl rfl (fun r0 bF=>?_)
 simp only [ht] at bF
 have hr0:(r0).length<1000000000:=by rw [bF];omega
 cbv
 refine ay trv (Nv ht _ (jE ht rfl) ‹_›) trv rfl rfl (fun r1 eb=>?_)
 simp only [ht] at eb
 cbv
 refine ak trv trv rfl rfl rfl ?_
 (simp [mM, *];done)
theorem Nw (ht:TT t) (q:aA) {l:List (bR)} {es:List (List D)} (aD:es=l.map bR.cells) (f:Nat) (p:bR→Bool) (hl:l.length<9223372036854775807)
 (hf:∀x∈l,FC f [.agg [ST x.key,ST x.value],.ptr 0 0] [.var [ST q]] (.ret (BL (p x))) [.var [ST q]]) {r:Int} (hr:r=idxOf p l):FC 231 [SL es,.fn f [.ptr 0 0]] [.var [ST q]] (.ret (bc r)) [.var [ST q]]:=by
 have hel:es.length=l.length:=by rw [aD,lgM]
 obtain ⟨J,hJ⟩:∃J:Nat→Nat→Prop,∀n v,J n v↔(v+n=l.length∧∀i<v,∀x,l[i]?=some x→p x=false):=⟨fun n v=>v+n=l.length∧∀i<v,∀x,l[i]?=some x→p x=false,fun _ _=>Iff.rfl⟩
 refine bA ht (aB:=[.var [ST q]]) Tryz.func231 rfl rfl (N:=19) rfl rfl (n:=1) rfl rfl ?_
 cbv
 refine bg ⟨[0,1,7,8],[],[]⟩ (σ:=Nat) (fun k=>[(8,bc (t _ fun _=>(k:Int)))]) (fun _=>[]) J ?_
 cbv
 refine aC ⟨l.length,0,(hJ _ _).2 ⟨by omega,by intro i hi;simp at hi⟩,by simp only [ht];rfl,?_⟩
 rintro n k hj
 obtain ⟨h2,h3⟩:=(hJ _ _).1 hj
 clear hj
 cbv
 refine ai (fun h=>?_) (fun h=>?_)
 ·simp only [ht,aa,decide_eq_true_eq] at h
  have hk:k<l.length:=by omega
  obtain ⟨x,hx⟩:∃x,l[k]?=some x:=⟨l[k],by simp⟩
  have nO:x∈l:=List.mem_of_getElem? hx
  have gS:=hf x nO
  obtain ⟨px,hpx⟩:∃b,b=p x:=⟨_,rfl⟩
  rw [←hpx] at gS
  obtain ⟨k',v'⟩:=x
  cbv
  refine iq [.str k',.str v'] ?_ ?_ ?_
  ·simp only [ht,aa];refine ⟨by omega,h,?_⟩;rw [aD];intro r hr;obtain ⟨y,_,rfl⟩:=List.mem_map.1 hr;rfl
  ·simp [ht,aa,aD,hx]
  cbv
  refine de trv gS ?_
  cbv
  refine ai (fun hb=>?_) (fun hb=>?_)
  ·cbv
   refine ak trv trv rfl rfl rfl ?_
   have e:=cO hx (hpx▸hb) h3
   simp only [ht,aa,hr,idxOf,e]
  cbv
  refine aC ⟨n-1,k+1,⟨by omega,(hJ _ _).2 ⟨by omega,?_⟩⟩,?_⟩
  ·intro i hi y hy
   by_cases hik:i<k
   ·exact h3 i hik y hy
   have:i=k:=by omega
   subst this;rw [hx] at hy;cases hy;rw [←hpx];exact hb
  simp only [ht,aa,aE (show k<9223372036854775807 by omega)];rfl
 simp only [ht,aa,decide_eq_false_iff_not] at h
 have hk:¬k<l.length:=by omega
 clear h
 cbv
 refine ak trv trv rfl rfl rfl ?_
 rw [hr,idxOf,cR]
 intro i y hy
 have:i<l.length:=by
  rcases Nat.lt_or_ge i l.length with h'|h';· exact h'
  simp [List.getElem?_eq_none h'] at hy
 exact h3 i (by omega) y hy
theorem QF (ht:TT t) (q k v:aA):FC 232 [.agg [ST k,ST v],.ptr 0 0] [.var [ST q]] (.ret (BL (decide (k=q)))) [.var [ST q]]:=by
 refine bA ht (aB:=[.var [ST q]]) Tryz.func232 rfl rfl (N:=8) rfl rfl (n:=1) rfl rfl ?_
 cbv
 refine ak trv trv rfl rfl rfl ?_
 simp [ht]
def ESB (r:aA×Bool):AV:=.dA [ST r.1,BL r.2]
theorem Ib (ht:TT t) (q:aA) {l:List bR} {es:List (List D)} (aD:es=l.map bR.cells) (hl:l.length<1000000000):
 FC 218 [SL es,ST q] [] (.ret (ESB (t _ fun _=>Hs l q))) []:=by
 obtain ⟨r9,dz⟩:∃r,r=idxOf (fun x:bR=>decide (x.key=q)) l:=⟨_,rfl⟩
 refine bA ht (aB:=[]) Tryz.func218 rfl rfl (N:=17) rfl rfl (n:=0) rfl rfl ?_
 cbv
 have av:es.length=l.length:=by rw [aD,lgM]
 (refine cD [0] trv rfl rfl (Nw ht q aD 232 (fun x=>decide (x.key=q)) (by omega) (fun x _=>QF ht q _ _) dz) (bK ?_);have ec:=cS dz;clear dz;rcases ec with ⟨e1,e2,e3⟩|⟨i,x,hi,hil,e1,e2,e3,e4⟩)
 ·cbv
  refine ai (fun h0=>?_) (fun h0=>?_)
  ·simp [ht] at h0
   cbv
   refine ak trv trv rfl rfl rfl ?_
   (simp [ht,Hs,e3];done)
  simp [ht] at h0
  omega
 cbv
 refine ai (fun h1=>?_) (fun h1=>?_)
 ·simp [ht] at h1
  (simp only [aa] at*;omega)
 simp [ht] at h1
 cbv
 refine Cs ht aD (cT:=bR.aK t) e1 ‹_› (fun _=>rfl) (fun _=>rfl) ?_
 cbv
 refine ak trv trv rfl rfl rfl ?_
 (simp [ht,Hs,e4];done)
theorem Nx (ht:TT t) (a:aA) {l:List aA} {es:List (List D)} (aD:es=l.map aV) (hl:l.length<1000000000):
 FC 270 [SL es,ST a] [] (.ret (mR (t _ fun _=>H9 a l))) []:=by
 refine bA ht (aB:=[]) Tryz.func270 rfl rfl (N:=19) rfl rfl (n:=0) rfl rfl ?_
 cbv
 have av:es.length=l.length:=by rw [aD,lgM]
 obtain ⟨J0,ee⟩:∃J0:Nat→Int→Prop,∀n i,J0 n i↔(∃k:Nat,i=k∧k+n=l.length∧∀i<k,∀y,l[i]?=some y→a≠y):=⟨fun n v=>match v with|i=>(∃k:Nat,i=k∧k+n=l.length∧∀i<k,∀y,l[i]?=some y→a≠y),fun _ _=>Iff.rfl⟩
 refine bg ⟨[0,1,7,8],[],[]⟩ (σ:=Int) (fun v=>[(8,.d (.int .i64 (t _ fun _=>v)))]) (fun v=>[]) J0 ?_
 cbv
 refine aC ⟨l.length,_,(ee _ _).2 ?_,by simp only [ht];rfl,?_⟩
 ·exact ⟨0,rfl,by simp,fun i hi=>by omega⟩
 rintro n i hj
 replace hj:=(ee _ _).1 hj
 obtain ⟨k,rfl,j1,j4⟩:=hj
 cbv
 refine ai (fun h1=>?_) (fun h1=>?_)
 ·simp [ht,aa,av] at h1
  cbv
  refine dS ht aD (cT:=eR t) (by (simp only [ht,aa];omega)) (by (simp only [ht,aa];omega)) (fun _=>rfl) (fun _=>rfl) (fun x2 iC=>?_)
  simp [ht,aa] at iC
  cbv
  refine ai (fun h3=>?_) (fun h3=>?_)
  ·simp [ht] at h3
   cbv
   refine ak trv trv rfl rfl rfl ?_
   (simp only [ht];rw [EZ ‹_› ‹_› j4];done)
  simp [ht] at h3
  cbv
  refine bu _ (by simp only [ht];rfl) (n-1) ?_ ((ee _ _).2 ?_)
  ·omega
  simp only [aa]
  exact ⟨k+1,aE (by omega),by omega,w8 j4 ‹_› ‹_›⟩
 simp [ht,aa,av] at h1
 cbv
 refine ak trv trv rfl rfl rfl ?_
 (simp only [ht];rw [E0 (by omega) j4];done)
theorem Ny (ht:TT t) (a:aA) {l:List aA} {es:List (List D)} (aD:es=l.map aV) (hl:l.length<1000000000):
 FC 269 [SL es,ST a] [] (.ret (cu (t _ fun _=>l.contains a))) []:=by
 refine bA ht (aB:=[]) Tryz.func269 rfl rfl (N:=9) rfl rfl (n:=0) rfl rfl ?_
 cbv
 have av:es.length=l.length:=by rw [aD,lgM]
 refine ay trv (Nx ht _ ‹_› ‹_›) trv rfl rfl (fun r0 bF=>?_)
 simp only [ht] at bF
 cbv
 refine ak trv trv rfl rfl rfl ?_
 (simp [ht,bF,BD];done)
theorem Ic (ht:TT t) (a:aA) {l:List aA} {es:List (List D)} (aD:es=l.map aV) (hl:l.length<1000000000):
 FC 268 [SL es,ST a] [] (.ret (cu (t _ fun _=>l.contains a))) []:=by
 refine bA ht (aB:=[]) Tryz.func268 rfl rfl (N:=8) rfl rfl (n:=0) rfl rfl ?_
 cbv
 have av:es.length=l.length:=by rw [aD,lgM]
 refine ay trv (Ny ht _ ‹_› ‹_›) trv rfl rfl (fun r0 bF=>?_)
 simp only [ht] at bF
 cbv
 refine ak trv trv rfl rfl rfl ?_
 (simp [*];done)
theorem Ie (ht:TT t) (a:aA):FC 267 [.agg [],ST a] [] (.ret (BL true)) []:=by
 refine bA ht (aB:=[]) Tryz.func267 rfl rfl (N:=5) rfl rfl (n:=0) rfl rfl ?_
 cbv
 refine ak trv trv rfl rfl rfl ?_
 simp
theorem Tr (ht:TT t) (k:aA) (n:Bool):FC 219 [.agg [ST k,BL n,SL []]] [] (.ret (.sG 310 (.agg []))) []:=by
 refine bA ht (aB:=[]) Tryz.func219 rfl rfl (N:=12) rfl rfl (n:=0) rfl rfl ?_
 cbv
 refine mJ (by simp [ht]) ?_
 cbv
 refine ak trv trv rfl rfl rfl ?_
 simp
theorem Ts (ht:TT t) (k:aA) (n:Bool) {vr:List (List D)} (hv:vr.length≠0):FC 219 [.agg [ST k,BL n,SL vr]] [] (.ret (.sG 311 (SL vr))) []:=by
 refine bA ht (aB:=[]) Tryz.func219 rfl rfl (N:=12) rfl rfl (n:=0) rfl rfl ?_
 cbv
 refine pP (by simp only [ht,aa,decide_eq_false_iff_not];omega) ?_
 cbv
 refine ak trv trv rfl rfl rfl ?_
 simp
theorem Kw (ht:TT t) (k:aA) (n:Bool) {vs:List aA} {vr:List (List D)} (uz:vr=vs.map aV) (hv:vs.length<1000000000) {l:List bR} {ls:List (List D)} (hls:ls=l.map bR.cells) (hl:l.length<1000000000) (h0:vr=[]):
 FC 196 [.agg [ST k,BL n,SL vr],SL ls] [] (.ret (cu (t _ fun _=>kS ⟨k,n,vs⟩ l))) []:=by
 have hlen:vr.length=vs.length:=by rw [uz,lgM]
 obtain ⟨H,hH⟩:∃H,H=kS ⟨k,n,vs⟩ l:=⟨_,rfl⟩
 rw [←hH]
 simp only [kS] at hH
 subst h0
 have Yn:vs.length=0:=by simpa using hlen.symm
 rw [if_pos (show vs.length=0 from Yn)] at hH
 clear uz hlen
 refine bA ht (aB:=[]) Tryz.func196 rfl rfl (N:=24) rfl rfl (n:=0) rfl rfl ?_
 cbv
 have Kx:ls.length=l.length:=by rw [hls,lgM]
 refine ay trv (Ib ht _ ‹_› ‹_›) trv rfl rfl (fun r0 bF=>?_)
 simp only [ht] at bF
 cbv
 refine bS [false,false,false,false,false,false,false,false,false,true,true] (by kernel_rfl) (by kernel_rfl) ?_
 cbv
 iterate 3 refine gI (by simp) ?_
 (refine qT (fun g=>⟨by simpa [ht] using g,trv,Tr ht k n⟩) rfl rfl rfl ?_)
 cbv
 refine gI (by simp) ?_
 (refine UE (G0 (fun g=>⟨by simpa [ht] using g,trv,Ie ht _⟩) rfl rfl ?_))
 cbv
 refine gI (by simp [bq]) ?_
 iterate 2 refine gI (by simp) ?_
 refine ak trv trv rfl rfl rfl ?_
 (simp only [ht];grind)
theorem Ky (ht:TT t) (k:aA) (n:Bool) {vs:List aA} {vr:List (List D)} (uz:vr=vs.map aV) (hv:vs.length<1000000000) {l:List bR} {ls:List (List D)} (hls:ls=l.map bR.cells) (hl:l.length<1000000000) (h0:vr.length≠0):
 FC 196 [.agg [ST k,BL n,SL vr],SL ls] [] (.ret (cu (t _ fun _=>kS ⟨k,n,vs⟩ l))) []:=by
 have hlen:vr.length=vs.length:=by rw [uz,lgM]
 obtain ⟨H,hH⟩:∃H,H=kS ⟨k,n,vs⟩ l:=⟨_,rfl⟩
 rw [←hH]
 simp only [kS] at hH
 rw [if_neg (show ¬vs.length=0 by omega)] at hH
 refine bA ht (aB:=[]) Tryz.func196 rfl rfl (N:=24) rfl rfl (n:=0) rfl rfl ?_
 cbv
 have jY:vr.length=vs.length:=by rw [uz,lgM]
 have Kx:ls.length=l.length:=by rw [hls,lgM]
 refine ay trv (Ib ht _ ‹_› ‹_›) trv rfl rfl (fun r0 bF=>?_)
 simp only [ht] at bF
 cbv
 refine bS [false,false,false,false,false,false,false,false,false,true,true] (by kernel_rfl) (by kernel_rfl) ?_
 cbv
 iterate 3 refine gI (by simp) ?_
 (refine qT (fun g=>⟨by simpa [ht] using g,trv,Ts ht k n (by omega)⟩) rfl rfl rfl ?_)
 cbv
 refine gI (by simp) ?_
 (refine UE (aJ (fun g=>⟨by simpa [ht] using g,trv,Ic ht _ uz hv⟩) rfl rfl (fun r1 eb=>?_));simp only [ht] at eb)
 cbv
 refine gI (by simp [bq]) ?_
 iterate 2 refine gI (by simp) ?_
 refine ak trv trv rfl rfl rfl ?_
 (simp only [ht];grind)
theorem Nz (ht:TT t) (k:aA) (n:Bool) {vs:List aA} {vr:List (List D)} (uz:vr=vs.map aV) (hv:vs.length<1000000000) {l:List bR} {ls:List (List D)} (hls:ls=l.map bR.cells) (hl:l.length<1000000000):
 FC 196 [.agg [ST k,BL n,SL vr],SL ls] [] (.ret (cu (t _ fun _=>kS ⟨k,n,vs⟩ l))) []:=by
 by_cases h0:vr=[]
 ·exact Kw ht k n uz hv hls hl h0
 exact Ky ht k n uz hv hls hl (by intro h;exact h0 (List.length_eq_zero_iff.1 h))
theorem Kz (ht:TT t) (ls:List (List D)) {l:List (Term)} {es:List (List D)} (aD:es=l.map Term.cells) (f:Nat) (p:Term→Bool) (hl:l.length<9223372036854775807)
 (hf:∀x∈l,FC f [.agg [ST x.key,BL x.no,SL (x.fw.map aV)],.ptr 0 0] [.var [SL ls]] (.ret (BL (p x))) [.var [SL ls]]) {r:Int} (hr:r=idxOf p l):FC 171 [SL es,.fn f [.ptr 0 0]] [.var [SL ls]] (.ret (bc r)) [.var [SL ls]]:=by
 have hel:es.length=l.length:=by rw [aD,lgM]
 obtain ⟨J,hJ⟩:∃J:Nat→Nat→Prop,∀n v,J n v↔(v+n=l.length∧∀i<v,∀x,l[i]?=some x→p x=false):=⟨fun n v=>v+n=l.length∧∀i<v,∀x,l[i]?=some x→p x=false,fun _ _=>Iff.rfl⟩
 refine bA ht (aB:=[.var [SL ls]]) Tryz.func171 rfl rfl (N:=19) rfl rfl (n:=1) rfl rfl ?_
 cbv
 refine bg ⟨[0,1,7,8],[],[]⟩ (σ:=Nat) (fun k=>[(8,bc (t _ fun _=>(k:Int)))]) (fun _=>[]) J ?_
 cbv
 refine aC ⟨l.length,0,(hJ _ _).2 ⟨by omega,by intro i hi;simp at hi⟩,by simp only [ht];rfl,?_⟩
 rintro n k hj
 obtain ⟨h2,h3⟩:=(hJ _ _).1 hj
 clear hj
 cbv
 refine ai (fun h=>?_) (fun h=>?_)
 ·simp only [ht,aa,decide_eq_true_eq] at h
  have hk:k<l.length:=by omega
  obtain ⟨x,hx⟩:∃x,l[k]?=some x:=⟨l[k],by simp⟩
  have nO:x∈l:=List.mem_of_getElem? hx
  have gS:=hf x nO
  obtain ⟨px,hpx⟩:∃b,b=p x:=⟨_,rfl⟩
  rw [←hpx] at gS
  obtain ⟨a,b,c⟩:=x;obtain ⟨IV,pF⟩:∃lr:List (List D),lr=c.map aV:=⟨_,rfl⟩;simp only [←pF] at gS
  cbv
  refine iq [.str a,.bool b,.sl IV] ?_ ?_ ?_
  ·simp only [ht,aa];refine ⟨by omega,h,?_⟩;rw [aD];intro r hr;obtain ⟨y,_,rfl⟩:=List.mem_map.1 hr;rfl
  ·simp [ht,aa,aD,hx,pF,Term.cells]
  cbv
  refine de trv gS ?_
  cbv
  refine ai (fun hb=>?_) (fun hb=>?_)
  ·cbv
   refine ak trv trv rfl rfl rfl ?_
   have e:=cO hx (hpx▸hb) h3
   simp only [ht,aa,hr,idxOf,e]
  cbv
  refine aC ⟨n-1,k+1,⟨by omega,(hJ _ _).2 ⟨by omega,?_⟩⟩,?_⟩
  ·intro i hi y hy
   by_cases hik:i<k
   ·exact h3 i hik y hy
   have:i=k:=by omega
   subst this;rw [hx] at hy;cases hy;rw [←hpx];exact hb
  simp only [ht,aa,aE (show k<9223372036854775807 by omega)];rfl
 simp only [ht,aa,decide_eq_false_iff_not] at h
 have hk:¬k<l.length:=by omega
 clear h
 cbv
 refine ak trv trv rfl rfl rfl ?_
 rw [hr,idxOf,cR]
 intro i y hy
 have:i<l.length:=by
  rcases Nat.lt_or_ge i l.length with h'|h';· exact h'
  simp [List.getElem?_eq_none h'] at hy
 exact h3 i (by omega) y hy
theorem KA (ht:TT t) (ls:List (List D)) {l:List (Term)} {es:List (List D)} (aD:es=l.map Term.cells) (f:Nat) (p:Term→Bool) (hl:l.length<9223372036854775807)
 (hf:∀x∈l,FC f [.agg [ST x.key,BL x.no,SL (x.fw.map aV)],.ptr 0 0] [.var [SL ls]] (.ret (BL (p x))) [.var [SL ls]]) {r:Bool} (hr:r=l.any p):FC 119 [SL es,.fn f [.ptr 0 0]] [.var [SL ls]] (.ret (BL r)) [.var [SL ls]]:=by
 obtain ⟨k,hk⟩:∃k,k=idxOf p l:=⟨_,rfl⟩
 refine bA ht (aB:=[.var [SL ls]]) Tryz.func119 rfl rfl (N:=9) rfl rfl (n:=1) rfl rfl ?_
 cbv
 refine de trv (Kz ht ls aD f p hl hf hk) ?_
 cbv
 refine ak trv trv rfl rfl rfl ?_
 simp only [ht,hr,eP,hk]
theorem QG (ht:TT t) (k:aA) (n:Bool) {vs:List aA} {vr:List (List D)} (uz:vr=vs.map aV) (hv:vs.length<1000000000) {l:List bR} {ls:List (List D)} (hls:ls=l.map bR.cells) (hl:l.length<1000000000) {r:Bool} (hr:r=!kS ⟨k,n,vs⟩ l):
 FC 195 [.agg [ST k,BL n,SL vr],.ptr 0 0] [.var [SL ls]] (.ret (BL r)) [.var [SL ls]]:=by
 obtain ⟨H,hH⟩:∃H,H=kS ⟨k,n,vs⟩ l:=⟨_,rfl⟩
 rw [←hH] at hr
 refine bA ht (aB:=[.var [SL ls]]) Tryz.func195 rfl rfl (N:=8) rfl rfl (n:=1) rfl rfl ?_
 cbv
 have jY:vr.length=vs.length:=by rw [uz,lgM]
 have Kx:ls.length=l.length:=by rw [hls,lgM]
 refine ay trv (Nz ht _ _ ‹_› ‹_› ‹_› ‹_›) trv rfl rfl (fun r1 eb=>?_)
 simp only [ht] at eb
 cbv
 refine ak trv trv rfl rfl rfl ?_
 (simp [*];done)
theorem NA (ht:TT t) {x:List Term} {xr:List (List D)} (E5:xr=x.map Term.cells) (hx:x.length<1000000000) (Fz:∀m∈x,m.fw.length<1000000000) {l:List bR} {ls:List (List D)} (hls:ls=l.map bR.cells) (hl:l.length<1000000000):
 FC 158 [SL xr,SL ls] [] (.ret (cu (t _ fun _=>wR x l))) []:=by
 obtain ⟨r9,dz⟩:∃r,r=x.any (fun m=>!kS m l):=⟨_,rfl⟩
 refine bA ht (aB:=[]) Tryz.func158 rfl rfl (N:=9) rfl rfl (n:=0) rfl rfl ?_
 cbv
 have KB:xr.length=x.length:=by rw [E5,lgM]
 have Kx:ls.length=l.length:=by rw [hls,lgM]
 (refine cD [0] trv rfl rfl (KA ht ls E5 195 (fun m=>!kS m l) (by omega) (fun m hm=>QG ht _ _ rfl (Fz m hm) hls hl rfl) dz) (bK ?_))
 cbv
 refine ak trv trv rfl rfl rfl ?_
 (simp [ht,wR,dz];done)
end Dem
end
section
open Go
namespace Dem
section
variable {P:Program} {G:Nat→Option (List D)}
theorem yK {f:Nat} {args:List AV} {bx aF jk:List ar} {v v2:AV} (h:aZ P G f args bx (.ret v) aF)
 (hs:∀β w X u,cr G β aF w X→ah β aF w (aY β aF w X) v u→Ext β aF w β jk w∧cr G β jk w X∧ah β jk w (aY β jk w X) v2 u):aZ P G f args bx (.ret v2) jk:=by
 intro β w vs X cx hx
 refine jA.mono (h β w vs X cx hx) ?_
 rintro e w' ⟨β',ex,nD,hr⟩
 cases e with
 |returned u=>
  obtain ⟨a,b,c⟩:=hs β' w' X u nD hr
  exact ⟨β',ex.trans a,b,c⟩
 |panicked ch=>exact hr.elim
 |outgrown=>exact hr.elim
theorem QH {β:Nat→Nat} {bx:List ar} {w:World} {b:Nat} {B B':ar} (hb:bx[b]?=some B) (hl:B.live=true) (c8:B'.born=true):Ext β bx w β (bx.set b B') w:=by
 refine ⟨rfl,rfl,rfl,Nat.le_refl _,fun _ _ _=>rfl,fun k c e f h=>⟨c,h,rfl⟩,fun i hi=>⟨rfl,ie c8 hi⟩,?_⟩
 intro i b' h1 h2
 rcases aI h1 with ⟨rfl,rfl,_⟩|⟨_,h3⟩
 ·exact .inr ⟨_,B,hb,hl,rfl⟩
 exact .inr ⟨i,b',h3,h2,rfl⟩
theorem KE {f b sz k c:Nat} {ex:Bool} {args:List AV} {bx aF jk:List ar} {es r:List (List D)} (hk:0<k) (hb:aF[b]?=some (.row sz es)) (V6:k≤es.length) (hr:r=es.take k) (h2:jk=aF.set b (.row sz r))
 (h:aZ P G f args bx (.ret (.vw b sz 0 k c ex)) aF):aZ P G f args bx (.ret (.ow b sz k)) jk:=by
 subst hr h2
 refine yK h fun β w X u cx hv=>?_
 have hne:es≠[]:=by intro h;rw [h] at V6;simp at V6;omega
 have cq:(ar.row sz es).live=true:=by cases es with
  |nil=>exact absurd rfl hne
  |cons _ _=>rfl
 have ht:es.take k≠[]:=by
  intro h;have:=congrArg List.length h;simp at this;rcases this with h|h
  ·omega
  exact hne h
 have aaI:(ar.row sz (es.take k)).live=true:=by
  cases hq:es.take k with
  |nil=>exact absurd hq ht
  |cons _ _=>rfl
 have ext:Ext β aF w β (aF.set b (.row sz (es.take k))) w:=QH hb cq rfl
 simp only [ah] at hv
 obtain ⟨h1,base,cap,cs,e,f',rfl,h3,h4,h5,h6⟩:=hv
 refine ⟨ext,cx.step ext ?_ ?_,?_⟩
 ·intro i b' hi
  rcases aI hi with ⟨rfl,rfl,_⟩|⟨h7,h8⟩
  ·refine .inr ?_
   rcases cx.box _ _ hb with h|⟨c2,e2,g1,g2⟩
   ·exact absurd h hne
   exact .inr ⟨c2,e2,g1,an.mono (ext.keeps X) _ _ (fun _=>rfl) _ _ (an.FO k _ _ g2)⟩
  exact .inl ⟨h8,fun _=>rfl⟩
 ·intro i j bi bj hi hj li lj he
  rcases aI hi with ⟨rfl,rfl,_⟩|⟨h7,h8⟩<;>rcases aI hj with ⟨rfl,rfl,_⟩|⟨h9,h10⟩
  ·rfl
  ·exact cx.inj _ _ _ _ hb h10 cq lj he
  ·exact cx.inj _ _ _ _ h8 hb li cq he
  exact cx.inj _ _ _ _ h8 h10 li lj he
 simp only [ah]
 refine ⟨(ext.born b h1).2,.inr ⟨by omega,cap,?_⟩⟩
 rcases h6 with h6|⟨rfl,h7,h8⟩
 ·omega
 exact ⟨cs,e,f',by simp,h3,h7,by simpa using h8⟩
theorem KF {f b sz k c:Nat} {ex:Bool} {args:List AV} {bx aF jk:List ar} {es r:List (List D)} (hb:aF[b]?=some (.row sz es)) (V6:k≤es.length) (hr:r=es.take k) (h2:jk=aF.set b .dead)
 (h:aZ P G f args bx (.ret (.vw b sz 0 k c ex)) aF):aZ P G f args bx (.ret (.d (.sl r))) jk:=by
 subst hr h2
 refine yK h fun β w X u cx hv=>?_
 have ext:Ext β aF w β (aF.set b .dead) w:=ig hb rfl rfl
 simp only [ah] at hv
 obtain ⟨h1,base,cap,cs,e,f',rfl,h3,h4,h5,h6⟩:=hv
 refine ⟨ext,jH cx hb rfl rfl (by simp [dw]),?_⟩
 have hl:(es.take k).length=k:=by simp;omega
 simp only [ah,aH]
 refine ⟨base,cap,by rw [hl],by rw [hl];exact h3,?_⟩
 by_cases hk:k=0
 ·exact .inl (by rw [hk];rfl)
 refine .inr ?_
 rcases h6 with h6|⟨rfl,h7,h8⟩
 ·omega
 rcases cx.box _ _ hb with h|⟨c2,e2,g1,g2⟩
 ·rw [h] at V6;simp at V6;omega
 refine ⟨β b,0,sz,by simp,⟨eG g1,?_,?_⟩,an.mono (ext.keeps X) _ _ (fun _=>rfl) _ _ (an.FO k _ _ g2)⟩
 ·refine cx.apart b _ hb ?_
  cases es with
  |nil=>simp at V6;omega
  |cons _ _=>rfl
 intro i b' h9 h10 he
 rcases aI h9 with ⟨rfl,rfl,_⟩|⟨h11,h12⟩
 ·simp [ar.live] at h10
 refine h11 (cx.inj i b b' _ h12 hb h10 ?_ he)
 cases es with
 |nil=>simp at V6;omega
 |cons _ _=>rfl
theorem BF {f g b:Nat} {x:AV} {cs:List AV} {ds:List D} {bx sP aF:List ar} {res:ff} (hb:bx[b]?=some (.var cs)) (hd:iD [] cs=some ds) (h1:sP=bx.set b .dead)
 (h:aZ P G f [x,.fn g [.ep ds]] sP res aF):aZ P G f [x,.fn g [.ptr b 0]] bx res aF:=by
 subst h1
 intro β w vs X cx hx
 have ext:Ext β bx w β (bx.set b .dead) w:=ig hb rfl rfl
 have nD:cr G β (bx.set b .dead) w X:=jH cx hb rfl rfl (by simp [dw])
 obtain ⟨c2,e2,g1,g2⟩:=cx.box _ _ hb
 have hok:aY β (bx.set b .dead) w X (β b):=by
  refine ⟨eG g1,cx.apart b _ hb rfl,?_⟩
  intro i b' h3 h4 he
  rcases aI h3 with ⟨rfl,rfl,_⟩|⟨h5,h6⟩
  ·simp [ar.live] at h4
  exact h5 (cx.inj i b b' _ h6 hb h4 rfl he)
 have hrow:aW w (aY β bx w X) (β b) ds 0:=by
  refine D7 ds 0 c2.toList ?_ (rQ hd g2)
  intro j v hj
  simp only [World.cell?,g1]
  simpa using hj
 have Yw:=aW.mono (ext.keeps X) _ (fun _=>rfl) _ _ hrow
 simp only [aj,ah] at hx
 obtain ⟨u,us,rfl,hu,v,vs',rfl,⟨ws,rfl,w1,ws',rfl,⟨rfl,Ee⟩,rfl⟩,rfl⟩:=hx
 refine jA.mono (h β w _ X nD ?_) ?_
 ·simp only [aj,ah]
  exact ⟨u,_,rfl,ah.mono (ext.dN X) _ _ hu,_,_,rfl,⟨_,rfl,_,_,rfl,⟨β b,0,rfl,hok,Yw⟩,rfl⟩,rfl⟩
 rintro e w' ⟨β',ex,aaJ,hr⟩
 exact ⟨β',ext.trans ex,aaJ,hr⟩
end
end Dem
end
section
open Go Dem Go.Proofs
namespace Dem
variable {t:Th}
theorem yL (ht:TT t) {es:List (List D)} (aD:∀r∈es,r.length=6) (hs:es.length*72≤140737488355328) {m:Nat} (hm:m=es.length):
 FC 156 [SL es] [] (.ret (.ow 0 6 m)) [.row 6 es]:=by
 refine bA ht (aB:=[]) Tryz.func156 rfl rfl (N:=8) rfl rfl (n:=0) rfl rfl ?_
 cbv
 refine ⟨fun b hb=>?_⟩
 simp only [ht] at hb
 cbv
 refine ai (fun h=>?_) (fun h=>?_)
 ·have he:=hb h
  subst he
  cbv
  exact JE trv rfl rfl (by rw [hm];rfl) rfl
 clear hb h
 cbv
 refine ⟨?_,?_⟩
 ·simp only [ht];simp;exact ⟨hs,aD⟩
 refine EB trv rfl rfl rfl rfl ?_ ?_
 ·simp only [ht];rw [hm];simp
 simp only [ht];rfl
theorem NB (ht:TT t) (xr:List (List D)) {l:List (cw)} {es:List (List D)} (aD:es=l.map cw.cells) (f:Nat) (p:cw→Bool) (hl:l.length<9223372036854775807)
 (hf:∀x∈l,FC f [.agg [ST x.node,ax x.free.a,ax x.free.b,ax x.free.c,ax x.free.d,SL (x.labels.map bR.cells)],.ep [.sl xr]] [] (.ret (BL (p x))) []) {r:Int} (hr:r=idxOf p l):FC 194 [SL es,.fn f [.ep [.sl xr]]] [] (.ret (bc r)) []:=by
 have hel:es.length=l.length:=by rw [aD,lgM]
 obtain ⟨J,hJ⟩:∃J:Nat→Nat→Prop,∀n v,J n v↔(v+n=l.length∧∀i<v,∀x,l[i]?=some x→p x=false):=⟨fun n v=>v+n=l.length∧∀i<v,∀x,l[i]?=some x→p x=false,fun _ _=>Iff.rfl⟩
 refine bA ht (aB:=[]) Tryz.func194 rfl rfl (N:=19) rfl rfl (n:=0) rfl rfl ?_
 cbv
 refine bg ⟨[0,1,7,8],[],[]⟩ (σ:=Nat) (fun k=>[(8,bc (t _ fun _=>(k:Int)))]) (fun _=>[]) J ?_
 cbv
 refine aC ⟨l.length,0,(hJ _ _).2 ⟨by omega,by intro i hi;simp at hi⟩,by simp only [ht];rfl,?_⟩
 rintro n k hj
 obtain ⟨h2,h3⟩:=(hJ _ _).1 hj
 clear hj
 cbv
 refine ai (fun h=>?_) (fun h=>?_)
 ·simp only [ht,aa,decide_eq_true_eq] at h
  have hk:k<l.length:=by omega
  obtain ⟨x,hx⟩:∃x,l[k]?=some x:=⟨l[k],by simp⟩
  have nO:x∈l:=List.mem_of_getElem? hx
  have gS:=hf x nO
  obtain ⟨px,hpx⟩:∃b,b=p x:=⟨_,rfl⟩
  rw [←hpx] at gS
  obtain ⟨nd,⟨v1,v2,v3,v4⟩,lb⟩:=x;obtain ⟨IV,pF⟩:∃lr:List (List D),lr=lb.map bR.cells:=⟨_,rfl⟩;simp only [←pF] at gS
  cbv
  refine iq [.str nd,.int .u64 v1,.int .u64 v2,.int .u64 v3,.int .u64 v4,.sl IV] ?_ ?_ ?_
  ·simp only [ht,aa];refine ⟨by omega,h,?_⟩;rw [aD];intro r hr;obtain ⟨y,_,rfl⟩:=List.mem_map.1 hr;rfl
  ·simp [ht,aa,aD,hx,pF,cw.cells]
  cbv
  refine de trv gS ?_
  cbv
  refine ai (fun hb=>?_) (fun hb=>?_)
  ·cbv
   refine ak trv trv rfl rfl rfl ?_
   have e:=cO hx (hpx▸hb) h3
   simp only [ht,aa,hr,idxOf,e]
  cbv
  refine aC ⟨n-1,k+1,⟨by omega,(hJ _ _).2 ⟨by omega,?_⟩⟩,?_⟩
  ·intro i hi y hy
   by_cases hik:i<k
   ·exact h3 i hik y hy
   have:i=k:=by omega
   subst this;rw [hx] at hy;cases hy;rw [←hpx];exact hb
  simp only [ht,aa,aE (show k<9223372036854775807 by omega)];rfl
 simp only [ht,aa,decide_eq_false_iff_not] at h
 have hk:¬k<l.length:=by omega
 clear h
 cbv
 refine ak trv trv rfl rfl rfl ?_
 rw [hr,idxOf,cR]
 intro i y hy
 have:i<l.length:=by
  rcases Nat.lt_or_ge i l.length with h'|h';· exact h'
  simp [List.getElem?_eq_none h'] at hy
 exact h3 i (by omega) y hy
theorem KG (ht:TT t) (xr:List (List D)) {l:List (cw)} {es:List (List D)} (aD:es=l.map cw.cells) {m c:Nat} (hm:m=l.length) (hc:m≤c) (f:Nat) (p:cw→Bool) (hl:l.length<9223372036854775807)
 (hf:∀x∈l,FC f [.agg [ST x.node,ax x.free.a,ax x.free.b,ax x.free.c,ax x.free.d,SL (x.labels.map bR.cells)],.ep [.sl xr]] [] (.ret (BL (p x))) []) {r:List (List D)} (hr:r=(l.filter (fun x=>!p x)).map cw.cells) {kk:Nat} (hkk:kk=r.length) {rz:List (List D)} (UQ:rz=r++List.replicate (m-kk) [.str [],.int .u64 0,.int .u64 0,.int .u64 0,.int .u64 0,.sl []]):
 FC 155 [.vw 0 6 0 m c true,.fn f [.ep [.sl xr]]] [.row 6 es] (.ret (.vw 0 6 0 kk c true)) [.row 6 rz]:=by
 have hel:es.length=m:=by rw [aD,lgM,hm]
 have hrows:∀r∈es,r.length=6:=by rw [aD];intro r hr;obtain ⟨y,_,rfl⟩:=List.mem_map.1 hr;rfl
 obtain ⟨k,hk⟩:∃k,k=idxOf p l:=⟨_,rfl⟩
 have Kk:(t (List (List D)) fun _=>(es.drop 0).take m)=l.map cw.cells:=by simp only [ht];rw [List.drop_zero,List.take_of_length_le (by omega),aD]
 have hidx:=NB ht xr Kk f p hl hf hk
 obtain ⟨J,hJ⟩:∃J:Nat→Nat×Nat×List (List D)→Prop,∀n v,J n v↔(v.2.1+n=m∧v.1<v.2.1∧v.2.2.length=m∧(∀r∈v.2.2,r.length=6)∧v.2.2.take v.1=((l.take v.2.1).filter (fun x=>!p x)).map cw.cells∧v.2.2.drop v.2.1=es.drop v.2.1):=⟨fun n v=>v.2.1+n=m∧v.1<v.2.1∧v.2.2.length=m∧(∀r∈v.2.2,r.length=6)∧v.2.2.take v.1=((l.take v.2.1).filter (fun x=>!p x)).map cw.cells∧v.2.2.drop v.2.1=es.drop v.2.1,fun _ _=>Iff.rfl⟩
 refine bA ht (aB:=[.row 6 es]) Tryz.func155 rfl rfl (N:=42) rfl rfl (n:=1) rfl rfl ?_
 cbv
 refine UM (TT.eq ht) (v:=bc k) [true] [] trv rfl ?_ rfl rfl rfl rfl rfl rfl rfl hidx ?_
 ·simp [ht];omega
 cbv
 refine ai (fun h=>?_) (fun h=>?_)
 ·have Ci:k=-1:=by simp [ht] at h;exact h
  have hnone:=sb (hk▸Ci:idxOf p l=-1)
  clear h
  cbv
  have Ut:r=es:=by rw [hr,filter_all hnone,←aD]
  have hkm:kk=m:=by rw [hkk,Ut,hel]
  have hze:rz=es:=by rw [UQ,hkm,Nat.sub_self,Ut];simp
  rw [hze,hkm]
  exact PO trv rfl rfl
 have Ci:k≠-1:=by simp [ht] at h;exact h
 clear h
 obtain ⟨i0,x0,Yt,hx0,hp0,hb0⟩:=sg (hk▸Ci:idxOf p l≠-1)
 rw [←hk] at Yt
 subst Yt
 have aaz:i0<m:=by rw [hm];exact (List.getElem?_eq_some_iff.1 hx0).1
 cbv
 refine bg ⟨[0,1,5,6],[],[]⟩ (σ:=Nat×Nat×List (List D)) (fun v=>[(5,bc (t _ fun _=>(v.1:Int))),(6,bc (t _ fun _=>(v.2.1:Int)))]) (fun v=>[(0,.row 6 (t _ fun _=>v.2.2))]) J ?_
 cbv
 refine aC ⟨m-(i0+1),(i0,i0+1,es),(hJ _ _).2 ⟨?_,?_,hel,hrows,?_,rfl⟩,by simp only [ht,aa,Int.ofNat_eq_natCast,aE (show i0<9223372036854775807 by omega)];rfl,?_⟩
 ·show i0+1+(m-(i0+1))=m;omega
 ·show i0<i0+1;omega
 ·show es.take i0=_
  rw [lZ hx0,List.filter_append,filter_all hb0,aD,←List.map_take];simp [hp0]
 rintro n ⟨i,j,cur⟩ hj
 obtain ⟨j1,j2,j3,j4,j5,j6⟩:=(hJ _ _).1 hj
 clear hj
 simp only at j1 j2 j3 j4 j5 j6
 cbv
 refine ai (fun h=>?_) (fun h=>?_)
 ·have Yu:j<m:=by simp [ht,aa] at h;omega
  clear h
  obtain ⟨x,hx⟩:∃x,l[j]?=some x:=⟨l[j]'(by omega),by simp⟩
  have nO:x∈l:=List.mem_of_getElem? hx
  have gS:=hf x nO
  have Qp:cur[j]?=some (cw.cells x):=by
   have:(cur.drop j)[0]?=(es.drop j)[0]?:=by rw [j6]
   rw [List.getElem?_drop,List.getElem?_drop,Nat.add_zero,aD,List.getElem?_map,hx] at this
   exact this
  obtain ⟨px,hpx⟩:∃b,b=p x:=⟨_,rfl⟩
  rw [←hpx] at gS
  obtain ⟨cx,Ov⟩:∃cx,cx=cw.cells x:=⟨_,rfl⟩
  rw [←Ov] at Qp
  have hstep:(l.take (j+1)).filter (fun x=>!p x)=(l.take j).filter (fun x=>!p x)++(if px then [] else [x]):=by
   rw [lZ hx,List.filter_append];cases px<;>simp [←hpx]
  obtain ⟨nd,⟨v1,v2,v3,v4⟩,lb⟩:=x;obtain ⟨IV,pF⟩:∃lr:List (List D),lr=lb.map bR.cells:=⟨_,rfl⟩;simp only [cw.cells,←pF] at gS Ov
  cbv
  refine ⟨?_,Vx [.str nd,.int .u64 v1,.int .u64 v2,.int .u64 v3,.int .u64 v4,.sl IV] ?_ ?_ ?_⟩
  ·simp [ht,aa];omega
  ·simp [ht,aa,j3];omega
  ·simp [ht,aa,List.getD_eq_getElem?_getD,Qp,Ov]
  cbv
  refine cD [] trv rfl rfl gS (bK ?_)
  cbv
  refine ai (fun hb=>?_) (fun hb=>?_)
  ·have hb':px=false:=by simpa [ht] using hb
   clear hb
   obtain ⟨nc,hnc⟩:∃nc,nc=cur.set i cx:=⟨_,rfl⟩
   have uo:(cur.getD i []).length=6:=j4 _ (by rw [List.getD_eq_getElem?_getD,List.getElem?_eq_getElem (by omega)];exact List.getElem_mem _)
   cbv
   refine ⟨?_,?_⟩
   ·simp [ht,aa];omega
   refine ⟨?_,?_⟩
   ·simp [ht,aa,j3];exact ⟨by omega,by simpa using uo.symm▸(Nat.le_refl _)⟩
   refine aC ⟨n-1,(i+1,j+1,nc),⟨by omega,(hJ _ _).2 ⟨?_,?_,?_,?_,?_,?_⟩⟩,?_⟩
   ·show j+1+(n-1)=m;omega
   ·show i+1<j+1;omega
   ·show nc.length=m;rw [hnc,List.length_set];exact j3
   ·show ∀r∈nc,r.length=6
    intro r hr;rw [hnc] at hr
    rcases List.mem_or_eq_of_mem_set hr with hr|rfl
    ·exact j4 r hr
    rw [Ov];rfl
   ·show nc.take (i+1)=_
    rw [hnc,nM _ _ _ (by omega),j5,hstep,hb',Ov];simp [pF,cw.cells]
   ·show nc.drop (j+1)=es.drop (j+1)
    rw [hnc,ry _ _ _ _ (by omega),←List.drop_drop,j6,List.drop_drop]
   simp only [ht,aa,Int.ofNat_eq_natCast,aE (show i<9223372036854775807 by omega),aE (show j<9223372036854775807 by omega)]
   have ei:0+((i:Int)).toNat=i:=by simp
   have e:cur.set i (bG (cur.getD i []) 0 [.str nd,.int .u64 v1,.int .u64 v2,.int .u64 v3,.int .u64 v4,.sl IV])=nc:=by rw [hnc,nL _ _ (by rw [uo];rfl),Ov]
   simp only [ei,e];rfl
  have hb':px=true:=by simpa [ht] using hb
  clear hb
  cbv
  refine aC ⟨n-1,(i,j+1,cur),⟨by omega,(hJ _ _).2 ⟨?_,?_,j3,j4,?_,?_⟩⟩,?_⟩
  ·show j+1+(n-1)=m;omega
  ·show i<j+1;omega
  ·show cur.take i=_
   rw [j5,hstep,hb'];simp
  ·show cur.drop (j+1)=es.drop (j+1)
   rw [←List.drop_drop,j6,List.drop_drop]
  simp only [ht,aa,Int.ofNat_eq_natCast,aE (show j<9223372036854775807 by omega)];rfl
 have Yu:j=m:=by simp [ht,aa] at h;omega
 clear h
 obtain ⟨mi,Ck⟩:∃mi,mi=m-i:=⟨_,rfl⟩
 obtain ⟨ci,uo⟩:∃ci,ci=c-i:=⟨_,rfl⟩
 obtain ⟨nc,hnc⟩:∃nc,nc=wrote cur i (List.replicate mi [.str [],.int .u64 0,.int .u64 0,.int .u64 0,.int .u64 0,.sl []]):=⟨_,rfl⟩
 have hnt:nc.take i=r:=by
  have hl':(cur.take i).length=i:=by simp;omega
  rw [hnc,wrote,List.append_assoc,List.take_left' hl',j5,hr,Yu,hm,List.take_length]
 have aaA:i≤nc.length:=by rw [hnc];simp [wrote];omega
 cbv
 refine bP (.vw 0 6 i mi ci true) [.row 6 cur] ?_ ?_ ?_ ?_
 ·simp [ht,aa,dX,bQ];omega
 ·simp [ht,aa,aT,aS,Ck,uo]
 ·simp only [ht]
 cbv
 refine bP (.dA []) [.row 6 nc] ?_ rfl ?_ ?_
 ·simp [ht,fe]
  refine ⟨by omega,?_⟩
  intro h;rw [h] at j3;simp at j3;omega
 ·simp only [ht,hnc]
 cbv
 refine bP (.vw 0 6 0 i c true) [.row 6 nc] ?_ ?_ rfl ?_
 ·simp [ht,aa,dX,bQ];omega
 ·simp [ht,aa,aT,aS]
 cbv
 have hki:kk=i:=by rw [hkk,←hnt];simp;omega
 have hze:rz=nc:=by
  rw [UQ,hki,←hnt,hnc,wrote]
  have hl':(cur.take i).length=i:=by simp;omega
  rw [List.append_assoc,List.take_left' hl',List.drop_of_length_le (by simp;omega),List.append_nil,Ck]
 rw [hze,hki]
 exact PO trv rfl rfl
theorem KH (ht:TT t) (nd:aA) (v1 v2 v3 v4:Int) {lb:List bR} {lr:List (List D)} (hlr:lr=lb.map bR.cells) (hlb:lb.length<1000000000) {x:List Term} {xr:List (List D)} (E5:xr=x.map Term.cells) (hx:x.length<1000000000) (Fz:∀m∈x,m.fw.length<1000000000) {r:Bool} (hr:r=!wR x lb):
 FC 157 [.agg [ST nd,ax v1,ax v2,ax v3,ax v4,SL lr],.ep [.sl xr]] [] (.ret (BL r)) []:=by
 obtain ⟨H,hH⟩:∃H,H=wR x lb:=⟨_,rfl⟩
 rw [←hH] at hr
 refine bA ht (aB:=[]) Tryz.func157 rfl rfl (N:=9) rfl rfl (n:=0) rfl rfl ?_
 cbv
 have Kq:lr.length=lb.length:=by rw [hlr,lgM]
 have KB:xr.length=x.length:=by rw [E5,lgM]
 refine ay trv (NA ht ‹_› ‹_› ‹_› ‹_› ‹_›) trv rfl rfl (fun r0 bF=>?_)
 simp only [ht] at bF
 cbv
 refine ak trv trv rfl rfl rfl ?_
 (simp [ht,hr,hH,bF];done)
theorem Mg (ht:TT t) (s:aA) (hs:s.length<1000000000000):FC 111 [ST s] [] (.ret (.ow 0 1 (t _ fun _=>((mL s).map aV).length))) [.row 1 (t _ fun _=>(mL s).map aV)]:=by
 have hp:=jR s
 refine bA ht (aB:=[]) Tryz.func111 rfl rfl (N:=22) rfl rfl (n:=0) rfl rfl ?_
 cbv
 refine aU trv (vR ht _ ‹_›) trv rfl rfl rfl (fun r0 bF=>?_)
 simp only [ht] at bF
 have hrl:(r0).length=(parts s).length:=by rw [bF]
 cbv
 obtain ⟨J1,gj⟩:∃J1:Nat→List (List D)×Int→Prop,∀n u i,J1 n (u,i)↔(∃k:Nat,i=k∧k+n=(parts s).length∧u=((mL s).take k).map aV):=⟨fun n v=>match v with|(u,i)=>(∃k:Nat,i=k∧k+n=(parts s).length∧u=((mL s).take k).map aV),fun _ _ _=>Iff.rfl⟩
 refine bg ⟨[0,3,7,8],[(3,1)],[]⟩ (σ:=List (List D)×Int) (fun v=>[(3,.ow 0 1 (t _ fun _=>(v.1).length)),(8,.d (.int .i64 (t _ fun _=>v.2)))]) (fun v=>[(0,.row 1 (t _ fun _=>v.1))]) J1 ?_
 cbv
 refine aC ⟨(parts s).length,([],_),(gj _ _ _).2 ?_,by simp only [ht];rfl,?_⟩
 ·exact ⟨0,rfl,by simp,rfl⟩
 rintro n ⟨u,i⟩ hj
 replace hj:=(gj _ _ _).1 hj
 obtain ⟨k,rfl,j1,j4⟩:=hj
 cbv
 refine ai (fun h2=>?_) (fun h2=>?_)
 ·simp [ht,aa] at h2
  cbv
  refine aU trv (vR ht _ ‹_›) trv rfl rfl rfl (fun r3 gQ=>?_)
  simp only [ht] at gQ
  have hrl:(r3).length=(parts s).length:=by rw [gQ]
  cbv
  refine ⟨?_,?_⟩
  ·(simp only [ht];refine ⟨?_,fun r hr=>by obtain ⟨y,_,rfl⟩:=List.mem_map.1 hr;rfl⟩;rw [aE (by omega)];simp only [bQ];rw [lgM];omega)
  cbv
  (refine ay trv (Mf ht (l:=r3.take (k+1)) (by simp only [ht,fX];rw [aE (by omega),List.map_take];rfl) (by simp;omega) (by rw [gQ];exact Nat.le_trans (Dj s (k+1)) (by omega))) trv rfl rfl (fun r4 dV=>?_);simp only [ht] at dV;rw [gQ] at dV)
  cbv
  refine ⟨?_,?_⟩
  ·(simp only [ht];grind)
  cbv
  refine bu (_,_) (by simp only [ht,←List.length_append];rfl) (n-1) ?_ ((gj _ _ _).2 ?_)
  ·omega
  simp only [aa]
  exact ⟨k+1,aE (by omega),by omega,by rw [Dk (by omega),j4,←dV];simp⟩
 simp [ht,aa] at h2
 cbv
 refine EB trv rfl rfl rfl rfl ?_ ?_
 ·(simp [ht,j4,List.take_of_length_le (show (mL s).length≤k by rw [gX];omega)];done)
 (simp [ht,j4,List.take_of_length_le (show (mL s).length≤k by rw [gX];omega)];done)
theorem E6 (ht:TT t) {es:List (List D)} {x:D} {row:List D} {i n c:Nat} (hn:n=es.length) (hi:i≤n) (hc:n≤c) (hc0:n=0→c=0) (aD:∀r∈es,r.length=1) (hrow:(x::row).length=1) (hs:n<1000000) {r:List (List D)} (hr:r=es.take i++(x::row)::es.drop i):
 FC 187 [.vw 0 1 0 n c true,bc (i:Int),SL [x::row]] [.row 1 es] (.ret (SL r)) [.dead]:=by
 obtain ⟨n1,Jh⟩:∃n1,n1=n+1:=⟨_,rfl⟩
 obtain ⟨i1,hi1⟩:∃i1,i1=i+1:=⟨_,rfl⟩
 obtain ⟨ni,hni⟩:∃ni,ni=n-i:=⟨_,rfl⟩
 obtain ⟨ci,uo⟩:∃ci,ci=c-i:=⟨_,rfl⟩
 obtain ⟨ze,Qo⟩:∃ze,ze=c-i1:=⟨_,rfl⟩
 obtain ⟨pE,uq⟩:∃pE,pE=n1-i:=⟨_,rfl⟩
 have hW:∀P:Prop,((IntKind.i64.wrap ((n:Int)+1)=(n1:Int))→(IntKind.i64.wrap ((n1:Int)-(i:Int))=(pE:Int))→(IntKind.i64.wrap ((i:Int)+1)=(i1:Int))→P)→P:=
  fun P h=>h (by rw [wrap64 (by omega) (by omega)];omega) (by rw [wrap64 (by omega) (by omega)];omega) (by rw [wrap64 (by omega) (by omega)];omega)
 have hrl:r.length=n1:=by rw [hr,List.length_append,List.length_cons,List.length_take,List.length_drop];omega
 have VT:n≠0→FC 212 [SL [x::row],.vw 0 1 i1 ni ze true] [.row 1 es] (.ret (BL false)) [.row 1 es]:=fun h0=>
  ia JF Tryz.func212 rfl rfl rfl rfl (tS:=79) (tR:=4) rfl rfl (by intro h;rw [h] at hn;exact h0 hn)
 refine bA ht (aB:=[.row 1 es]) Tryz.func187 rfl rfl (N:=95) rfl rfl (n:=1) rfl rfl ?_
 cbv
 refine bP (.vw 0 1 i ni ci true) [.row 1 es] ?_ ?_ rfl ?_
 ·simp [ht,dX,bQ];omega
 ·simp [ht,aT,aS,hni,uo]
 cbv
 refine pP (by simp [ht]) ?_
 cbv
 refine ai (fun h=>?_) (fun h=>?_)
 ·have hin:i=n:=by simp [ht,aa] at h;omega
  clear h
  cbv
  refine bP (.ow 1 1 n1) [.dead,.row 1 r] ?_ ?_ ?_ ?_
  ·simp only [ht]
   refine ⟨⟨hn,by simp;omega,?_⟩,rfl,hn,fun h=>⟨hc0 (by rw [hn,h];rfl),rfl⟩⟩
   intro r hr
   rcases List.mem_append.1 hr with hr|hr
   ·exact aD r hr
   simp at hr;subst hr;exact hrow
  ·simp [ht,Jh,hn]
  ·simp only [ht];rw [hr]
   have:i=es.length:=by omega
   subst this;simp
  cbv
  refine ak trv ?_ rfl rfl rfl rfl
  simp only [ht];exact hrl.symm
 have hin:i<n:=by simp [ht,aa] at h;omega
 clear h
 have wY:r=(r.drop 0).take n1:=by rw [List.drop_zero,List.take_of_length_le (by omega)]
 cbv
 refine ai (fun h2=>?_) (fun h2=>?_)
 ·have VU:c=n:=by
   refine hW _ fun e1 e2 e3=>?_
   simp [ht,aa,e1] at h2;omega
  clear h2
  obtain ⟨L,hL⟩:∃L:List (List D),L=es.take i++List.replicate (es.length+1-i) [D.str []]:=⟨_,rfl⟩
  have IU:L.length=n1:=by rw [hL];simp;omega
  obtain ⟨L1,ur⟩:∃L1,L1=wrote L i [x::row]:=⟨_,rfl⟩
  have mQ:L1.length=n1:=by rw [ur];simp [wrote,IU];omega
  have pY:r=wrote L1 i1 (es.drop i):=by rw [hi1,ur,hL,vN (by omega),hr]
  cbv
  refine bP (.vw 0 1 0 i c true) [.row 1 es] ?_ ?_ rfl ?_
  ·simp [ht,dX,bQ];omega
  ·simp [ht,aT,aS]
  cbv
  refine bP (.vw 1 1 0 n1 n1 false) [.row 1 es,.row 1 L] ?_ ?_ ?_ ?_
  ·refine hW _ fun e1 e2 e3=>?_
   simp [ht,aa,e1,e2];omega
  ·refine hW _ fun e1 e2 e3=>?_
   simp [ht,aa,e1,e2];omega
  ·refine hW _ fun e1 e2 e3=>?_
   simp [ht,aa,e1,e2,hL];omega
  cbv
  refine bP (.vw 1 1 i pE pE false) [.row 1 es,.row 1 L] ?_ ?_ rfl ?_
  ·simp [ht,dX,bQ];omega
  ·simp [ht,aT,aS,uq]
  cbv
  refine bP (bc 1) [.row 1 es,.row 1 L1] ?_ ?_ ?_ ?_
  ·simp only [ht,fe]
   refine ⟨⟨by omega,?_⟩,?_⟩
   ·intro h;rw [h] at IU;simp at IU;omega
   intro r hr;have:=List.mem_of_mem_take hr;simp at this;rw [this];exact hrow
  ·simp [ht,aa];omega
  ·simp [ht,ur,show min 1 pE=1 by omega]
  cbv
  refine bS [false,false,false,false,false,false,false,false,true] (by kernel_rfl) (by kernel_rfl) ?_
  cbv
  repeat (refine gI (by (simp;done)) ?_)
  refine iR (.vw 1 1 i1 ni ni false) (fun _=>⟨?_,?_⟩) ?_
  ·refine hW _ fun e1 e2 e3=>?_
   simp [ht,aa,e3,dX,bQ];omega
  ·refine hW _ fun e1 e2 e3=>?_
   simp [ht,aa,e3,aT,aS];omega
  cbv
  repeat (refine gI (by (simp;done)) ?_)
  refine iR (.vw 0 1 i ni ci true) (fun _=>⟨?_,?_⟩) ?_
  ·simp [ht,dX,bQ];omega
  ·simp [ht,aT,aS,hni,uo]
  cbv
  refine bP (bc (ni:Nat)) [.row 1 es,.row 1 r,.bt] ?_ ?_ ?_ ?_
  ·simp only [ht,fe]
   refine ⟨by omega,⟨by omega,?_⟩,?_⟩
   ·intro h;rw [h] at mQ;simp at mQ;omega
   intro r hr;exact aD r (List.mem_of_mem_drop (List.mem_of_mem_take hr))
  ·simp [ht,aa]
  ·simp only [ht,pY]
   rw [List.take_of_length_le (by simp;omega)]
  cbv
  refine AQ [true] trv ?_ rfl rfl rfl ?_
  ·simp only [ht];omega
  simp only [ht];rw [←wY]
 have VU:n<c:=by
  refine hW _ fun e1 e2 e3=>?_
  simp [ht,aa,e1] at h2;omega
 clear h2
 obtain ⟨L1,ur⟩:∃L1,L1=wrote es i1 (es.drop i):=⟨_,rfl⟩
 have pY:r=wrote L1 i [x::row]:=by rw [ur,hi1,EU (by omega),hr]
 have mQ:L1.length=n1:=by rw [ur];simp [wrote];omega
 cbv
 refine bP (.vw 0 1 0 n1 c true) [.row 1 es] ?_ ?_ rfl ?_
 ·refine hW _ fun e1 e2 e3=>?_
  simp [ht,aa,e1,dX,bQ];omega
 ·refine hW _ fun e1 e2 e3=>?_
  simp [ht,aa,e1,aT,aS]
 cbv
 refine bP (.vw 0 1 i1 ni ze true) [.row 1 es] ?_ ?_ rfl ?_
 ·refine hW _ fun e1 e2 e3=>?_
  simp [ht,aa,e3,dX,bQ];omega
 ·refine hW _ fun e1 e2 e3=>?_
  simp [ht,aa,e3,aT,aS];omega
 cbv
 refine de trv (VT (by omega)) ?_
 cbv
 refine mJ (by simp [ht]) ?_
 cbv
 refine bS [false,false,false,false,false,false,false,false,true] (by kernel_rfl) (by kernel_rfl) ?_
 cbv
 repeat (refine gI (by (simp;done)) ?_)
 refine iR (.vw 0 1 i1 ni ze true) (fun _=>⟨?_,?_⟩) ?_
 ·refine hW _ fun e1 e2 e3=>?_
  simp [ht,aa,e3,dX,bQ];omega
 ·refine hW _ fun e1 e2 e3=>?_
  simp [ht,aa,e3,aT,aS];omega
 cbv
 repeat (refine gI (by (simp;done)) ?_)
 refine iR (.vw 0 1 i pE ci true) (fun _=>⟨?_,?_⟩) ?_
 ·simp [ht,dX,bQ];omega
 ·simp [ht,aT,aS,uq,uo]
 cbv
 refine bP (bc (ni:Nat)) [.row 1 L1,.bt] ?_ ?_ ?_ ?_
 ·simp only [ht,fe]
  refine ⟨by omega,⟨by omega,?_⟩,?_⟩
  ·intro h;rw [h] at hn;simp at hn;omega
  intro r hr;exact aD r (List.mem_of_mem_drop (List.mem_of_mem_take hr))
 ·simp [ht,aa];omega
 ·simp only [ht,ur]
  rw [List.take_of_length_le (by simp;omega)]
 cbv
 refine bP (.vw 0 1 i pE ci true) [.row 1 L1,.bt] ?_ ?_ rfl ?_
 ·simp [ht,dX,bQ];omega
 ·simp [ht,aT,aS,uq,uo]
 cbv
 refine bP (bc 1) [.row 1 r,.bt] ?_ ?_ ?_ ?_
 ·simp only [ht,fe]
  refine ⟨⟨by omega,?_⟩,?_⟩
  ·intro h;rw [h] at mQ;simp at mQ;omega
  intro r hr;have:=List.mem_of_mem_take hr;simp at this;rw [this];exact hrow
 ·simp [ht,aa];omega
 ·simp [ht,pY,show min 1 pE=1 by omega]
 cbv
 refine AQ [true] trv ?_ rfl rfl rfl ?_
 ·simp only [ht];omega
 simp only [ht];rw [←wY]
theorem Ig (ht:TT t) {es:List (List D)} {x:D} {row:List D} {i n:Nat} (hn:n=es.length) (hi:i≤n) (aD:∀r∈es,r.length=1) (hrow:(x::row).length=1) (hs:n<1000000) {r:List (List D)} (hr:r=es.take i++(x::row)::es.drop i):
 FC 187 [.ow 0 1 n,bc (i:Int),SL [x::row]] [.row 1 es] (.ret (SL r)) [.dead]:=
 fF fun c hc hc0=>E6 ht hn hi hc hc0 aD hrow hs hr
theorem E7 (ht:TT t) {l:List aA} {x:aA} {k:Nat} {i:Int} (hi:i=k) (hk:k≤l.length) (hl:l.length<1000000):
 FC 187 [.ow 0 1 (t _ fun _=>(l.map aV).length),bc i,.cl [[.str x]]] [.row 1 (t _ fun _=>l.map aV)] (.ret (SL (t _ fun _=>(l.take k++x::l.drop k).map aV))) [.dead]:=by
 simp only [ht];subst hi
 refine oZ (args':=[.ow 0 1 (l.map aV).length,bc k,SL [aV x]]) ?_ (Ig ht (by simp) (by simpa using hk) ?_ rfl (by simpa using hl) (by simp))
 ·intro β w ok vs h
  simp only [aj] at h ⊢
  obtain ⟨u1,Zg,rfl,h1,u2,OR,rfl,h2,u3,V1,rfl,h3,h4⟩:=h
  exact ⟨u1,_,rfl,h1,u2,_,rfl,h2,u3,V1,rfl,LU h3,h4⟩
 intro r hr;obtain ⟨y,_,rfl⟩:=List.mem_map.1 hr;rfl
theorem Ih (ht:TT t) (s:aA) (hs:s.length<1000000000000):FC 146 [ST s] [] (.ret (Hg t (t _ fun _=>above s))) []:=by
 have hp:=jR s
 have hl:=gX s
 refine bA ht (aB:=[]) Tryz.func146 rfl rfl (N:=7) rfl rfl (n:=0) rfl rfl ?_
 cbv
 refine pQ trv (Mg ht s ‹_›) trv rfl (.inr rfl) ?_
 cbv
 refine cD [0] trv rfl rfl (E7 ht (l:=mL s) (x:=[]) (k:=0) rfl (by omega) (by omega)) (bK ?_)
 cbv
 refine ak trv trv rfl rfl rfl ?_
 (simp [ht,above];done)
theorem vS (ht:TT t) (s:aA) (hs:s.length<1000000000000):FC 86 [ST s] [] (.ret (cu (t _ fun _=>named s))) []:=by
 refine bA ht (aB:=[]) Tryz.func86 rfl rfl (N:=10) rfl rfl (n:=0) rfl rfl ?_
 cbv
 iterate 2 refine gI (by simp [ht]) ?_
 refine aJ (fun g0=>⟨by simp [ht] at g0 ⊢;exact g0,trv,BE ht _ _ ‹_›⟩) rfl rfl (fun r1 eb=>?_)
 simp only [ht] at eb
 cbv
 refine pI (by simp [ht]) ?_
 refine ak trv trv rfl rfl rfl ?_
 (simp [named, *];done)
theorem sA (ht:TT t) (s:aA) (hs:s.length<1000000000000):FC 87 [ST s] [] (.ret (sK (t _ fun _=>parent s))) []:=by
 have hp:=jR s
 have hl:=gX s
 obtain ⟨ps,hps⟩:∃p,p=parent s:=⟨_,rfl⟩
 refine bA ht (aB:=[]) Tryz.func87 rfl rfl (N:=13) rfl rfl (n:=0) rfl rfl ?_
 cbv
 refine aU trv (Ih ht _ ‹_›) trv rfl rfl rfl (fun r0 bF=>?_)
 simp only [ht] at bF
 have hla:(r0).length=(parts s).length+1:=by rw [bF];simp [above,gX]
 have hpx:(r0)[(r0).length-2]?=some ps:=by rw [hps,bF,parent,List.getD_eq_getElem?_getD,List.getElem?_eq_getElem (by rw [bF] at hla;omega)];rfl
 cbv
 (refine Cs ht (l:=r0) (cells:=aV) (cT:=eR t) (i:=r0.length-2) (x:=ps) (by simp only [ht];done) hpx (by simp only [ht,aa,lgM];rw [wrap64 (by omega) (by omega)];omega) (fun _=>rfl) (fun _=>rfl) ?_)
 cbv
 refine ak trv trv rfl rfl rfl ?_
 (simp [ht,hps];done)
def aQ.aK (_:Th) (e:aQ):List D:=[.str e.path,.int .u64 e.c6.a,.int .u64 e.c6.b,.int .u64 e.c6.c,.int .u64 e.c6.d,.int .u64 e.used.a,.int .u64 e.used.b,.int .u64 e.used.c,.int .u64 e.used.d]
def V7 (e:aQ):AV:=.agg [ST e.path,ax e.c6.a,ax e.c6.b,ax e.c6.c,ax e.c6.d,ax e.used.a,ax e.used.b,ax e.used.c,ax e.used.d]
def Yx (r:aQ×Bool):AV:=.dA [V7 r.1,BL r.2]
def QI (t:Th) (l:List aQ):AV:=SL (t _ fun _=>l.map aQ.cells)
def E8 (t:Th) (r:List aQ×Int):AV:=.dA [QI t r.1,bc r.2]
theorem NC (ht:TT t) (q:aA) {l:List (aQ)} {es:List (List D)} (aD:es=l.map aQ.cells) (f:Nat) (p:aQ→Bool) (hl:l.length<9223372036854775807)
 (hf:∀x∈l,FC f [.agg [ST x.path,ax x.c6.a,ax x.c6.b,ax x.c6.c,ax x.c6.d,ax x.used.a,ax x.used.b,ax x.used.c,ax x.used.d],.ptr 0 0] [.var [ST q]] (.ret (BL (p x))) [.var [ST q]]) {r:Int} (hr:r=idxOf p l):FC 140 [SL es,.fn f [.ptr 0 0]] [.var [ST q]] (.ret (bc r)) [.var [ST q]]:=by
 have hel:es.length=l.length:=by rw [aD,lgM]
 obtain ⟨J,hJ⟩:∃J:Nat→Nat→Prop,∀n v,J n v↔(v+n=l.length∧∀i<v,∀x,l[i]?=some x→p x=false):=⟨fun n v=>v+n=l.length∧∀i<v,∀x,l[i]?=some x→p x=false,fun _ _=>Iff.rfl⟩
 refine bA ht (aB:=[.var [ST q]]) Tryz.func140 rfl rfl (N:=19) rfl rfl (n:=1) rfl rfl ?_
 cbv
 refine bg ⟨[0,1,7,8],[],[]⟩ (σ:=Nat) (fun k=>[(8,bc (t _ fun _=>(k:Int)))]) (fun _=>[]) J ?_
 cbv
 refine aC ⟨l.length,0,(hJ _ _).2 ⟨by omega,by intro i hi;simp at hi⟩,by simp only [ht];rfl,?_⟩
 rintro n k hj
 obtain ⟨h2,h3⟩:=(hJ _ _).1 hj
 clear hj
 cbv
 refine ai (fun h=>?_) (fun h=>?_)
 ·simp only [ht,aa,decide_eq_true_eq] at h
  have hk:k<l.length:=by omega
  obtain ⟨x,hx⟩:∃x,l[k]?=some x:=⟨l[k],by simp⟩
  have nO:x∈l:=List.mem_of_getElem? hx
  have gS:=hf x nO
  obtain ⟨px,hpx⟩:∃b,b=p x:=⟨_,rfl⟩
  rw [←hpx] at gS
  obtain ⟨nm,⟨a,b,c,d⟩,⟨e,g,u,v⟩⟩:=x
  cbv
  refine iq [.str nm,.int .u64 a,.int .u64 b,.int .u64 c,.int .u64 d,.int .u64 e,.int .u64 g,.int .u64 u,.int .u64 v] ?_ ?_ ?_
  ·simp only [ht,aa];refine ⟨by omega,h,?_⟩;rw [aD];intro r hr;obtain ⟨y,_,rfl⟩:=List.mem_map.1 hr;rfl
  ·simp [ht,aa,aD,hx]
  cbv
  refine de trv gS ?_
  cbv
  refine ai (fun hb=>?_) (fun hb=>?_)
  ·cbv
   refine ak trv trv rfl rfl rfl ?_
   have e:=cO hx (hpx▸hb) h3
   simp only [ht,aa,hr,idxOf,e]
  cbv
  refine aC ⟨n-1,k+1,⟨by omega,(hJ _ _).2 ⟨by omega,?_⟩⟩,?_⟩
  ·intro i hi y hy
   by_cases hik:i<k
   ·exact h3 i hik y hy
   have:i=k:=by omega
   subst this;rw [hx] at hy;cases hy;rw [←hpx];exact hb
  simp only [ht,aa,aE (show k<9223372036854775807 by omega)];rfl
 simp only [ht,aa,decide_eq_false_iff_not] at h
 have hk:¬k<l.length:=by omega
 clear h
 cbv
 refine ak trv trv rfl rfl rfl ?_
 rw [hr,idxOf,cR]
 intro i y hy
 have:i<l.length:=by
  rcases Nat.lt_or_ge i l.length with h'|h';· exact h'
  simp [List.getElem?_eq_none h'] at hy
 exact h3 i (by omega) y hy
theorem ND (ht:TT t) (q:aA) (x:aQ):FC 141 [.agg [ST x.path,ax x.c6.a,ax x.c6.b,ax x.c6.c,ax x.c6.d,ax x.used.a,ax x.used.b,ax x.used.c,ax x.used.d],.ptr 0 0] [.var [ST q]] (.ret (BL (decide (x.path=q)))) [.var [ST q]]:=by
 obtain ⟨nm,⟨a,b,c,d⟩,⟨e,g,u,v⟩⟩:=x
 refine bA ht (aB:=[.var [ST q]]) Tryz.func141 rfl rfl (N:=8) rfl rfl (n:=1) rfl rfl ?_
 cbv
 refine ak trv trv rfl rfl rfl ?_
 simp [ht]
theorem jZ (ht:TT t) (q:aA) {l:List aQ} {es:List (List D)} (aD:es=l.map aQ.cells) (hl:l.length<1000000000):
 FC 81 [SL es,ST q] [] (.ret (mR (t _ fun _=>bM l q))) []:=by
 obtain ⟨r,hr⟩:∃r,r=bM l q:=⟨_,rfl⟩
 refine bA ht (aB:=[]) Tryz.func81 rfl rfl (N:=8) rfl rfl (n:=0) rfl rfl ?_
 cbv
 refine de trv (NC ht q aD 141 (fun x=>decide (x.path=q)) (by omega) (fun x _=>ND ht q x) (r:=r) hr) ?_
 cbv
 exact ak trv trv rfl rfl rfl (by simp [ht,hr])
theorem E9 {l:List aQ} {q:aA} {r:Int} (h:r=bM l q):(r=-1∧om l q=(aQ.zero,false))∨∃(k:Nat) (x:aQ),r=k∧k<l.length∧l[k]?=some x∧om l q=(x,true):=by
 rcases cS (p:=fun e:aQ=>decide (e.path=q)) (l:=l) (r:=r) h with ⟨e1,e2,e3⟩|⟨i,x,hi,hil,e1,e2,e3,e4⟩
 ·exact .inl ⟨e1,by simp [om,e3]⟩
 exact .inr ⟨i,x,hi,hil,e1,by simp [om,e4]⟩
theorem Ii (ht:TT t) (q:aA) {l:List aQ} {es:List (List D)} (aD:es=l.map aQ.cells) (hl:l.length<1000000000):
 FC 28 [SL es,ST q] [] (.ret (Yx (t _ fun _=>om l q))) []:=by
 refine bA ht (aB:=[]) Tryz.func28 rfl rfl (N:=17) rfl rfl (n:=0) rfl rfl ?_
 cbv
 have av:es.length=l.length:=by rw [aD,lgM]
 refine ay trv (jZ ht _ ‹_› ‹_›) trv rfl rfl (fun r0 bF=>?_)
 simp only [ht] at bF
 have ec:=E9 bF
 clear bF
 rcases ec with ⟨e1,e2⟩|⟨i,x,hi,hil,e1,e2⟩
 ·cbv
  refine ai (fun h1=>?_) (fun h1=>?_)
  ·simp [ht] at h1
   cbv
   refine ak trv trv rfl rfl rfl ?_
   (simp [ht,e2,aQ.zero,bz.zero];done)
  simp [ht] at h1
  omega
 cbv
 refine ai (fun h2=>?_) (fun h2=>?_)
 ·simp [ht] at h2
  (simp only [aa] at*;omega)
 simp [ht] at h2
 cbv
 refine Cs ht aD (cT:=aQ.aK t) e1 ‹_› (fun _=>rfl) (fun _=>rfl) ?_
 cbv
 refine ak trv trv rfl rfl rfl ?_
 (simp [ht,e2];done)
theorem Tt (ht:TT t) (a b c d:Int):FC 85 [V4 a b c d] [] (.ret (QI t (t _ fun _=>[⟨[],⟨a,b,c,d⟩,bz.zero⟩]))) []:=by
 refine bA ht (aB:=[]) Tryz.func85 rfl rfl (N:=6) rfl rfl (n:=0) rfl rfl ?_
 cbv
 refine ak trv trv rfl rfl rfl ?_
 (simp [ht,bz.zero];done)
end Dem
end
