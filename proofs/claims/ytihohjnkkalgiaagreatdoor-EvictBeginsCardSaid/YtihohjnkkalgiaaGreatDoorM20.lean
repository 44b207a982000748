/- Parts of a proof, joined. -/
import Derived.Test.YtihohjnkkalgiaaGreatDoorM19
set_option linter.all false
set_option maxRecDepth 100000
set_option maxHeartbeats 4000000
section
open Go Dem Go.Proofs
namespace Dem
variable {t:Th}
theorem yH (ht:TT t) {es:List (List D)} (aB:∀r∈es,r.length=6) (hs:es.length*72≤140737488355328) {m:Nat} (hm:m=es.length):
 FC 191 [SL es] [] (.ret (.ow 0 6 m)) [.row 6 es]:=by
 refine bH ht (aF:=[]) Tryz.func191 rfl rfl (N:=8) rfl rfl (n:=0) rfl rfl ?_
 cbv
 refine ⟨fun b hb=>?_⟩
 simp only [ht] at hb
 cbv
 refine an (fun h=>?_) (fun h=>?_)
 ·have he:=hb h
  subst he
  cbv
  exact GO trv rfl rfl (by rw [hm];rfl) rfl
 clear hb h
 cbv
 refine ⟨?_,?_⟩
 ·simp only [ht];simp;exact ⟨hs,aB⟩
 refine Cp trv rfl rfl rfl rfl ?_ ?_
 ·simp only [ht];rw [hm];simp
 simp only [ht];rfl
theorem NW (ht:TT t) (xr:List (List D)) {l:List (bS)} {es:List (List D)} (aB:es=l.map bS.cells) (f:Nat) (p:bS→Bool) (hl:l.length<9223372036854775807)
 (hf:∀x∈l,FC f [.agg [ST x.node,aA x.free.a,aA x.free.b,aA x.free.c,aA x.free.d,SL (x.labels.map dg.cells)],.ep [.sl xr]] [] (.ret (BL (p x))) []) {r:Int} (hr:r=idxOf p l):FC 216 [SL es,.fn f [.ep [.sl xr]]] [] (.ret (bI r)) []:=by
 have hel:es.length=l.length:=by rw [aB,lgM]
 obtain ⟨J,hJ⟩:∃J:Nat→Nat→Prop,∀n v,J n v↔(v+n=l.length∧∀i<v,∀x,l[i]?=some x→p x=false):=⟨fun n v=>v+n=l.length∧∀i<v,∀x,l[i]?=some x→p x=false,fun _ _=>Iff.rfl⟩
 refine bH ht (aF:=[]) Tryz.func216 rfl rfl (N:=19) rfl rfl (n:=0) rfl rfl ?_
 cbv
 refine bF ⟨[0,1,7,8],[],[]⟩ (σ:=Nat) (fun k=>[(8,bI (t _ fun _=>(k:Int)))]) (fun _=>[]) J ?_
 cbv
 refine aD ⟨l.length,0,(hJ _ _).2 ⟨by omega,by intro i hi;simp at hi⟩,by simp only [ht];rfl,?_⟩
 rintro n k hj
 obtain ⟨h2,h3⟩:=(hJ _ _).1 hj
 clear hj
 cbv
 refine an (fun h=>?_) (fun h=>?_)
 ·simp only [ht,aa,decide_eq_true_eq] at h
  have hk:k<l.length:=by omega
  obtain ⟨x,hx⟩:∃x,l[k]?=some x:=⟨l[k],by simp⟩
  have mE:x∈l:=List.mem_of_getElem? hx
  have gz:=hf x mE
  obtain ⟨px,hpx⟩:∃b,b=p x:=⟨_,rfl⟩
  rw [←hpx] at gz
  obtain ⟨nd,⟨v1,v2,v3,v4⟩,lb⟩:=x;obtain ⟨Hz,mz⟩:∃lr:List (List D),lr=lb.map dg.cells:=⟨_,rfl⟩;simp only [←mz] at gz
  cbv
  refine ic [.str nd,.int .u64 v1,.int .u64 v2,.int .u64 v3,.int .u64 v4,.sl Hz] ?_ ?_ ?_
  ·simp only [ht,aa];refine ⟨by omega,h,?_⟩;rw [aB];intro r hr;obtain ⟨y,_,rfl⟩:=List.mem_map.1 hr;rfl
  ·simp [ht,aa,aB,hx,mz,bS.cells]
  cbv
  refine dw trv gz ?_
  cbv
  refine an (fun hb=>?_) (fun hb=>?_)
  ·cbv
   refine av trv trv rfl rfl rfl ?_
   have e:=cV hx (hpx▸hb) h3
   simp only [ht,aa,hr,idxOf,e]
  cbv
  refine aD ⟨n-1,k+1,⟨by omega,(hJ _ _).2 ⟨by omega,?_⟩⟩,?_⟩
  ·intro i hi y hy
   by_cases hik:i<k
   ·exact h3 i hik y hy
   have:i=k:=by omega
   subst this;rw [hx] at hy;cases hy;rw [←hpx];exact hb
  simp only [ht,aa,aC (show k<9223372036854775807 by omega)];rfl
 simp only [ht,aa,decide_eq_false_iff_not] at h
 have hk:¬k<l.length:=by omega
 clear h
 cbv
 refine av trv trv rfl rfl rfl ?_
 rw [hr,idxOf,c7]
 intro i y hy
 have:i<l.length:=by
  rcases Nat.lt_or_ge i l.length with h'|h';· exact h'
  simp [List.getElem?_eq_none h'] at hy
 exact h3 i (by omega) y hy
theorem KB (ht:TT t) (xr:List (List D)) {l:List (bS)} {es:List (List D)} (aB:es=l.map bS.cells) {m c:Nat} (hm:m=l.length) (hc:m≤c) (f:Nat) (p:bS→Bool) (hl:l.length<9223372036854775807)
 (hf:∀x∈l,FC f [.agg [ST x.node,aA x.free.a,aA x.free.b,aA x.free.c,aA x.free.d,SL (x.labels.map dg.cells)],.ep [.sl xr]] [] (.ret (BL (p x))) []) {r:List (List D)} (hr:r=(l.filter (fun x=>!p x)).map bS.cells) {kk:Nat} (hkk:kk=r.length) {rz:List (List D)} (HU:rz=r++List.replicate (m-kk) [.str [],.int .u64 0,.int .u64 0,.int .u64 0,.int .u64 0,.sl []]):
 FC 190 [.vw 0 6 0 m c true,.fn f [.ep [.sl xr]]] [.row 6 es] (.ret (.vw 0 6 0 kk c true)) [.row 6 rz]:=by
 have hel:es.length=m:=by rw [aB,lgM,hm]
 have hrows:∀r∈es,r.length=6:=by rw [aB];intro r hr;obtain ⟨y,_,rfl⟩:=List.mem_map.1 hr;rfl
 obtain ⟨k,hk⟩:∃k,k=idxOf p l:=⟨_,rfl⟩
 have Qy:(t (List (List D)) fun _=>(es.drop 0).take m)=l.map bS.cells:=by simp only [ht];rw [List.drop_zero,List.take_of_length_le (by omega),aB]
 have hidx:=NW ht xr Qy f p hl hf hk
 obtain ⟨J,hJ⟩:∃J:Nat→Nat×Nat×List (List D)→Prop,∀n v,J n v↔(v.2.1+n=m∧v.1<v.2.1∧v.2.2.length=m∧(∀r∈v.2.2,r.length=6)∧v.2.2.take v.1=((l.take v.2.1).filter (fun x=>!p x)).map bS.cells∧v.2.2.drop v.2.1=es.drop v.2.1):=⟨fun n v=>v.2.1+n=m∧v.1<v.2.1∧v.2.2.length=m∧(∀r∈v.2.2,r.length=6)∧v.2.2.take v.1=((l.take v.2.1).filter (fun x=>!p x)).map bS.cells∧v.2.2.drop v.2.1=es.drop v.2.1,fun _ _=>Iff.rfl⟩
 refine bH ht (aF:=[.row 6 es]) Tryz.func190 rfl rfl (N:=42) rfl rfl (n:=1) rfl rfl ?_
 cbv
 refine Qb (TT.eq ht) (v:=bI k) [true] [] trv rfl ?_ rfl rfl rfl rfl rfl rfl rfl hidx ?_
 ·simp [ht];omega
 cbv
 refine an (fun h=>?_) (fun h=>?_)
 ·have zi:k=-1:=by simp [ht] at h;exact h
  have hnone:=nS (hk▸zi:idxOf p l=-1)
  clear h
  cbv
  have Pk:r=es:=by rw [hr,filter_all hnone,←aB]
  have hkm:kk=m:=by rw [hkk,Pk,hel]
  have Wj:rz=es:=by rw [HU,hkm,Nat.sub_self,Pk];simp
  rw [Wj,hkm]
  exact JE trv rfl rfl
 have zi:k≠-1:=by simp [ht] at h;exact h
 clear h
 obtain ⟨i0,x0,U1,hx0,Yz,hb0⟩:=nT (hk▸zi:idxOf p l≠-1)
 rw [←hk] at U1
 subst U1
 have YA:i0<m:=by rw [hm];exact (List.getElem?_eq_some_iff.1 hx0).1
 cbv
 refine bF ⟨[0,1,5,6],[],[]⟩ (σ:=Nat×Nat×List (List D)) (fun v=>[(5,bI (t _ fun _=>(v.1:Int))),(6,bI (t _ fun _=>(v.2.1:Int)))]) (fun v=>[(0,.row 6 (t _ fun _=>v.2.2))]) J ?_
 cbv
 refine aD ⟨m-(i0+1),(i0,i0+1,es),(hJ _ _).2 ⟨?_,?_,hel,hrows,?_,rfl⟩,by simp only [ht,aa,Int.ofNat_eq_natCast,aC (show i0<9223372036854775807 by omega)];rfl,?_⟩
 ·show i0+1+(m-(i0+1))=m;omega
 ·show i0<i0+1;omega
 ·show es.take i0=_
  rw [dA hx0,List.filter_append,filter_all hb0,aB,←List.map_take];simp [Yz]
 rintro n ⟨i,j,cur⟩ hj
 obtain ⟨j1,j2,j3,j4,j5,j6⟩:=(hJ _ _).1 hj
 clear hj
 simp only at j1 j2 j3 j4 j5 j6
 cbv
 refine an (fun h=>?_) (fun h=>?_)
 ·have U2:j<m:=by simp [ht,aa] at h;omega
  clear h
  obtain ⟨x,hx⟩:∃x,l[j]?=some x:=⟨l[j]'(by omega),by simp⟩
  have mE:x∈l:=List.mem_of_getElem? hx
  have gz:=hf x mE
  have Hv:cur[j]?=some (bS.cells x):=by
   have:(cur.drop j)[0]?=(es.drop j)[0]?:=by rw [j6]
   rw [List.getElem?_drop,List.getElem?_drop,Nat.add_zero,aB,List.getElem?_map,hx] at this
   exact this
  obtain ⟨px,hpx⟩:∃b,b=p x:=⟨_,rfl⟩
  rw [←hpx] at gz
  obtain ⟨cx,EG⟩:∃cx,cx=bS.cells x:=⟨_,rfl⟩
  rw [←EG] at Hv
  have hstep:(l.take (j+1)).filter (fun x=>!p x)=(l.take j).filter (fun x=>!p x)++(if px then [] else [x]):=by
   rw [dA hx,List.filter_append];cases px<;>simp [←hpx]
  obtain ⟨nd,⟨v1,v2,v3,v4⟩,lb⟩:=x;obtain ⟨Hz,mz⟩:∃lr:List (List D),lr=lb.map dg.cells:=⟨_,rfl⟩;simp only [bS.cells,←mz] at gz EG
  cbv
  refine ⟨?_,S5 [.str nd,.int .u64 v1,.int .u64 v2,.int .u64 v3,.int .u64 v4,.sl Hz] ?_ ?_ ?_⟩
  ·simp [ht,aa];omega
  ·simp [ht,aa,j3];omega
  ·simp [ht,aa,List.getD_eq_getElem?_getD,Hv,EG]
  cbv
  refine dx [] trv rfl rfl gz (cz ?_)
  cbv
  refine an (fun hb=>?_) (fun hb=>?_)
  ·have hb':px=false:=by simpa [ht] using hb
   clear hb
   obtain ⟨nc,hnc⟩:∃nc,nc=cur.set i cx:=⟨_,rfl⟩
   have qf:(cur.getD i []).length=6:=j4 _ (by rw [List.getD_eq_getElem?_getD,List.getElem?_eq_getElem (by omega)];exact List.getElem_mem _)
   cbv
   refine ⟨?_,?_⟩
   ·simp [ht,aa];omega
   refine ⟨?_,?_⟩
   ·simp [ht,aa,j3];exact ⟨by omega,by simpa using qf.symm▸(Nat.le_refl _)⟩
   refine aD ⟨n-1,(i+1,j+1,nc),⟨by omega,(hJ _ _).2 ⟨?_,?_,?_,?_,?_,?_⟩⟩,?_⟩
   ·show j+1+(n-1)=m;omega
   ·show i+1<j+1;omega
   ·show nc.length=m;rw [hnc,List.length_set];exact j3
   ·show ∀r∈nc,r.length=6
    intro r hr;rw [hnc] at hr
    rcases List.mem_or_eq_of_mem_set hr with hr|rfl
    ·exact j4 r hr
    rw [EG];rfl
   ·show nc.take (i+1)=_
    rw [hnc,kD _ _ _ (by omega),j5,hstep,hb',EG];simp [mz,bS.cells]
   ·show nc.drop (j+1)=es.drop (j+1)
    rw [hnc,m6 _ _ _ _ (by omega),←List.drop_drop,j6,List.drop_drop]
   simp only [ht,aa,Int.ofNat_eq_natCast,aC (show i<9223372036854775807 by omega),aC (show j<9223372036854775807 by omega)]
   have ei:0+((i:Int)).toNat=i:=by simp
   have e:cur.set i (bw (cur.getD i []) 0 [.str nd,.int .u64 v1,.int .u64 v2,.int .u64 v3,.int .u64 v4,.sl Hz])=nc:=by rw [hnc,kC _ _ (by rw [qf];rfl),EG]
   simp only [ei,e];rfl
  have hb':px=true:=by simpa [ht] using hb
  clear hb
  cbv
  refine aD ⟨n-1,(i,j+1,cur),⟨by omega,(hJ _ _).2 ⟨?_,?_,j3,j4,?_,?_⟩⟩,?_⟩
  ·show j+1+(n-1)=m;omega
  ·show i<j+1;omega
  ·show cur.take i=_
   rw [j5,hstep,hb'];simp
  ·show cur.drop (j+1)=es.drop (j+1)
   rw [←List.drop_drop,j6,List.drop_drop]
  simp only [ht,aa,Int.ofNat_eq_natCast,aC (show j<9223372036854775807 by omega)];rfl
 have U2:j=m:=by simp [ht,aa] at h;omega
 clear h
 obtain ⟨mi,ya⟩:∃mi,mi=m-i:=⟨_,rfl⟩
 obtain ⟨ci,qf⟩:∃ci,ci=c-i:=⟨_,rfl⟩
 obtain ⟨nc,hnc⟩:∃nc,nc=wrote cur i (List.replicate mi [.str [],.int .u64 0,.int .u64 0,.int .u64 0,.int .u64 0,.sl []]):=⟨_,rfl⟩
 have hnt:nc.take i=r:=by
  have hl':(cur.take i).length=i:=by simp;omega
  rw [hnc,wrote,List.append_assoc,List.take_left' hl',j5,hr,U2,hm,List.take_length]
 have YC:i≤nc.length:=by rw [hnc];simp [wrote];omega
 cbv
 refine bL (.vw 0 6 i mi ci true) [.row 6 cur] ?_ ?_ ?_ ?_
 ·simp [ht,aa,dO,bO];omega
 ·simp [ht,aa,aY,aT,ya,qf]
 ·simp only [ht]
 cbv
 refine bL (.eE []) [.row 6 nc] ?_ rfl ?_ ?_
 ·simp [ht,eO]
  refine ⟨by omega,?_⟩
  intro h;rw [h] at j3;simp at j3;omega
 ·simp only [ht,hnc]
 cbv
 refine bL (.vw 0 6 0 i c true) [.row 6 nc] ?_ ?_ rfl ?_
 ·simp [ht,aa,dO,bO];omega
 ·simp [ht,aa,aY,aT]
 cbv
 have hki:kk=i:=by rw [hkk,←hnt];simp;omega
 have Wj:rz=nc:=by
  rw [HU,hki,←hnt,hnc,wrote]
  have hl':(cur.take i).length=i:=by simp;omega
  rw [List.append_assoc,List.take_left' hl',List.drop_of_length_le (by simp;omega),List.append_nil,ya]
 rw [Wj,hki]
 exact JE trv rfl rfl
theorem KD (ht:TT t) (nd:aH) (v1 v2 v3 v4:Int) {lb:List dg} {lr:List (List D)} (hlr:lr=lb.map dg.cells) (hlb:lb.length<1000000000) {x:List Term} {xr:List (List D)} (EW:xr=x.map Term.cells) (hx:x.length<1000000000) (Fh:∀m∈x,m.mI.length<1000000000) {r:Bool} (hr:r=!ny x lb):
 FC 192 [.agg [ST nd,aA v1,aA v2,aA v3,aA v4,SL lr],.ep [.sl xr]] [] (.ret (BL r)) []:=by
 obtain ⟨H,hH⟩:∃H,H=ny x lb:=⟨_,rfl⟩
 rw [←hH] at hr
 refine bH ht (aF:=[]) Tryz.func192 rfl rfl (N:=9) rfl rfl (n:=0) rfl rfl ?_
 cbv
 have V6:lr.length=lb.length:=by rw [hlr,lgM]
 have KA:xr.length=x.length:=by rw [EW,lgM]
 refine aM trv (NV ht ‹_› ‹_› ‹_› ‹_› ‹_›) trv rfl rfl (fun r0 cN=>?_)
 simp only [ht] at cN
 cbv
 refine av trv trv rfl rfl rfl ?_
 (simp [ht,hr,hH,cN];done)
def Int.cells (x:Int):List D:=[.int .u64 x]
def Int.aU (_:Th) (x:Int):List D:=[.int .u64 x]
theorem EX (ht:TT t) (x:Int):FC 102 [aA x] [] (.ret (bX (t _ fun _=>false))) []:=by
 refine bH ht (aF:=[]) Tryz.func102 rfl rfl (N:=6) rfl rfl (n:=0) rfl rfl ?_
 cbv
 refine av trv trv rfl rfl rfl ?_
 (simp [ht];done)
theorem Rh (ht:TT t) (x y:Int):FC 51 [aA x,aA y] [] (.ret (gm (t _ fun _=>iU x y))) []:=by
 refine bH ht (aF:=[]) Tryz.func51 rfl rfl (N:=20) rfl rfl (n:=0) rfl rfl ?_
 cbv
 refine aM trv (EX ht _) trv rfl rfl (fun r0 cN=>?_)
 simp only [ht] at cN
 cbv
 refine aM trv (EX ht _) trv rfl rfl (fun r1 dL=>?_)
 simp only [ht] at dL
 cbv
 refine an (fun h2=>?_) (fun h2=>?_)
 ·cbv
  refine an (fun h3=>?_) (fun h3=>?_)
  ·cbv
   refine av trv trv rfl rfl rfl ?_
   (simp only [ht,iU];grind)
  cbv
  refine av trv trv rfl rfl rfl ?_
  (simp only [ht,iU];grind)
 cbv
 refine an (fun h4=>?_) (fun h4=>?_)
 ·cbv
  refine av trv trv rfl rfl rfl ?_
  (simp only [ht,iU];grind)
 cbv
 refine an (fun h5=>?_) (fun h5=>?_)
 ·simp [ht] at h5
  cbv
  refine av trv trv rfl rfl rfl ?_
  (simp [iU, *];done)
 simp [ht] at h5
 cbv
 refine an (fun h6=>?_) (fun h6=>?_)
 ·simp [ht] at h6
  cbv
  refine av trv trv rfl rfl rfl ?_
  (simp [iU, *];done)
 simp [ht] at h6
 cbv
 refine av trv trv rfl rfl rfl ?_
 (simp only [ht,iU];grind)
def cmpL:List Int→List Int→Int
 |x::r,y::s=>if iU x y≠0 then iU x y else cmpL r s
 |_,_=>0
theorem KE (ht:TT t) {l m:List Int} {es fs:List (List D)} (aB:es=l.map Int.cells) (U5:fs=m.map Int.cells) (hlm:l.length=m.length) (hl:l.length<1000000000):
 FC 217 [SL es,SL fs] [] (.ret (gm (t _ fun _=>cmpL l m))) []:=by
 refine bH ht (aF:=[]) Tryz.func217 rfl rfl (N:=36) rfl rfl (n:=0) rfl rfl ?_
 cbv
 have ap:es.length=l.length:=by rw [aB,lgM]
 have gw:fs.length=m.length:=by rw [U5,lgM]
 obtain ⟨J0,dR⟩:∃J0:Nat→Int→Prop,∀n i,J0 n i↔(∃k:Nat,i=k∧k+n=l.length∧l.length=m.length∧cmpL l m=cmpL (l.drop k) (m.drop k)):=⟨fun n v=>match v with|i=>(∃k:Nat,i=k∧k+n=l.length∧l.length=m.length∧cmpL l m=cmpL (l.drop k) (m.drop k)),fun _ _=>Iff.rfl⟩
 refine bF ⟨[0,1,9,10,11],[],[]⟩ (σ:=Int) (fun v=>[(11,.d (.int .i64 (t _ fun _=>v)))]) (fun v=>[]) J0 ?_
 cbv
 refine aD ⟨l.length,_,(dR _ _).2 ?_,by simp only [ht];rfl,?_⟩
 ·exact ⟨0,rfl,by simp,by omega,by simp⟩
 rintro n i hj
 replace hj:=(dR _ _).1 hj
 obtain ⟨k,rfl,j1,j2,j4⟩:=hj
 cbv
 refine an (fun h1=>?_) (fun h1=>?_)
 ·simp [ht,aa,ap] at h1
  cbv
  refine fP ht aB (cT:=Int.aU t) (by (simp only [ht,aa];omega)) (by (simp only [ht,aa];omega)) (fun _=>rfl) (fun _=>rfl) (fun x2 fZ=>?_)
  simp [ht,aa] at fZ
  rw [dU fZ] at j4
  cbv
  refine an (fun h3=>?_) (fun h3=>?_)
  ·simp [ht,aa,gw] at h3
   omega
  simp [ht,aa,gw] at h3
  cbv
  refine fP ht U5 (cT:=Int.aU t) (by (simp only [ht,aa];omega)) (by (simp only [ht,aa];omega)) (fun _=>rfl) (fun _=>rfl) (fun x4 Dx=>?_)
  simp [ht,aa] at Dx
  rw [dU Dx] at j4
  cbv
  refine aM trv (Rh ht _ _) trv rfl rfl (fun r5 pH=>?_)
  simp only [ht] at pH
  cbv
  refine an (fun h6=>?_) (fun h6=>?_)
  ·simp [ht] at h6
   cbv
   refine av trv trv rfl rfl rfl ?_
   (simp only [ht];rw [j4,cmpL,←pH,if_pos ‹_›];done)
  simp [ht] at h6
  cbv
  refine bQ _ (by simp only [ht];rfl) (n-1) ?_ ((dR _ _).2 ?_)
  ·omega
  simp only [aa]
  exact ⟨k+1,aC (by omega),by omega,by omega,by rw [j4,cmpL,←pH,if_neg (by omega)]⟩
 simp [ht,aa,ap] at h1
 cbv
 refine an (fun h7=>?_) (fun h7=>?_)
 ·simp [ht,aa,ap,gw] at h7
  omega
 simp [ht,aa,ap,gw] at h7
 cbv
 refine av trv trv rfl rfl rfl ?_
 (simp [ht,j4,List.drop_eq_nil_of_le (show l.length≤k by omega),cmpL];done)
theorem Ri (a0 a1 a2 a3 b0 b1 b2 b3:Int):cmpL [a0,a1,a2,a3] [b0,b1,b2,b3]=qZ ⟨a0,a1,a2,a3⟩ ⟨b0,b1,b2,b3⟩:=by
 simp only [cmpL,qZ]
 by_cases h0:iU a0 b0=0<;>by_cases h1:iU a1 b1=0<;>by_cases h2:iU a2 b2=0<;>by_cases h3:iU a3 b3=0<;>simp [h0,h1,h2,h3]
theorem NY (ht:TT t) (a0 a1 a2 a3 b0 b1 b2 b3:Int):FC 193 [V4 a0 a1 a2 a3,V4 b0 b1 b2 b3] [] (.ret (gm (t _ fun _=>qZ ⟨a0,a1,a2,a3⟩ ⟨b0,b1,b2,b3⟩))) []:=by
 obtain ⟨o,ho⟩:∃o,o=qZ ⟨a0,a1,a2,a3⟩ ⟨b0,b1,b2,b3⟩:=⟨_,rfl⟩
 rw [←ho]
 refine bH ht (aF:=[]) Tryz.func193 rfl rfl (N:=8) rfl rfl (n:=0) rfl rfl ?_
 cbv
 (apply LM [] (.more 0 (.one 1 (.one 2 (.one 3 .done))) (.one 1 (.one 0 (.one 2 (.one 3 .done)))));kernel_rfl;kernel_rfl;kernel_rfl;kernel_rfl;(next=>cbv;repeat (first|(refine aE trv (KE ht (l:=[a0,a1,a2,a3]) (m:=[b0,b1,b2,b3]) rfl rfl rfl (by simp)) trv rfl rfl rfl (fun r0 cN=>?_);simp only [ht,Ri,←ho] at cN;subst r0;cbv)|refine And.intro ?_ ?_)))
 cbv
 refine av trv trv rfl rfl rfl ?_
 (simp [ht];done)
theorem BC (ht:TT t) {l:List bS} {es:List (List D)} (aB:es=l.map bS.cells) (hl:l.length<1000000) (hlb:∀s∈l,s.labels.length<1000000000) {x:List Term} {xr:List (List D)} (EW:xr=x.map Term.cells) (hx:x.length<1000000000) (Fh:∀m∈x,m.mI.length<1000000000)
 {m c k:Nat} (hm:m=l.length) (hc:m≤c) {r:List (List D)} (hr:r=(fitting l x).map bS.cells) (hk:k=r.length) {rz:List (List D)} (HU:rz=r++List.replicate (m-k) [.str [],.int .u64 0,.int .u64 0,.int .u64 0,.int .u64 0,.sl []]):
 FC 190 [.vw 0 6 0 m c true,.fn 192 [.ep [.sl xr]]] [.row 6 es] (.ret (.vw 0 6 0 k c true)) [.row 6 rz]:=
 KB ht xr aB hm hc 192 (fun s=>!ny x s.labels) (by omega) (fun s hs=>KD ht _ _ _ _ _ rfl (hlb s hs) EW hx Fh rfl) (by rw [hr,fitting];simp) hk HU
theorem TP {r z:List (List D)} {k:Nat} (hk:k=r.length):r=(r++z).take k:=by rw [hk,List.take_left]
theorem KF (ht:TT t) {l:List bS} {es:List (List D)} (aB:es=l.map bS.cells) (hl:l.length<1000000) (hlb:∀s∈l,s.labels.length<1000000000) {x:List Term} {xr:List (List D)} (EW:xr=x.map Term.cells) (hx:x.length<1000000000) (Fh:∀m∈x,m.mI.length<1000000000)
 (h0:fitting l x=[]):FC 148 [SL es,SL xr] [] (.ret (SL [])) []:=by
 obtain ⟨m,hm⟩:∃m,m=l.length:=⟨_,rfl⟩
 have hel:m=es.length:=by rw [aB,lgM,hm]
 have hrows:∀r∈es,r.length=6:=by rw [aB];intro r hr;obtain ⟨y,_,rfl⟩:=List.mem_map.1 hr;rfl
 have hD:FC 190 [.ow 1 6 m,.fn 192 [.ptr 0 0]] [.var [SL xr],.row 6 es] (.ret (SL [])) [.dead,.dead]:=
  pM rfl rfl rfl<|de [1] rfl rfl rfl rfl<|dX fun c hc _=>BB rfl (by simp) (by simp) rfl (BC ht aB hl hlb EW hx Fh hm hc (r:=[]) (by rw [h0];rfl) (k:=0) rfl rfl)
 refine bH ht (aF:=[]) Tryz.func148 rfl rfl (N:=9) rfl rfl (n:=0) rfl rfl ?_
 cbv
 refine jV trv (yH ht hrows (by omega) hel) trv rfl (.inr rfl) ?_
 cbv
 refine dw trv hD ?_
 cbv
 refine av trv trv rfl rfl rfl ?_
 simp
theorem NZ (ht:TT t) {l:List bS} {es:List (List D)} (aB:es=l.map bS.cells) (hl:l.length<1000000) (hlb:∀s∈l,s.labels.length<1000000000) {x:List Term} {xr:List (List D)} (EW:xr=x.map Term.cells) (hx:x.length<1000000000) (Fh:∀m∈x,m.mI.length<1000000000)
 {r:List (List D)} (hr:r=(fitting l x).map bS.cells) {k:Nat} (hk:k=r.length) (h0:0<k):FC 148 [SL es,SL xr] [] (.ret (.ow 0 6 k)) [.row 6 r]:=by
 obtain ⟨m,hm⟩:∃m,m=l.length:=⟨_,rfl⟩
 have hel:m=es.length:=by rw [aB,lgM,hm]
 have hrows:∀r∈es,r.length=6:=by rw [aB];intro r hr;obtain ⟨y,_,rfl⟩:=List.mem_map.1 hr;rfl
 obtain ⟨rz,HU⟩:∃rz,rz=r++List.replicate (m-k) [.str [],.int .u64 0,.int .u64 0,.int .u64 0,.int .u64 0,.sl []]:=⟨_,rfl⟩
 have hD:FC 190 [.ow 1 6 m,.fn 192 [.ptr 0 0]] [.var [SL xr],.row 6 es] (.ret (.ow 1 6 k)) [.dead,.row 6 r]:=
  pM rfl rfl rfl<|de [1] rfl rfl rfl rfl<|dX fun c hc _=>BA h0 rfl (by rw [HU,hk];simp) (by rw [HU];exact TP hk) rfl (BC ht aB hl hlb EW hx Fh hm hc hr hk HU)
 refine bH ht (aF:=[]) Tryz.func148 rfl rfl (N:=9) rfl rfl (n:=0) rfl rfl ?_
 cbv
 refine jV trv (yH ht hrows (by omega) hel) trv rfl (.inr rfl) ?_
 cbv
 refine dw trv hD ?_
 cbv
 exact Cp trv rfl rfl rfl rfl rfl rfl
theorem Mh {x:bS} {v:bK} {B C:Eu} {r:bK×Bool} {o:Int} (er:r=dY x.free v) (eo:o=qZ r.1 B.left) (h:r.2=true→B.ok=true∧0≤o):
 (if (dY x.free v).2&&(!B.ok||decide (qZ (dY x.free v).1 B.left<0)) then C else B)=B:=by
 rw [←er,←eo,if_neg]
 intro g
 simp only [Bool.and_eq_true,Bool.or_eq_true,Bool.not_eq_true',decide_eq_true_eq] at g
 obtain ⟨g1,g2⟩:=g
 obtain ⟨g3,g4⟩:=h g1
 rcases g2 with g2|g2
 ·rw [g3] at g2;cases g2
 omega
def YO (r:Eu):AV:=.eE [bI r.at_,V4 r.left.a r.left.b r.left.c r.left.d,BL r.ok]
theorem Mi (ht:TT t) (d1 d2 d3 d4:Int) {l:List bS} {es:List (List D)} (aB:es=l.map bS.cells) (hl:l.length<1000000):
 FC 149 [SL es,V4 d1 d2 d3 d4] [] (.ret (YO (t _ fun _=>best l ⟨d1,d2,d3,d4⟩))) []:=by
 refine bH ht (aF:=[]) Tryz.func149 rfl rfl (N:=42) rfl rfl (n:=0) rfl rfl ?_
 cbv
 have ap:es.length=l.length:=by rw [aB,lgM]
 obtain ⟨J0,dR⟩:∃J0:Nat→Int×Bool×Int×Int×Int×Int×Int→Prop,∀n A K i a b c d,J0 n (A,K,i,a,b,c,d)↔(∃(k:Nat) (B:Eu),i=k∧k+n=l.length∧A=B.at_∧K=B.ok∧a=B.left.a∧b=B.left.b∧c=B.left.c∧d=B.left.d∧best l ⟨d1,d2,d3,d4⟩=mo ⟨d1,d2,d3,d4⟩ (l.drop k) k B):=⟨fun n v=>match v with|(A,K,i,a,b,c,d)=>(∃(k:Nat) (B:Eu),i=k∧k+n=l.length∧A=B.at_∧K=B.ok∧a=B.left.a∧b=B.left.b∧c=B.left.c∧d=B.left.d∧best l ⟨d1,d2,d3,d4⟩=mo ⟨d1,d2,d3,d4⟩ (l.drop k) k B),fun _ _ _ _ _ _ _ _=>Iff.rfl⟩
 refine bF ⟨[0,3,4,5,6,11,12],[],[]⟩ (σ:=Int×Bool×Int×Int×Int×Int×Int) (fun v=>[(4,.d (.int .i64 (t _ fun _=>v.1))),(6,.d (.bool (t _ fun _=>v.2.1))),(12,.d (.int .i64 (t _ fun _=>v.2.2.1)))]) (fun v=>[(1,.var [.d (.int .u64 (t _ fun _=>v.2.2.2.1)),.d (.int .u64 (t _ fun _=>v.2.2.2.2.1)),.d (.int .u64 (t _ fun _=>v.2.2.2.2.2.1)),.d (.int .u64 (t _ fun _=>v.2.2.2.2.2.2))])]) J0 ?_
 cbv
 refine aD ⟨l.length,(_,_,_,_,_,_,_),(dR _ _ _ _ _ _ _ _).2 ?_,by simp only [ht];rfl,?_⟩
 ·exact ⟨0,⟨0,bK.zero,false⟩,rfl,by simp,rfl,rfl,rfl,rfl,rfl,rfl,rfl⟩
 rintro n ⟨A,K,i,a,b,c,d⟩ hj
 replace hj:=(dR _ _ _ _ _ _ _ _).1 hj
 obtain ⟨k,⟨q1,⟨q2,q3,q4,q5⟩,q6⟩,rfl,j1,rfl,rfl,rfl,rfl,rfl,rfl,j4⟩:=hj
 cbv
 refine an (fun h1=>?_) (fun h1=>?_)
 ·simp [ht,aa,ap] at h1
  cbv
  refine pZ [0,1] [0,1,7,8,9] [false,false,false,false,false,false,false,false,false,false,false,true,true] (by kernel_rfl) (by kernel_rfl) (by kernel_rfl) (by kernel_rfl) (by kernel_rfl) (by kernel_rfl) ?_
  cbv
  iterate 2 refine gI (by simp) ?_
  refine fP ht aB (cT:=bS.aU t) (by (simp only [ht,aa];omega)) (by (simp only [ht,aa];omega)) (fun _=>rfl) (fun _=>(by (simp only [ht,bS.aU];rfl))) (fun x2 fZ=>?_)
  simp [ht,aa] at fZ
  rw [dU fZ,mo] at j4
  cbv
  iterate 3 refine gI (by simp) ?_
  refine .inl ?_
  refine bJ (fun g3=>⟨trv,trv,TJ ht _ _ _ _ _ _ _ _⟩) rfl rfl (fun r4 iA=>?_)
  simp only [ht] at iA
  cbv
  iterate 6 refine gI (by simp) ?_
  iterate 2 refine gI (by simp [ht]) ?_
  refine bJ (fun g5=>⟨by simp [ht] at g5 ⊢;exact g5,trv,NY ht _ _ _ _ _ _ _ _⟩) rfl rfl (fun r6 lF=>?_)
  simp only [ht] at lF
  cbv
  refine gI (by simp [ht]) ?_
  refine gI (by simp [ht,ah];intros;simp_all) ?_
  refine pI (by simp) ?_
  refine an (fun h7=>?_) (fun h7=>?_)
  ·simp [ht] at h7
   cbv
   refine cO [false,false,false,true,true] (by kernel_rfl) (by kernel_rfl) ?_
   cbv
   iterate 3 refine gI (by simp) ?_
   refine bQ (_,_,_,_,_,_,_) (by simp only [ht];rfl) (n-1) ?_ ((dR _ _ _ _ _ _ _ _).2 ?_)
   ·omega
   simp only [aa]
   first|exact ⟨k+1,⟨k,_,true⟩,aC (by omega),by omega,rfl,rfl,rfl,rfl,rfl,rfl,by rw [j4];congr 1;simp_all⟩|exact ⟨k+1,⟨q1,⟨a,b,c,d⟩,K⟩,aC (by ((try simp only [aa] at*);omega)),by ((try simp only [aa] at*);omega),rfl,rfl,rfl,rfl,rfl,rfl,by rw [j4,Mh (B:=⟨q1,⟨a,b,c,d⟩,K⟩) iA lF h7]⟩
  simp [ht] at h7
  cbv
  refine bQ (_,_,_,_,_,_,_) (by simp only [ht];rfl) (n-1) ?_ ((dR _ _ _ _ _ _ _ _).2 ?_)
  ·omega
  simp only [aa]
  first|exact ⟨k+1,⟨k,_,true⟩,aC (by omega),by omega,rfl,rfl,rfl,rfl,rfl,rfl,by rw [j4];congr 1;simp_all⟩|exact ⟨k+1,⟨q1,⟨a,b,c,d⟩,K⟩,aC (by omega),by omega,rfl,rfl,rfl,rfl,rfl,rfl,by rw [j4,Mh (B:=⟨q1,⟨a,b,c,d⟩,K⟩) iA lF h7]⟩
 simp [ht,aa,ap] at h1
 cbv
 refine Gw [0,2] [false,false,false,false,true,true] (by kernel_rfl) (by kernel_rfl) (by kernel_rfl) (by kernel_rfl) (by kernel_rfl) ?_
 cbv
 iterate 4 refine gI (by simp) ?_
 refine av trv trv rfl rfl rfl ?_
 (rw [List.drop_eq_nil_of_le (by omega),mo] at j4;simp only [ht,j4];rfl)
theorem HV {v:bK} {n:Nat} {l:List bS} {out:List aH} (h:0<n):nW v n l out=if !(best l v).ok then ([],false) else
 nW v (n-1) (l.set (best l v).at_ {l.getD (best l v).at_ default with free:=(best l v).left}) (out++[(l.getD (best l v).at_ default).node]):=by
 obtain ⟨n',rfl⟩:∃n',n=n'+1:=⟨n-1,by omega⟩
 rfl
theorem HW {v:bK}:∀(l:List bS) (k:Nat) (b:Eu),(b.ok=true→b.at_<k)→(mo v l k b).ok=true→(mo v l k b).at_<k+l.length
 |[],k,b,h,g=>h g
 |s::r,k,b,h,g=>by
  rw [mo] at g ⊢
  have:=HW r (k+1) _ (by
   intro g2
   split
   ·show k<k+1;omega
   rename_i hh;rw [if_neg hh] at g2;have:=h g2;omega) g
  simp only [List.length_cons];omega
theorem TQ {v:bK} {l:List bS} (h:(best l v).ok=true):(best l v).at_<l.length:=by
 have:=HW l 0 _ (by simp) h
 simpa [best] using this
theorem Mj {l:List bS} {x:List Term} {v:bK} {c:Int} (h:8<c):fit l x v c=([],false):=by rw [fit,if_pos h]
theorem EY {l L:List bS} {x:List Term} {v:bK} {c:Int} {m:Nat} (h:c≤8) (hm:(m:Int)=max c 0) (hL:L=fitting l x):fit l x v c=nW v m L []:=by
 rw [fit,if_neg (by omega),hL];congr 1;omega
theorem Rj {cur:List bS} {y:bS} {i:Nat} {u:List (List D)} (ju:u=cur.map bS.cells) (hy:cur[i]?=some y) (v:bK):
 u.set i (bw (u.getD i []) 1 [.int .u64 v.a,.int .u64 v.b,.int .u64 v.c,.int .u64 v.d])=(cur.set i {y with free:=v}).map bS.cells:=by
 rw [List.map_set,ju];congr 1
 simp [List.getD_eq_getElem?_getD,hy,bS.cells,bw]
def ou (t:Th) (r:List aH×Bool):AV:=.eE [SL (t _ fun _=>r.1.map bu),BL r.2]
theorem TR (ht:TT t) (d1 d2 d3 d4 c:Int) {l:List bS} {es:List (List D)} (aB:es=l.map bS.cells) (hl:l.length<1000000) (hlb:∀s∈l,s.labels.length<1000000000) {x:List Term} {xr:List (List D)} (EW:xr=x.map Term.cells) (hx:x.length<1000000000) (Fh:∀m∈x,m.mI.length<1000000000)
 (h0:fitting l x≠[]):FC 95 [SL es,SL xr,V4 d1 d2 d3 d4,bI c] [] (.ret (ou t (t _ fun _=>fit l x ⟨d1,d2,d3,d4⟩ c))) []:=by
 obtain ⟨L,hL⟩:∃L,L=fitting l x:=⟨_,rfl⟩
 have IT:L.length<1000000:=by rw [hL];exact Nat.lt_of_le_of_lt (List.length_filter_le _ _) hl
 obtain ⟨r,hr⟩:∃r,r=L.map bS.cells:=⟨_,rfl⟩
 obtain ⟨k,hk⟩:∃k,k=r.length:=⟨_,rfl⟩
 have hkL:k=L.length:=by rw [hk,hr,lgM]
 have hk0:0<k:=by rw [hkL,hL];exact List.length_pos_iff.2 h0
 obtain ⟨m,hm⟩:∃m:Nat,(m:Int)=max c 0:=⟨(max c 0).toNat,by omega⟩
 refine bH ht (aF:=[]) Tryz.func95 rfl rfl (N:=47) rfl rfl (n:=0) rfl rfl ?_
 cbv
 have ap:es.length=l.length:=by rw [aB,lgM]
 have KA:xr.length=x.length:=by rw [EW,lgM]
 have HX:r.length=L.length:=by rw [hr,lgM]
 refine an (fun h0=>?_) (fun h0=>?_)
 ·simp [ht] at h0
  cbv
  refine av trv trv rfl rfl rfl ?_
  (simp only [ht];rw [Mj ‹_›];rfl)
 simp [ht] at h0
 cbv
 (refine jV trv (NZ ht aB hl hlb EW hx Fh (hL▸hr) hk hk0) trv rfl (.inr rfl) ?_)
 cbv
 obtain ⟨J1,m8⟩:∃J1:Nat→List (List D)×Int×List (List D)→Prop,∀n o i u,J1 n (o,i,u)↔(∃(q:Nat) (cur:List bS) (out:List aH),i=q∧q+n=m∧u=cur.map bS.cells∧o=out.map bu∧cur.length=k∧out.length=q∧nW ⟨d1,d2,d3,d4⟩ m L []=nW ⟨d1,d2,d3,d4⟩ n cur out):=⟨fun n v=>match v with|(o,i,u)=>(∃(q:Nat) (cur:List bS) (out:List aH),i=q∧q+n=m∧u=cur.map bS.cells∧o=out.map bu∧cur.length=k∧out.length=q∧nW ⟨d1,d2,d3,d4⟩ m L []=nW ⟨d1,d2,d3,d4⟩ n cur out),fun _ _ _ _=>Iff.rfl⟩
 refine bF ⟨[0,6,10,20,21],[(10,1)],[]⟩ (σ:=List (List D)×Int×List (List D)) (fun v=>[(10,.ow 2 1 (t _ fun _=>(v.1).length)),(21,.d (.int .i64 (t _ fun _=>v.2.1)))]) (fun v=>[(2,.row 1 (t _ fun _=>v.1)),(0,.row 6 (t _ fun _=>v.2.2))]) J1 ?_
 cbv
 refine aD ⟨m,([],_,_),(m8 _ _ _ _).2 ?_,by simp only [ht];rfl,?_⟩
 ·exact ⟨0,L,[],rfl,by simp,hr,rfl,hkL.symm,rfl,rfl⟩
 rintro n ⟨o,i,u⟩ hj
 replace hj:=(m8 _ _ _ _).1 hj
 obtain ⟨q,cur,out,rfl,j1,ju,jo,j2,j3,j4⟩:=hj
 have vH:u.length=cur.length:=by rw [ju,lgM]
 have YE:o.length=out.length:=by rw [jo,lgM]
 cbv
 refine an (fun h2=>?_) (fun h2=>?_)
 ·simp [ht,aa] at h2
  cbv
  (refine aM trv (Mi ht _ _ _ _ (l:=cur) (by simp only [ht];exact ju) (by omega)) (by simp only [ht];exact ⟨by rw [ju,lgM];exact j2.symm,trv⟩) rfl rfl (fun rb U6=>?_);simp only [ht] at U6;rw [HV (show 0<n by ((try simp only [aa] at*);omega)),←U6] at j4;have hlt:rb.ok=true→rb.at_<cur.length:=fun g=>by rw [U6] at g ⊢;exact TQ g)
  cbv
  refine an (fun h3=>?_) (fun h3=>?_)
  ·simp [ht] at h3
   cbv
   refine av trv trv rfl rfl rfl ?_
   (simp only [ht];rw [EY ‹_› hm hL,j4,h3];rfl)
  simp [ht] at h3
  cbv
  refine ⟨?_,?_⟩
  ·(simp only [ht];have YP:rb.at_<cur.length:=hlt ‹_›;exact ⟨Int.natCast_nonneg _,by rw [←j2];exact Int.ofNat_lt.2 YP⟩)
  cbv
  (have hl3:=hlt ‹_›;obtain ⟨y,hy⟩:∃y,cur[rb.at_]?=some y:=⟨_,List.getElem?_eq_getElem hl3⟩;have hyd:cur.getD rb.at_ default=y:=(by simp [List.getD_eq_getElem?_getD,hy]);rw [hyd] at j4;refine S5 (bS.aU t y) (by simp only [ht];rw [ju,lgM];exact hl3) (by simp only [ht];rw [ju];simp [List.getD_eq_getElem?_getD,hy,bS.cells,bS.aU,ht]) ?_)
  cbv
  refine ⟨?_,?_⟩
  ·(simp only [ht];grind)
  refine ⟨?_,?_⟩
  ·(simp only [ht];have YP:rb.at_<cur.length:=hlt ‹_›;exact ⟨Int.natCast_nonneg _,by rw [←j2];exact Int.ofNat_lt.2 YP⟩)
  refine ⟨?_,?_⟩
  ·(simp only [ht];rw [ju,lgM];refine ⟨hl3,?_⟩;simp [List.getD_eq_getElem?_getD,hy,bS.cells];done)
  cbv
  refine bQ (_,_,_) (by simp only [ht,←List.length_append];rfl) (n-1) ?_ ((m8 _ _ _ _).2 ?_)
  ·((try simp only [aa] at*);omega)
  simp only [aa]
  (exact ⟨q+1,cur.set rb.at_ {y with free:=rb.left},out++[y.node],aC (by ((try simp only [aa] at*);omega)),by ((try simp only [aa] at*);omega),Rj ju hy _,by simp [jo],by simp [j2],by simp [j3],by rw [j4,h3];rfl⟩)
 simp [ht,aa] at h2
 cbv
 refine av trv (by simp [ht]) rfl rfl rfl ?_
 (simp only [ht];rw [EY ‹_› hm hL,j4,show n=0 by ((try simp only [aa] at*);omega)];simp [nW,jo];done)
theorem TS (ht:TT t) (d1 d2 d3 d4 c:Int) {l:List bS} {es:List (List D)} (aB:es=l.map bS.cells) (hl:l.length<1000000) (hlb:∀s∈l,s.labels.length<1000000000) {x:List Term} {xr:List (List D)} (EW:xr=x.map Term.cells) (hx:x.length<1000000000) (Fh:∀m∈x,m.mI.length<1000000000)
 (h9:fitting l x=[]):FC 95 [SL es,SL xr,V4 d1 d2 d3 d4,bI c] [] (.ret (ou t (t _ fun _=>fit l x ⟨d1,d2,d3,d4⟩ c))) []:=by
 obtain ⟨m,hm⟩:∃m:Nat,(m:Int)=max c 0:=⟨(max c 0).toNat,by omega⟩
 refine bH ht (aF:=[]) Tryz.func95 rfl rfl (N:=47) rfl rfl (n:=0) rfl rfl ?_
 cbv
 have ap:es.length=l.length:=by rw [aB,lgM]
 have KA:xr.length=x.length:=by rw [EW,lgM]
 refine an (fun h0=>?_) (fun h0=>?_)
 ·simp [ht] at h0
  cbv
  refine av trv trv rfl rfl rfl ?_
  (simp only [ht];rw [Mj ‹_›];rfl)
 simp [ht] at h0
 cbv
 (refine GL trv (KF ht aB hl hlb EW hx Fh h9) trv rfl rfl rfl ?_)
 cbv
 obtain ⟨J1,m8⟩:∃J1:Nat→List (List D)×Int→Prop,∀n o i,J1 n (o,i)↔(i=0∧n=m∧o=[]):=⟨fun n v=>match v with|(o,i)=>(i=0∧n=m∧o=[]),fun _ _ _=>Iff.rfl⟩
 refine bF ⟨[0,6,10,20,21],[(10,1)],[]⟩ (σ:=List (List D)×Int) (fun v=>[(10,.ow 1 1 (t _ fun _=>(v.1).length)),(21,.d (.int .i64 (t _ fun _=>v.2)))]) (fun v=>[(1,.row 1 (t _ fun _=>v.1))]) J1 ?_
 cbv
 refine aD ⟨m,([],_),(m8 _ _ _).2 ?_,by simp only [ht];rfl,?_⟩
 ·exact ⟨rfl,rfl,rfl⟩
 rintro n ⟨o,i⟩ hj
 replace hj:=(m8 _ _ _).1 hj
 obtain ⟨rfl,j1,rfl⟩:=hj
 cbv
 refine an (fun h2=>?_) (fun h2=>?_)
 ·simp [ht] at h2
  cbv
  (refine aM trv (Mi ht _ _ _ _ (l:=[]) rfl (by simp)) (by simp) rfl rfl (fun rb U6=>?_);simp only [ht] at U6;replace U6:rb=⟨0,bK.zero,false⟩:=U6;subst U6)
  cbv
  refine an (fun h3=>?_) (fun h3=>?_)
  ·simp [ht] at h3
   cbv
   refine av trv trv rfl rfl rfl ?_
   (simp only [ht];rw [EY ‹_› hm h9.symm,HV (show 0<m by ((try simp only [aa] at*);omega))];rfl)
  simp [ht] at h3
 simp [ht] at h2
 cbv
 refine av trv (by simp [ht]) rfl rfl rfl ?_
 (simp only [ht];rw [EY ‹_› hm h9.symm,show m=0 by ((try simp only [aa] at*);omega)];rfl)
theorem BD (ht:TT t) (d1 d2 d3 d4 c:Int) {l:List bS} {es:List (List D)} (aB:es=l.map bS.cells) (hl:l.length<1000000) (hlb:∀s∈l,s.labels.length<1000000000) {x:List Term} {xr:List (List D)} (EW:xr=x.map Term.cells) (hx:x.length<1000000000) (Fh:∀m∈x,m.mI.length<1000000000):
 FC 95 [SL es,SL xr,V4 d1 d2 d3 d4,bI c] [] (.ret (ou t (t _ fun _=>fit l x ⟨d1,d2,d3,d4⟩ c))) []:=by
 by_cases h9:fitting l x=[]
 ·exact TS ht d1 d2 d3 d4 c aB hl hlb EW hx Fh h9
 exact TR ht d1 d2 d3 d4 c aB hl hlb EW hx Fh h9
theorem Mk (ht:TT t) (bA:Int) {l:List Node} {ps:List Place} {es qs:List (List D)} (aB:es=l.map Node.cells) (dV:qs=ps.map Place.cells) (hl:ps.length<1000000):
 FC 108 [.agg [SL es,SL qs],aA bA] [] (.ret (qX t (t _ fun _=>rj ⟨l,ps⟩ bA))) []:=by
 simp only [ht,qX,rj];rw [←aB];exact Ke ht bA dV hl rfl
theorem Ml (ht:TT t) (rd nx ef af:Int) {nl:List Node} {pl:List Place} {tl:List be} {jl:List Jb} {ql:List bZ} {el al:List dQ} {ns ps ts js qs es bV:List (List D)} (eV:ns=nl.map Node.cells) (hps:ps=pl.map Place.cells) (hts:ts=tl.map be.cells) (ek:js=jl.map Jb.cells) (dV:qs=ql.map bZ.cells) (aB:es=el.map dQ.cells) (has:bV=al.map dQ.cells) (ji ja jb jc jd jn jp jt jf:Int) (jq:aH) (jr:Bool) {mF:List Term} {BE:List (List D)} (vM:BE=mF.map Term.cells) {z:Int} {k:Nat} (hz:z=k) (hk:k<jl.length) (hjl:jl.length<1000000):
 FC 79 [.agg [aA rd,aA nx,SL ns,SL ps,SL ts,SL js,SL qs,aA ef,SL es,aA af,SL bV],bI z,.agg [aA ji,ST jq,aA ja,aA jb,aA jc,aA jd,bI jn,bI jp,bI jt,SL BE,BL jr,bI jf]] [] (.ret (dM t (t _ fun _=>Dg ⟨rd,nx,⟨nl,pl⟩,tl,jl,ql,⟨ef,el⟩,⟨af,al⟩⟩ k ⟨ji,⟨jq,⟨ja,jb,jc,jd⟩,jn,jp,jt,mF⟩,jr,jf⟩))) []:=by
 refine bH ht (aF:=[]) Tryz.func79 rfl rfl (N:=17) rfl rfl (n:=0) rfl rfl ?_
 cbv
 have aX:ns.length=nl.length:=by rw [eV,lgM]
 have aZ:ps.length=pl.length:=by rw [hps,lgM]
 have bc:ts.length=tl.length:=by rw [hts,lgM]
 have aQ:js.length=jl.length:=by rw [ek,lgM]
 have aI:qs.length=ql.length:=by rw [dV,lgM]
 have ap:es.length=el.length:=by rw [aB,lgM]
 have aG:bV.length=al.length:=by rw [has,lgM]
 have zB:BE.length=mF.length:=by rw [vM,lgM]
 refine jV trv (rC ht ‹_› ‹_›) trv rfl (.inr rfl) ?_
 cbv
 refine ⟨?_,?_⟩
 ·(simp [*];done)
 refine ⟨?_,?_⟩
 ·(simp [Jb.cells, *];done)
 cbv
 refine av trv (by simp [ht]) rfl rfl rfl ?_
 (simp [Dg,Jb.cells,List.map_set,bw, *];done)
theorem HY (ht:TT t) (rd nx ef af:Int) {nl:List Node} {pl:List Place} {tl:List be} {jl:List Jb} {ql:List bZ} {el al:List dQ} {ns ps ts js qs es bV:List (List D)} (eV:ns=nl.map Node.cells) (hps:ps=pl.map Place.cells) (hts:ts=tl.map be.cells) (ek:js=jl.map Jb.cells) (dV:qs=ql.map bZ.cells) (aB:es=el.map dQ.cells) (has:bV=al.map dQ.cells) (ji ja jb jc jd jn jp jt jf:Int) (jq:aH) (jr:Bool) {mF:List Term} {BE:List (List D)} (vM:BE=mF.map Term.cells) (hu:(⟨ja,jb,jc,jd⟩:bK).u') (hjq:jq.length<1000000000000) (htl:tl.length<100000) (Ed:pl.length<1000000):
 FC 62 [.agg [aA rd,aA nx,SL ns,SL ps,SL ts,SL js,SL qs,aA ef,SL es,aA af,SL bV],.agg [aA ji,ST jq,aA ja,aA jb,aA jc,aA jd,bI jn,bI jp,bI jt,SL BE,BL jr,bI jf]] [] (.ret (dM t (t _ fun _=>mY ⟨rd,nx,⟨nl,pl⟩,tl,jl,ql,⟨ef,el⟩,⟨af,al⟩⟩ ⟨ji,⟨jq,⟨ja,jb,jc,jd⟩,jn,jp,jt,mF⟩,jr,jf⟩))) []:=by
 obtain ⟨⟨⟨v1,v2,v3,v4⟩,vk⟩,hv⟩:∃r,r=cU ⟨jq,⟨ja,jb,jc,jd⟩,jn,jp,jt,mF⟩:=⟨_,rfl⟩
 obtain ⟨⟨t9,e9⟩,h9⟩:∃r,r=sx tl jq ⟨v1,v2,v3,v4⟩:=⟨_,rfl⟩
 have hF:mY ⟨rd,nx,⟨nl,pl⟩,tl,jl,ql,⟨ef,el⟩,⟨af,al⟩⟩ ⟨ji,⟨jq,⟨ja,jb,jc,jd⟩,jn,jp,jt,mF⟩,jr,jf⟩=⟨rd,nx,rj ⟨nl,pl⟩ ji,(if vk then t9 else tl),jl,ql,⟨ef,el⟩,⟨af,al⟩⟩:=by
  simp only [mY,←hv,←h9]
 rw [hF]
 refine bH ht (aF:=[]) Tryz.func62 rfl rfl (N:=32) rfl rfl (n:=0) rfl rfl ?_
 cbv
 have aX:ns.length=nl.length:=by rw [eV,lgM]
 have aZ:ps.length=pl.length:=by rw [hps,lgM]
 have bc:ts.length=tl.length:=by rw [hts,lgM]
 have aQ:js.length=jl.length:=by rw [ek,lgM]
 have aI:qs.length=ql.length:=by rw [dV,lgM]
 have ap:es.length=el.length:=by rw [aB,lgM]
 have aG:bV.length=al.length:=by rw [has,lgM]
 have zB:BE.length=mF.length:=by rw [vM,lgM]
 (refine aM trv (oo ht jq ja jb jc jd jn jp jt (sl:=mF) BE hu) trv rfl rfl (fun r9 gK=>?_);simp only [ht] at gK;rw [←hv] at gK;subst gK)
 cbv
 refine an (fun h0=>?_) (fun h0=>?_)
 ·cbv
  refine aE trv (Kn ht _ _ _ _ _ ‹_› ‹_› ‹_›) trv rfl rfl rfl (fun r1 dL=>?_)
  simp only [ht] at dL
  rw [←h9] at dL
  subst r1
  cbv
  refine aE trv (Mk ht _ ‹_› ‹_› ‹_›) trv rfl rfl rfl (fun r2 fQ=>?_)
  simp only [ht] at fQ
  cbv
  refine av trv trv rfl rfl rfl ?_
  (subst fQ;simp [*];done)
 cbv
 refine aE trv (Mk ht _ ‹_› ‹_› ‹_›) trv rfl rfl rfl (fun r3 iV=>?_)
 simp only [ht] at iV
 cbv
 refine av trv trv rfl rfl rfl ?_
 (simp [*];done)
theorem EZ (ht:TT t) {es:List (List D)} {i m c:Nat} (hm:m=es.length) (hi:i<m) (hc:m≤c) (aB:∀r∈es,r.length=12) (hs:m<1000000) {r:List (List D)} (hr:r=es.take i++es.drop (i+1)):
 FC 64 [.vw 0 12 0 m c true,bI (i:Int),bI ((i+1:Nat):Int)] [.row 12 es] (.ret (SL r)) [.dead]:=by
 obtain ⟨i1,hi1⟩:∃i1,i1=i+1:=⟨_,rfl⟩
 rw [←hi1] at hr ⊢
 refine bH ht (aF:=[.row 12 es]) Tryz.func64 rfl rfl (N:=33) rfl rfl (n:=1) rfl rfl ?_
 cbv
 obtain ⟨mi,ya⟩:∃n,n=m-i:=⟨_,rfl⟩
 obtain ⟨TU,Wk⟩:∃n,n=m-i1:=⟨_,rfl⟩
 obtain ⟨wO,Ka⟩:∃n,n=c-i1:=⟨_,rfl⟩
 refine bL (.vw 0 12 i 1 mi true) [.row 12 es] ?_ ?_ rfl ?_
 ·simp [ht,aa,bO];omega
 ·simp [ht,aa,aY,ya,hi1]
 cbv
 refine nR (by simp [ht,hi1];omega) ?_
 cbv
 refine cO [false,false,false,false,false,false,true,true] (by kernel_rfl) (by kernel_rfl) ?_
 cbv
 refine gI (by simp) (gI (by simp) ?_)
 refine ie (.vw 0 12 0 i c true) (fun _=>⟨?_,?_⟩) ?_
 ·simp [ht,dO,bO];omega
 ·simp [ht,aY,aT]
 cbv
 refine gI (by simp) (gI (by simp) ?_)
 refine ie (.vw 0 12 i1 TU wO true) (fun _=>⟨?_,?_⟩) ?_
 ·simp [ht,dO,bO];omega
 ·simp [ht,aY,aT,Wk,Ka]
 cbv
 obtain ⟨m1,ZA⟩:∃n,n=m-1:=⟨_,rfl⟩
 obtain ⟨cm1,Wl⟩:∃n,n=c-m1:=⟨_,rfl⟩
 obtain ⟨R1,Rk⟩:∃R,R=wrote es i (es.drop i1):=⟨_,rfl⟩
 have tk:(es.drop i1).take TU=es.drop i1:=List.take_of_length_le (by rw [List.length_drop];omega)
 have dl:(es.drop i1).length=TU:=by rw [List.length_drop];omega
 have wX:R1.length=m:=by rw [Rk];simp [wrote];omega
 have Wm:R1.take m1=r:=by
  rw [Rk,hr]
  unfold wrote
  rw [List.take_append_of_le_length (by simp;omega),List.take_of_length_le (by simp;omega)]
 refine bL (.vw 0 12 0 m1 c true) [.row 12 R1,.bB] ?_ ?_ ?_ ?_
 ·simp only [ht,tk,dl,eO,Nat.zero_add]
  exact ⟨by omega,⟨by omega,fun h=>by rw [h] at hm;simp at hm;omega⟩,by omega,fun r h=>aB r (List.mem_of_mem_drop h)⟩
 ·simp only [ht,tk,dl];rw [show i+TU=m1 by omega]
 ·simp only [ht,tk,Nat.zero_add,Rk]
 cbv
 refine bL (.vw 0 12 m1 1 cm1 true) [.row 12 R1,.bB] ?_ ?_ rfl ?_
 ·simp [ht,aa,dO,bO];omega
 ·simp [ht,aa,aY,aT,Wl];omega
 cbv
 obtain ⟨R2,Rl⟩:∃R,R=wrote R1 m1 (List.replicate 1 [D.int IntKind.u64 0,D.str [],D.int IntKind.u64 0,D.int IntKind.u64 0,D.int IntKind.u64 0,D.int IntKind.u64 0,D.int IntKind.i64 0,D.int IntKind.i64 0,D.int IntKind.i64 0,D.sl [],D.bool false,D.int IntKind.i64 0]):=⟨_,rfl⟩
 have YQ:R2.length=m:=by rw [Rl];simp [wrote,wX];omega
 have Wn:R2.take m1=r:=by
  rw [←Wm,Rl]
  unfold wrote
  rw [List.append_assoc,List.take_append_of_le_length (by simp [wX];omega),List.take_take,Nat.min_self]
 refine bL (.eE []) [.row 12 R2,.bB] ?_ rfl ?_ ?_
 ·simp only [ht,eO];exact ⟨by omega,fun h=>by rw [h] at wX;simp at wX;omega⟩
 ·simp only [ht,Rl]
 cbv
 refine yX [true] trv ?_ rfl rfl rfl ?_
 ·simp only [ht];omega
 simp only [ht,List.drop_zero,Wn]
theorem vN (ht:TT t) {l:List Jb} {i:Nat} {z z1:Int} (hz:z=i) (hz1:z1=(i:Int)+1) (hi:i<l.length) (hs:l.length<1000000):
 FC 64 [.ow 0 12 (t _ fun _=>(l.map Jb.cells).length),bI z,bI z1] [.row 12 (t _ fun _=>l.map Jb.cells)] (.ret (SL (t _ fun _=>(l.eraseIdx i).map Jb.cells))) [.dead]:=by
 simp only [ht]
 have e1:z1=((i+1:Nat):Int):=by omega
 subst hz
 rw [e1]
 refine dX (fun c hc hc0=>EZ ht (es:=l.map Jb.cells) (i:=i) rfl (by simpa using hi) hc ?_ (by simpa using hs) ?_)
 ·intro r hr;obtain ⟨y,_,rfl⟩:=List.mem_map.1 hr;rfl
 rw [List.eraseIdx_eq_take_drop_succ,List.map_append,List.map_take,List.map_drop]
end Dem
end
section
open Go
namespace Dem
section
variable {P:Program} {T:Nat→Option TI} {G:Nat→Option (List D)} {N K:Nat}
theorem rG (hT:kw P T) (hD:qD P T G) {f N:Nat} {fn:Func} {c:Code} {args:List AV} {aF aR:List az} {res:iR} (hf:P.funcs[f]?=some fn) (hb:fn.body=some c)
 (hname:(fn.name== "runtime.NumGoroutine")=false) (hN:fn.ntmps=N) (hlen:Nat.ble args.length N=true) {pre rest:List Code} (hc:flat c=pre++rest) (R:St→Prop)
 (hr:∀(X:Nat→Prop) (β0:Nat→Nat) (w0:World) (β:Nat→Nat) (w:World) (s:St) (a:Act),Ext β0 aF w0 β s.bx w→Fr G N [] β w X s a→R s→
  sN P rest (fW G N [] X β0 aF w0 (qQ t0 T fn.results.toList aF.length res aR)) a w)
 (h:JF t0 (bC P G) T G N aF.length pre (fun e s=>match e with|.normal=>R s|e=>qQ t0 T fn.results.toList aF.length res aR e s) ⟨pV 0 args,aF⟩):bC P G f args aF res aR:=by
 refine uU hT hf hb hname hN hlen fun β w X a hF=>wp_mono (El c ?_) (fun _ _ _ hl=>fW.imp (fun _ _ hq=>LR hq) hl)
 rw [hc]
 refine yg (GS ?_ (oX (X:=X) (β0:=β) (aF:=aF) (w0:=w) hT hD (Nat.le_refl _) pre _ β w _ a (Ext.refl _ _ _) hF h))
 intro e a1 w1 hl
 cases e<;>simp only [fW,Exit.then] at hl ⊢
 ·obtain ⟨β1,s1,z6,IS,hR⟩:=hl
  exact hr X β w β1 w1 s1 a1 z6 IS hR
 all_goals exact hl
structure Wo (n:Nat) (K:Nat→Prop):Prop where
 ok:∀c,n≤c→(n=0→c=0)→K c
def Rm (t:Th) (FC:Nat→List AV→List az→iR→List az→Prop) (T:Nat→Option TI) (G:Nat→Option (List D)) (N K:Nat) (post:List Code) (i:Nat) (Q:Ex→St→Prop) (s:St):Prop:=
 match gr i s.sl with
 |.ow b sz n=>Wo n fun c=>JF t FC T G N K post Q ⟨put i (.vw b sz 0 n c true) s.sl,s.bx⟩
 |_=>False
theorem HZ (hT:kw P T) (hD:qD P T G) {aF:List az} (hK:aF.length≤K) {post:List Code} {i:Nat} {Q:Ex→St→Prop} {X:Nat→Prop} {β0:Nat→Nat} {w0:World} {β:Nat→Nat} {w:World} {s:St} {a:Act} (ex:Ext β0 aF w0 β s.bx w) (hF:Fr G N [] β w X s a)
 (h:Rm t0 (bC P G) T G N K post i Q s):sN P post (fW G N [] X β0 aF w0 Q) a w:=by
 unfold Rm at h
 split at h
 case h_2=>exact h.elim
 rename_i b sz n hi
 obtain ⟨h⟩:=h
 have hx:=hF.zk i
 rw [hi] at hx
 simp only [aj] at hx
 have key:∀c,n≤c→(n=0→c=0)→aj β s.bx w (bt β s.bx w X) (.vw b sz 0 n c true) (a.tmps.getD i undef)→sN P post (fW G N [] X β0 aF w0 Q) a w:=by
  intro c h1 h2 h3
  refine oX hT hD hK post Q β w ⟨put i (.vw b sz 0 n c true) s.sl,s.bx⟩ a ex ⟨hF.cx,hF.defers,hF.size,fun t=>?_⟩ (h c h1 h2)
  rw [oN]
  by_cases ht:t=i
  ·subst ht;rw [if_pos rfl];exact h3
  rw [if_neg ht];exact hF.zk t
 obtain ⟨hb,⟨rfl,base,e⟩|⟨h0,cap,c,e1,f',e,h1,h2,h3⟩⟩:=hx
 ·refine key 0 (Nat.le_refl _) (fun _=>rfl) ?_
  rw [e]
  simp only [aj]
  exact ⟨hb,base,0,#[],0,(0,0),rfl,Nat.le_refl _,Nat.le_refl _,fun _=>rfl,.inl rfl⟩
 refine key cap h1 (fun h=>absurd h h0) ?_
 rw [e]
 simp only [aj]
 exact ⟨hb,_,cap,c,e1,f',rfl,h1,Nat.le_refl _,fun _=>rfl,.inr ⟨by simp,h2,by simpa using h3⟩⟩
end
end Dem
end
section
open Go Dem Go.Proofs
namespace Dem
theorem fcV {t:Th} (ht:TT t) (k i:Nat) {f N:Nat} {fn:Func} {c:Code} {args:List AV} {aF aR:List az} {res:iR} (hf:Tryz.prog.funcs[f]?=some fn) (hb:fn.body=some c)
 (hname:(fn.name== "runtime.NumGoroutine")=false) (hN:fn.ntmps=N) {rs:List ResultVar} (O4:fn.results.toList=rs) {n:Nat} (hn:aF.length=n) (hlen:Nat.ble args.length N=true)
 (h:JF t FC tT gl N n ((flat c).take k) (fun e s=>match e with|.normal=>Rm t FC tT gl N n ((flat c).drop k) i (qQ t tT rs n res aR) s|e=>qQ t tT rs n res aR e s) ⟨pV 0 args,aF⟩):FC f args aF res aR:=by
 subst O4;subst hn
 have e:=ht.eq
 subst e
 exact rG P9 wG hf hb hname hN hlen (List.take_append_drop k (flat c)).symm _ (fun X β0 w0 β w s a ex hF hR=>HZ P9 wG (Nat.le_refl _) ex hF hR) h
end Dem
end
section
open Go Dem Go.Proofs
namespace Dem
variable {t:Th}
theorem N0 {l:List bZ} {es:List (List D)} {i m:Nat} (aB:es=l.map bZ.cells) (hi:i<l.length) (hm:m+1=l.length):
 wrote (wrote (List.replicate m [D.int IntKind.u64 0,D.int IntKind.i64 0]) 0 (es.take i)) i (es.drop (i+1))=(l.eraseIdx i).map bZ.cells:=by
 have hl:es.length=l.length:=by rw [aB,lgM]
 simp only [wrote,List.take_zero,List.nil_append,Nat.zero_add,List.length_take,List.length_drop,List.drop_replicate,List.eraseIdx_eq_take_drop_succ,List.map_append,List.map_take,List.map_drop,←aB]
 have d1:(List.take i es).length=i:=by rw [List.length_take];omega
 have d2:List.drop (i+(es.length-(i+1))) (List.take i es++List.replicate (m-i) [D.int IntKind.u64 0,D.int IntKind.i64 0])=[]:=List.drop_eq_nil_of_le (by rw [List.length_append,d1,List.length_replicate];omega)
 rw [Nat.min_eq_left (by omega),List.take_append_of_le_length (by omega),List.take_take,Nat.min_self,d2,List.append_nil]
theorem H6 (ht:TT t) (id:Int) {l:List bZ} {es:List (List D)} (aB:es=l.map bZ.cells) (hl:l.length<1000000):
 FC 63 [SL es,aA id] [] (.ret (YN t (t _ fun _=>AQ l id))) []:=by
 refine fcV ht 5 7 (aF:=[]) Tryz.func63 rfl rfl (N:=32) rfl rfl (n:=0) rfl rfl ?_
 cbv
 have ap:es.length=l.length:=by rw [aB,lgM]
 refine aM trv (wT ht _ ‹_› (by omega)) trv rfl rfl (fun r0 cN=>?_)
 simp only [ht] at cN
 have ec:=cF cN
 clear cN
 rcases ec with ⟨e1,e2,e3⟩|⟨i,x,hi,hil,e1,e2,e3,e4⟩
 ·cbv
  refine an (fun h1=>?_) (fun h1=>?_)
  ·simp [ht] at h1
   cbv
   refine av trv trv rfl rfl rfl ?_
   (simp [AQ, *];done)
  simp [ht] at h1
  omega
 obtain ⟨m,hm⟩:∃m,m+1=l.length:=⟨l.length-1,by omega⟩
 obtain ⟨i1,hi1⟩:∃n,n=i+1:=⟨_,rfl⟩
 obtain ⟨mi,ya⟩:∃n,n=m-i:=⟨_,rfl⟩
 have tr:=N0 aB hil hm
 rw [←hi1] at tr
 obtain ⟨R1,Rk⟩:∃R,R=wrote (List.replicate m [D.int IntKind.u64 0,D.int IntKind.i64 0]) 0 (es.take i):=⟨_,rfl⟩
 obtain ⟨R2,Rl⟩:∃R,R=wrote R1 i (es.drop i1):=⟨_,rfl⟩
 have hr:∀r∈es,r.length=2:=by rw [aB];intro r hr;obtain ⟨y,_,rfl⟩:=List.mem_map.1 hr;rfl
 have hw:IntKind.i64.wrap ((es.length:Int)-1)=(m:Int):=by rw [wrap64 (by omega) (by omega)];omega
 have hw1:IntKind.i64.wrap (r0+1)=(i1:Int):=by rw [wrap64 (by omega) (by omega)];omega
 have wX:R1.length=m:=by rw [Rk];simp [wrote];omega
 have YQ:R2.length=m:=by rw [Rl];simp [wrote,wX];omega
 rw [←Rk,←Rl] at tr
 cbv
 refine an (fun h2=>?_) (fun h2=>?_)
 ·simp [ht] at h2
  rw [hi] at h2;simp only [aa] at h2;exact absurd h2 (by omega)
 simp [ht] at h2
 cbv
 refine ⟨?_,?_⟩
 ·simp only [aa] at hw;simp only [ht,aa,hw];refine ⟨by omega,trv,?_⟩;simp only [Int.toNat_natCast];omega
 refine ⟨fun c hc hc0=>?_⟩
 cbv
 simp only [aa] at hw hi hw1 tr
 have hcm:m≤c:=by simpa only [ht,aa,hw,Int.toNat_natCast] using hc
 refine ⟨?_,?_⟩
 ·simp only [ht,bO];exact ⟨⟨h2,by omega⟩,hr⟩
 refine bL (bI (i:Int)) [.row 2 R1] ?_ ?_ ?_ ?_
 ·simp only [ht,aa,hw,hi,iB,Int.toNat_natCast,eO,List.length_take,List.length_replicate]
  refine ⟨⟨by omega,fun h=>?_⟩,fun r h=>hr r (List.mem_of_mem_take (List.mem_of_mem_take h))⟩
  have:=congrArg List.length h
  simp only [List.length_replicate,List.length_nil] at this
  omega
 ·simp only [ht,aa,hw,hi,iB,Int.toNat_natCast,List.length_take]
  rw [Nat.min_eq_left (by omega),Nat.min_eq_left (by omega)]
 ·simp only [ht,aa,hw,hi,iB,Int.toNat_natCast,List.length_take]
  rw [Rk,Nat.min_eq_left (by omega),Nat.min_eq_left (by omega),List.take_take,Nat.min_self]
 cbv
 refine cO [false,false,false,false,false,false,false,true] (by kernel_rfl) (by kernel_rfl) ?_
 cbv
 refine gI (by simp) (gI (by simp) ?_)
 obtain ⟨ci,qf⟩:∃n,n=c-i:=⟨_,rfl⟩
 refine ie (.vw 0 2 i mi ci true) (fun _=>⟨?_,?_⟩) ?_
 ·simp only [ht,aa,hw,hi,dO,bO,Int.toNat_natCast];omega
 ·simp only [ht,aa,hw,hi,aY,aT,Int.toNat_natCast,Option.getD_some,Nat.zero_add];rw [ya,qf]
 cbv
 refine gI (by simp) (gI (by simp) (gI (by simp) (gI (fun _=>?_) ?_)))
 ·simp only [ht,aa,hw1,bO];exact ⟨⟨by omega,by omega⟩,hr⟩
 refine bL (bI (mi:Int)) [.row 2 R2,.bB] ?_ ?_ ?_ ?_
 ·simp only [ht,aa,hw1,iB,Int.toNat_natCast,eO,List.length_drop]
  refine ⟨⟨by omega,fun h=>?_⟩,fun r h=>hr r (List.mem_of_mem_drop (List.mem_of_mem_take h))⟩
  rw [h] at wX;simp only [List.length_nil] at wX;omega
 ·simp only [ht,aa,hw1,iB,Int.toNat_natCast,List.length_drop]
  rw [Nat.min_eq_right (by omega)]
 ·simp only [ht,aa,hw1,iB,Int.toNat_natCast,List.length_drop]
  rw [Rl,List.take_of_length_le (by rw [List.length_drop];omega)]
 cbv
 refine av trv ?_ rfl rfl rfl ?_
 ·simp only [ht,aa,hw,Int.toNat_natCast];exact ⟨by omega,trv⟩
 simp only [ht,aa,hw,Int.toNat_natCast,AQ,e3,List.drop_zero,tr]
 rw [List.take_of_length_le (by rw [←tr];omega)]
theorem KG {l:List Jb} {id r:Int} (h:r=JO l id) {P:Jb→Prop} (hP:∀x∈l,P x):(r=-1∧l.findIdx? (fun j=>decide (j.id=id))=none)∨
 ∃(i:Nat) (xi xa xb xc xd xn xp xt xf:Int) (xq:aH) (xr:Bool) (xl:List Term),r=i∧i<l.length∧l[i]?=some ⟨xi,⟨xq,⟨xa,xb,xc,xd⟩,xn,xp,xt,xl⟩,xr,xf⟩∧l.findIdx? (fun j=>decide (j.id=id))=some i∧
  l.getD i Jb.zero=⟨xi,⟨xq,⟨xa,xb,xc,xd⟩,xn,xp,xt,xl⟩,xr,xf⟩∧P ⟨xi,⟨xq,⟨xa,xb,xc,xd⟩,xn,xp,xt,xl⟩,xr,xf⟩∧xi=id:=by
 rcases cF h with ⟨e1,e2,_⟩|⟨i,⟨xi,⟨xq,⟨xa,xb,xc,xd⟩,xn,xp,xt,xl⟩,xr,xf⟩,e1,e2,e3,e4,e5,_⟩
 ·exact .inl ⟨e1,e2⟩
 exact .inr ⟨i,xi,xa,xb,xc,xd,xn,xp,xt,xf,xq,xr,xl,e1,e2,e3,e5,by rw [List.getD_eq_getElem?_getD,e3];rfl,hP _ (List.mem_of_getElem? e3),by simpa using e4⟩
theorem jJ (s:bE) (j:Jb):mY s j=⟨s.round,s.next,(mY s j).bg,(mY s j).tree,s.ay,s.queue,s.ev,s.au⟩:=rfl
theorem zC (ht:TT t) (rd nx ef af:Int) {nl:List Node} {pl:List Place} {tl:List be} {jl:List Jb} {ql:List bZ} {el al:List dQ} {ns ps ts js qs es bV:List (List D)} (eV:ns=nl.map Node.cells) (hps:ps=pl.map Place.cells) (hts:ts=tl.map be.cells) (ek:js=jl.map Jb.cells) (dV:qs=ql.map bZ.cells) (aB:es=el.map dQ.cells) (has:bV=al.map dQ.cells) (id kd:Int) (nD:∀x∈jl,x.x.fK.u'∧x.x.path.length<1000000000000) (htl:tl.length<100000) (hjl:jl.length<1000000) (Ed:pl.length<1000000) (TV:ql.length<1000000) (hel:el.length<1000000):
 FC 39 [.agg [aA rd,aA nx,SL ns,SL ps,SL ts,SL js,SL qs,aA ef,SL es,aA af,SL bV],aA id,bI kd] [] (.ret (ng t (t _ fun _=>eZ ⟨rd,nx,⟨nl,pl⟩,tl,jl,ql,⟨ef,el⟩,⟨af,al⟩⟩ id kd))) []:=by
 refine bH ht (aF:=[]) Tryz.func39 rfl rfl (N:=49) rfl rfl (n:=0) rfl rfl ?_
 cbv
 have aX:ns.length=nl.length:=by rw [eV,lgM]
 have aZ:ps.length=pl.length:=by rw [hps,lgM]
 have bc:ts.length=tl.length:=by rw [hts,lgM]
 have aQ:js.length=jl.length:=by rw [ek,lgM]
 have aI:qs.length=ql.length:=by rw [dV,lgM]
 have ap:es.length=el.length:=by rw [aB,lgM]
 have aG:bV.length=al.length:=by rw [has,lgM]
 refine aM trv (sE ht _ _ _ _ _ _ _ _ _ _ _ ‹_› (by omega)) trv rfl rfl (fun r0 cN=>?_)
 simp only [ht] at cN
 have ec:=KG cN nD
 clear cN
 rcases ec with ⟨e1,e2⟩|⟨i,xi,xa,xb,xc,xd,xn,xp,xt,xf,xq,xr,xl,e1,e2,e3,e4,e5,⟨e6,e7⟩,e8⟩
 ·cbv
  refine an (fun h1=>?_) (fun h1=>?_)
  ·simp [ht] at h1
   cbv
   refine av trv trv rfl rfl rfl ?_
   (simp [eZ, *];done)
  simp [ht] at h1
  omega
 cbv
 refine an (fun h2=>?_) (fun h2=>?_)
 ·simp [ht] at h2
  (simp only [aa] at*;omega)
 simp [ht] at h2
 cbv
 refine wI ht ek (cT:=Jb.aU t) e3 ‹_› (fun _=>rfl) (fun _=>(by (simp only [ht,Jb.aU];rfl))) ?_
 cbv
 refine an (fun h4=>?_) (fun h4=>?_)
 ·simp [ht] at h4
  cbv
  refine av trv trv rfl rfl rfl ?_
  (simp only [ht,eZ,e4,e5];simp [*];done)
 simp [ht] at h4
 cbv
 refine aE trv (HY ht _ _ _ _ ‹_› ‹_› ‹_› ‹_› ‹_› ‹_› ‹_› _ _ _ _ _ _ _ _ _ _ _ (jR ht rfl) ‹_› ‹_› ‹_› ‹_›) trv rfl rfl rfl (fun r5 pH=>?_)
 simp only [ht] at pH
 (rw [jJ] at pH;generalize Px:(mY ⟨rd,nx,⟨nl,pl⟩,tl,jl,ql,⟨ef,el⟩,⟨af,al⟩⟩ ⟨xi,⟨xq,⟨xa,xb,xc,xd⟩,xn,xp,xt,xl⟩,xr,xf⟩).bg=fp at pH;generalize hft:(mY ⟨rd,nx,⟨nl,pl⟩,tl,jl,ql,⟨ef,el⟩,⟨af,al⟩⟩ ⟨xi,⟨xq,⟨xa,xb,xc,xd⟩,xn,xp,xt,xl⟩,xr,xf⟩).tree=ft at pH;subst r5)
 cbv
 refine aE trv (Br ht _ _ (jR ht rfl) ‹_›) trv rfl rfl rfl (fun r6 lF=>?_)
 simp only [ht] at lF
 cbv
 refine aE trv (Ml ht _ _ _ _ (jR ht rfl) (jR ht rfl) (jR ht rfl) (jR ht rfl) (jR ht rfl) (jR ht rfl) (jR ht rfl) _ _ _ _ _ _ _ _ _ _ _ (jR ht rfl) ‹_› ‹_› ‹_›) trv rfl rfl rfl (fun r7 pK=>?_)
 simp only [ht] at pK
 have ZB:(r7).ev.l.length<1000000:=by rw [pK];exact hel
 cbv
 refine aE trv (oq ht _ _ _ _ _ _ (jR ht rfl) (jR ht rfl) (jR ht rfl) (jR ht rfl) (jR ht rfl) (jR ht rfl) (jR ht rfl) ‹_›) trv rfl rfl rfl (fun r8 Mc=>?_)
 simp only [ht] at Mc
 cbv
 refine av trv trv rfl rfl rfl ?_
 (simp only [ht,eZ,e4,e5,Mc,pK,lF];rw [jJ,Px,hft];simp [*];done)
theorem Rn (ht:TT t) (rd nx ef af:Int) {nl:List Node} {pl:List Place} {tl:List be} {jl:List Jb} {ql:List bZ} {el al:List dQ} {ns ps ts js qs es bV:List (List D)} (eV:ns=nl.map Node.cells) (hps:ps=pl.map Place.cells) (hts:ts=tl.map be.cells) (ek:js=jl.map Jb.cells) (dV:qs=ql.map bZ.cells) (aB:es=el.map dQ.cells) (has:bV=al.map dQ.cells) (id kd:Int) (nD:∀x∈jl,x.x.fK.u'∧x.x.path.length<1000000000000) (htl:tl.length<100000) (hjl:jl.length<1000000) (Ed:pl.length<1000000) (TV:ql.length<1000000) (hel:el.length<1000000):
 FC 24 [.agg [aA rd,aA nx,SL ns,SL ps,SL ts,SL js,SL qs,aA ef,SL es,aA af,SL bV],aA id,bI kd] [] (.ret (ng t (t _ fun _=>send ⟨rd,nx,⟨nl,pl⟩,tl,jl,ql,⟨ef,el⟩,⟨af,al⟩⟩ id kd))) []:=by
 refine bH ht (aF:=[]) Tryz.func24 rfl rfl (N:=48) rfl rfl (n:=0) rfl rfl ?_
 cbv
 have aX:ns.length=nl.length:=by rw [eV,lgM]
 have aZ:ps.length=pl.length:=by rw [hps,lgM]
 have bc:ts.length=tl.length:=by rw [hts,lgM]
 have aQ:js.length=jl.length:=by rw [ek,lgM]
 have aI:qs.length=ql.length:=by rw [dV,lgM]
 have ap:es.length=el.length:=by rw [aB,lgM]
 have aG:bV.length=al.length:=by rw [has,lgM]
 refine aM trv (sE ht _ _ _ _ _ _ _ _ _ _ _ ‹_› (by omega)) trv rfl rfl (fun r0 cN=>?_)
 simp only [ht] at cN
 have ec:=KG cN nD
 clear cN
 rcases ec with ⟨e1,e2⟩|⟨i,xi,xa,xb,xc,xd,xn,xp,xt,xf,xq,xr,xl,e1,e2,e3,e4,e5,⟨e6,e7⟩,e8⟩
 ·cbv
  refine an (fun h1=>?_) (fun h1=>?_)
  ·simp [ht] at h1
   cbv
   refine av trv trv rfl rfl rfl ?_
   (simp [send, *];done)
  simp [ht] at h1
  omega
 cbv
 refine an (fun h2=>?_) (fun h2=>?_)
 ·simp [ht] at h2
  (simp only [aa] at*;omega)
 simp [ht] at h2
 cbv
 refine wI ht ek (cT:=Jb.aU t) e3 ‹_› (fun _=>rfl) (fun _=>(by (simp only [ht,Jb.aU];rfl))) ?_
 cbv
 refine an (fun h4=>?_) (fun h4=>?_)
 ·cbv
  refine cO [false,false,false,false,false,false,true,true] (by kernel_rfl) (by kernel_rfl) ?_
  cbv
  iterate 4 refine gI (by simp) ?_
  refine wI ht ek (cT:=Jb.aU t) e3 ‹_› (fun _=>rfl) (fun _=>(by (simp only [ht,Jb.aU];rfl))) ?_
  cbv
  refine gI (by simp) ?_
  refine aE trv (HY ht _ _ _ _ ‹_› ‹_› ‹_› ‹_› ‹_› ‹_› ‹_› _ _ _ _ _ _ _ _ _ _ _ (jR ht rfl) ‹_› ‹_› ‹_› ‹_›) trv rfl rfl rfl (fun r6 lF=>?_)
  simp only [ht] at lF
  (rw [jJ] at lF;generalize Px:(mY ⟨rd,nx,⟨nl,pl⟩,tl,jl,ql,⟨ef,el⟩,⟨af,al⟩⟩ ⟨xi,⟨xq,⟨xa,xb,xc,xd⟩,xn,xp,xt,xl⟩,xr,xf⟩).bg=fp at lF;generalize hft:(mY ⟨rd,nx,⟨nl,pl⟩,tl,jl,ql,⟨ef,el⟩,⟨af,al⟩⟩ ⟨xi,⟨xq,⟨xa,xb,xc,xd⟩,xn,xp,xt,xl⟩,xr,xf⟩).tree=ft at lF;subst r6)
  cbv
  refine jV trv (rC ht (jR ht rfl) ‹_›) trv rfl (.inr rfl) ?_
  cbv
  (simp only [aa] at e1;refine dx [3] trv rfl rfl (vN ht (l:=jl) (i:=i) ‹_› (by simp only [ht];rw [wrap64 (by omega) (by omega),e1]) e2 (by omega)) (cz ?_))
  cbv
  refine aE trv (oq ht _ _ _ _ _ _ (jR ht rfl) (jR ht rfl) (jR ht rfl) (jR ht rfl) (jR ht rfl) (jR ht rfl) (jR ht rfl) ‹_›) trv rfl rfl rfl (fun r7 pK=>?_)
  simp only [ht] at pK
  cbv
  refine av trv trv rfl rfl rfl ?_
  (subst h4;simp only [ht,send,e4,e5,pK,if_true];rw [jJ,Px,hft];done)
 cbv
 refine aE trv (H6 ht _ ‹_› ‹_›) trv rfl rfl rfl (fun r8 Mc=>?_)
 simp only [ht] at Mc
 cbv
 refine jV trv (rC ht ‹_› ‹_›) trv rfl (.inr rfl) ?_
 cbv
 (simp only [aa] at e1;refine dx [2] trv rfl rfl (vN ht (l:=jl) (i:=i) ‹_› (by simp only [ht];rw [wrap64 (by omega) (by omega),e1]) e2 (by omega)) (cz ?_))
 cbv
 refine aE trv (oq ht _ _ _ _ _ _ ‹_› ‹_› ‹_› (jR ht rfl) (jR ht rfl) ‹_› ‹_› ‹_›) trv rfl rfl rfl (fun r9 gK=>?_)
 simp only [ht] at gK
 cbv
 refine av trv trv rfl rfl rfl ?_
 (simp only [ht,send,e4,e5];simp [*];done)
structure bE.sm (s:bE):Prop where
 nodes:s.bg.nodes.length<1000000∧∀x∈s.bg.nodes,x.sm
 places:s.bg.places.length<1000000
 tree:s.tree.length<100000∧∀x∈s.tree,x.path.length<1000000000000
 ay:s.ay.length<1000000∧∀x∈s.ay,x.x.sm∧(0≤x.id∧x.id<18446744073709551616)∧x.x.count<9223372036854775808
 queue:s.queue.length<1000000
 notes:s.ev.l.length<1000000∧s.au.l.length<1000000
end Dem
end
