/- Parts of a proof, joined. -/
import Derived.Test.YtihohjnkkalgiaaGreatDoorM23
set_option linter.all false
set_option maxRecDepth 100000
set_option maxHeartbeats 4000000
section
open Go Dem Go.Proofs
namespace Dem
variable {t:Th}
theorem Up (ht:TT t):FC 153 [SL [],bI 0,bI 0,.fn 48 []] [] (.ret (.eE [])) []:=by
 refine bH ht (aF:=[]) Tryz.func153 rfl rfl (N:=53) rfl rfl (n:=0) rfl rfl ?_
 cbv
 obtain ⟨J0,dR⟩:∃J0:Nat→Int→Prop,∀m a,J0 m a↔(a=1):=⟨fun m v=>match v with|a=>(a=1),fun _ _=>Iff.rfl⟩
 refine bF ⟨[0,1,2,3,8],[],[]⟩ (σ:=Int) (fun v=>[(8,.d (.int .i64 (t _ fun _=>v)))]) (fun v=>[]) J0 ?_
 cbv
 refine aD ⟨1,_,(dR _ _).2 ?_,rfl,?_⟩
 ·rfl
 rintro m a hj
 replace hj:=(dR _ _).1 hj
 obtain UF:=hj
 cbv
 refine an (fun h1=>?_) (fun h1=>?_)
 ·simp [ht,aa] at h1
  omega
 simp [ht,aa] at h1
 cbv
 refine av trv trv rfl rfl rfl ?_
 rfl
theorem K9 (ht:TT t):FC 100 [SL [],bI 0,.fn 48 []] [] (.ret (.eE [])) []:=by
 refine bH ht (aF:=[]) Tryz.func100 rfl rfl (N:=63) rfl rfl (n:=0) rfl rfl ?_
 cbv
 obtain ⟨J0,dR⟩:∃J0:Nat→Int×Int→Prop,∀m a b,J0 m (a,b)↔(a=0∧b=20):=⟨fun m v=>match v with|(a,b)=>(a=0∧b=20),fun _ _ _=>Iff.rfl⟩
 refine bF ⟨[0,1,2,6,7,8],[],[]⟩ (σ:=Int×Int) (fun v=>[(7,.d (.int .i64 (t _ fun _=>v.1))),(8,.d (.int .i64 (t _ fun _=>v.2)))]) (fun v=>[]) J0 ?_
 cbv
 refine aD ⟨1,(_,_),(dR _ _ _).2 ?_,by simp only [ht];rfl,?_⟩
 ·exact ⟨rfl,rfl⟩
 rintro m ⟨a,b⟩ hj
 replace hj:=(dR _ _ _).1 hj
 obtain ⟨UF,xQ⟩:=hj
 cbv
 refine an (fun h1=>?_) (fun h1=>?_)
 ·simp [ht,aa] at h1
  omega
 simp [ht,aa] at h1
 cbv
 refine fU trv (by have:=Up ht;simpa only [ht,UF] using this) trv rfl rfl ?_
 cbv
 obtain ⟨J2,yL⟩:∃J2:Nat→Int→Prop,∀m b,J2 m b↔(b=20):=⟨fun m v=>match v with|b=>(b=20),fun _ _=>Iff.rfl⟩
 refine bF ⟨[0,1,2,6],[],[]⟩ (σ:=Int) (fun v=>[(6,.d (.int .i64 (t _ fun _=>v)))]) (fun v=>[]) J2 ?_
 cbv
 refine aD ⟨1,_,(yL _ _).2 ?_,by simp only [ht];rfl,?_⟩
 ·rfl
 rintro m b hj
 replace hj:=(yL _ _).1 hj
 obtain uS:=hj
 cbv
 refine an (fun h3=>?_) (fun h3=>?_)
 ·simp [ht,aa] at h3
  omega
 simp [ht,aa] at h3
 cbv
 refine av trv trv rfl rfl rfl ?_
 rfl
theorem RW (ht:TT t):FC 47 [SL [],.fn 48 []] [] (.ret (.eE [])) []:=by
 refine bH ht (aF:=[]) Tryz.func47 rfl rfl (N:=9) rfl rfl (n:=0) rfl rfl ?_
 cbv
 refine fU trv (by simp only [ht];exact K9 ht) trv rfl rfl ?_
 cbv
 refine av trv trv rfl rfl rfl ?_
 rfl
theorem OG (ht:TT t) (jc:List D) {l:List (Jb)} {es:List (List D)} (aB:es=l.map Jb.cells) (f:Nat) (p:Jb→Bool) (hl:l.length<9223372036854775807)
 (hf:∀x∈l,FC f [.agg [aA x.id,ST x.x.path,aA x.x.fK.a,aA x.x.fK.b,aA x.x.fK.c,aA x.x.fK.d,bI x.x.count,bI x.x.prio,bI x.x.fq,SL (x.x.bY.map Term.cells),BL x.runs,bI x.left],.ep jc] [] (.ret (BL (p x))) []) {r:Int} (hr:r=idxOf p l):FC 70 [SL es,.fn f [.ep jc]] [] (.ret (bI r)) []:=by
 have hel:es.length=l.length:=by rw [aB,lgM]
 obtain ⟨J,hJ⟩:∃J:Nat→Nat→Prop,∀n v,J n v↔(v+n=l.length∧∀i<v,∀x,l[i]?=some x→p x=false):=⟨fun n v=>v+n=l.length∧∀i<v,∀x,l[i]?=some x→p x=false,fun _ _=>Iff.rfl⟩
 refine bH ht (aF:=[]) Tryz.func70 rfl rfl (N:=19) rfl rfl (n:=0) rfl rfl ?_
 cbv
 refine bF ⟨[0,1,7,8],[],[]⟩ (σ:=Nat) (fun k=>[(8,bI (t _ fun _=>(k:Int)))]) (fun _=>[]) J ?_
 cbv
 refine aD ⟨l.length,0,(hJ _ _).2 ⟨by omega,by intro i hi;simp at hi⟩,by simp only [ht];rfl,?_⟩
 rintro n k hj
 obtain ⟨h2,h3⟩:=(hJ _ _).1 hj
 clear hj
 cbv
 refine an (fun h=>?_) (fun h=>?_)
 ·simp only [ht,aa,decide_eq_true_eq] at h
  have hk:k<l.length:=by omega
  obtain ⟨x,hx⟩:∃x,l[k]?=some x:=⟨l[k],by simp⟩
  have mE:x∈l:=List.mem_of_getElem? hx
  have gz:=hf x mE
  obtain ⟨px,hpx⟩:∃b,b=p x:=⟨_,rfl⟩
  rw [←hpx] at gz
  obtain ⟨id',⟨p',⟨a',b',c',d'⟩,n',Xg,LB,sM⟩,Xh,Xi⟩:=x;obtain ⟨Hz,mz⟩:∃lr:List (List D),lr=sM.map Term.cells:=⟨_,rfl⟩;simp only [←mz] at gz
  cbv
  refine ic [.int .u64 id',.str p',.int .u64 a',.int .u64 b',.int .u64 c',.int .u64 d',.int .i64 n',.int .i64 Xg,.int .i64 LB,.sl Hz,.bool Xh,.int .i64 Xi] ?_ ?_ ?_
  ·simp only [ht,aa];refine ⟨by omega,h,?_⟩;rw [aB];intro r hr;obtain ⟨y,_,rfl⟩:=List.mem_map.1 hr;rfl
  ·simp [ht,aa,aB,hx,mz,Jb.cells]
  cbv
  refine dw trv gz ?_
  cbv
  refine an (fun hb=>?_) (fun hb=>?_)
  ·cbv
   refine av trv trv rfl rfl rfl ?_
   have e:=cV hx (hpx▸hb) h3
   simp only [ht,aa,hr,idxOf,e]
  cbv
  refine aD ⟨n-1,k+1,⟨by omega,(hJ _ _).2 ⟨by omega,?_⟩⟩,?_⟩
  ·intro i hi y hy
   by_cases hik:i<k
   ·exact h3 i hik y hy
   have:i=k:=by omega
   subst this;rw [hx] at hy;cases hy;rw [←hpx];exact hb
  simp only [ht,aa,aC (show k<9223372036854775807 by omega)];rfl
 simp only [ht,aa,decide_eq_false_iff_not] at h
 have hk:¬k<l.length:=by omega
 clear h
 cbv
 refine av trv trv rfl rfl rfl ?_
 rw [hr,idxOf,c7]
 intro i y hy
 have:i<l.length:=by
  rcases Nat.lt_or_ge i l.length with h'|h';· exact h'
  simp [List.getElem?_eq_none h'] at hy
 exact h3 i (by omega) y hy
theorem OH (ht:TT t) (jc:List D) {l:List (Jb)} {es:List (List D)} (aB:es=l.map Jb.cells) {m c:Nat} (hm:m=l.length) (hc:m≤c) (f:Nat) (p:Jb→Bool) (hl:l.length<9223372036854775807)
 (hf:∀x∈l,FC f [.agg [aA x.id,ST x.x.path,aA x.x.fK.a,aA x.x.fK.b,aA x.x.fK.c,aA x.x.fK.d,bI x.x.count,bI x.x.prio,bI x.x.fq,SL (x.x.bY.map Term.cells),BL x.runs,bI x.left],.ep jc] [] (.ret (BL (p x))) []) {r:List (List D)} (hr:r=(l.filter (fun x=>!p x)).map Jb.cells) {kk:Nat} (hkk:kk=r.length) {rz:List (List D)} (HU:rz=r++List.replicate (m-kk) [.int .u64 0,.str [],.int .u64 0,.int .u64 0,.int .u64 0,.int .u64 0,.int .i64 0,.int .i64 0,.int .i64 0,.sl [],.bool false,.int .i64 0]):
 FC 44 [.vw 0 12 0 m c true,.fn f [.ep jc]] [.row 12 es] (.ret (.vw 0 12 0 kk c true)) [.row 12 rz]:=by
 have hel:es.length=m:=by rw [aB,lgM,hm]
 have hrows:∀r∈es,r.length=12:=by rw [aB];intro r hr;obtain ⟨y,_,rfl⟩:=List.mem_map.1 hr;rfl
 obtain ⟨k,hk⟩:∃k,k=idxOf p l:=⟨_,rfl⟩
 have Qy:(t (List (List D)) fun _=>(es.drop 0).take m)=l.map Jb.cells:=by simp only [ht];rw [List.drop_zero,List.take_of_length_le (by omega),aB]
 have hidx:=OG ht jc Qy f p hl hf hk
 obtain ⟨J,hJ⟩:∃J:Nat→Nat×Nat×List (List D)→Prop,∀n v,J n v↔(v.2.1+n=m∧v.1<v.2.1∧v.2.2.length=m∧(∀r∈v.2.2,r.length=12)∧v.2.2.take v.1=((l.take v.2.1).filter (fun x=>!p x)).map Jb.cells∧v.2.2.drop v.2.1=es.drop v.2.1):=⟨fun n v=>v.2.1+n=m∧v.1<v.2.1∧v.2.2.length=m∧(∀r∈v.2.2,r.length=12)∧v.2.2.take v.1=((l.take v.2.1).filter (fun x=>!p x)).map Jb.cells∧v.2.2.drop v.2.1=es.drop v.2.1,fun _ _=>Iff.rfl⟩
 refine bH ht (aF:=[.row 12 es]) Tryz.func44 rfl rfl (N:=42) rfl rfl (n:=1) rfl rfl ?_
 cbv
 refine Qb (TT.eq ht) (v:=bI k) [true] [] trv rfl ?_ rfl rfl rfl rfl rfl rfl rfl hidx ?_
 ·simp [ht];omega
 cbv
 refine an (fun h=>?_) (fun h=>?_)
 ·have zi:k=-1:=by simp [ht] at h;exact h
  have hnone:=nS (hk▸zi:idxOf p l=-1)
  clear h
  cbv
  have Pk:r=es:=by rw [hr,filter_all hnone,←aB]
  have hkm:kk=m:=by rw [hkk,Pk,hel]
  have Wj:rz=es:=by rw [HU,hkm,Nat.sub_self,Pk];simp
  rw [Wj,hkm]
  exact JE trv rfl rfl
 have zi:k≠-1:=by simp [ht] at h;exact h
 clear h
 obtain ⟨i0,x0,U1,hx0,Yz,hb0⟩:=nT (hk▸zi:idxOf p l≠-1)
 rw [←hk] at U1
 subst U1
 have YA:i0<m:=by rw [hm];exact (List.getElem?_eq_some_iff.1 hx0).1
 cbv
 refine bF ⟨[0,1,5,6],[],[]⟩ (σ:=Nat×Nat×List (List D)) (fun v=>[(5,bI (t _ fun _=>(v.1:Int))),(6,bI (t _ fun _=>(v.2.1:Int)))]) (fun v=>[(0,.row 12 (t _ fun _=>v.2.2))]) J ?_
 cbv
 refine aD ⟨m-(i0+1),(i0,i0+1,es),(hJ _ _).2 ⟨?_,?_,hel,hrows,?_,rfl⟩,by simp only [ht,aa,Int.ofNat_eq_natCast,aC (show i0<9223372036854775807 by omega)];rfl,?_⟩
 ·show i0+1+(m-(i0+1))=m;omega
 ·show i0<i0+1;omega
 ·show es.take i0=_
  rw [dA hx0,List.filter_append,filter_all hb0,aB,←List.map_take];simp [Yz]
 rintro n ⟨i,j,cur⟩ hj
 obtain ⟨j1,j2,j3,j4,j5,j6⟩:=(hJ _ _).1 hj
 clear hj
 simp only at j1 j2 j3 j4 j5 j6
 cbv
 refine an (fun h=>?_) (fun h=>?_)
 ·have U2:j<m:=by simp [ht,aa] at h;omega
  clear h
  obtain ⟨x,hx⟩:∃x,l[j]?=some x:=⟨l[j]'(by omega),by simp⟩
  have mE:x∈l:=List.mem_of_getElem? hx
  have gz:=hf x mE
  have Hv:cur[j]?=some (Jb.cells x):=by
   have:(cur.drop j)[0]?=(es.drop j)[0]?:=by rw [j6]
   rw [List.getElem?_drop,List.getElem?_drop,Nat.add_zero,aB,List.getElem?_map,hx] at this
   exact this
  obtain ⟨px,hpx⟩:∃b,b=p x:=⟨_,rfl⟩
  rw [←hpx] at gz
  obtain ⟨cx,EG⟩:∃cx,cx=Jb.cells x:=⟨_,rfl⟩
  rw [←EG] at Hv
  have hstep:(l.take (j+1)).filter (fun x=>!p x)=(l.take j).filter (fun x=>!p x)++(if px then [] else [x]):=by
   rw [dA hx,List.filter_append];cases px<;>simp [←hpx]
  obtain ⟨id',⟨p',⟨a',b',c',d'⟩,n',Xg,LB,sM⟩,Xh,Xi⟩:=x;obtain ⟨Hz,mz⟩:∃lr:List (List D),lr=sM.map Term.cells:=⟨_,rfl⟩;simp only [Jb.cells,←mz] at gz EG
  cbv
  refine ⟨?_,S5 [.int .u64 id',.str p',.int .u64 a',.int .u64 b',.int .u64 c',.int .u64 d',.int .i64 n',.int .i64 Xg,.int .i64 LB,.sl Hz,.bool Xh,.int .i64 Xi] ?_ ?_ ?_⟩
  ·simp [ht,aa];omega
  ·simp [ht,aa,j3];omega
  ·simp [ht,aa,List.getD_eq_getElem?_getD,Hv,EG]
  cbv
  refine dx [] trv rfl rfl gz (cz ?_)
  cbv
  refine an (fun hb=>?_) (fun hb=>?_)
  ·have hb':px=false:=by simpa [ht] using hb
   clear hb
   obtain ⟨nc,hnc⟩:∃nc,nc=cur.set i cx:=⟨_,rfl⟩
   have qf:(cur.getD i []).length=12:=j4 _ (by rw [List.getD_eq_getElem?_getD,List.getElem?_eq_getElem (by omega)];exact List.getElem_mem _)
   cbv
   refine ⟨?_,?_⟩
   ·simp [ht,aa];omega
   refine ⟨?_,?_⟩
   ·simp [ht,aa,j3];exact ⟨by omega,by simpa using qf.symm▸(Nat.le_refl _)⟩
   refine aD ⟨n-1,(i+1,j+1,nc),⟨by omega,(hJ _ _).2 ⟨?_,?_,?_,?_,?_,?_⟩⟩,?_⟩
   ·show j+1+(n-1)=m;omega
   ·show i+1<j+1;omega
   ·show nc.length=m;rw [hnc,List.length_set];exact j3
   ·show ∀r∈nc,r.length=12
    intro r hr;rw [hnc] at hr
    rcases List.mem_or_eq_of_mem_set hr with hr|rfl
    ·exact j4 r hr
    rw [EG];rfl
   ·show nc.take (i+1)=_
    rw [hnc,kD _ _ _ (by omega),j5,hstep,hb',EG];simp [mz,Jb.cells]
   ·show nc.drop (j+1)=es.drop (j+1)
    rw [hnc,m6 _ _ _ _ (by omega),←List.drop_drop,j6,List.drop_drop]
   simp only [ht,aa,Int.ofNat_eq_natCast,aC (show i<9223372036854775807 by omega),aC (show j<9223372036854775807 by omega)]
   have ei:0+((i:Int)).toNat=i:=by simp
   have e:cur.set i (bw (cur.getD i []) 0 [.int .u64 id',.str p',.int .u64 a',.int .u64 b',.int .u64 c',.int .u64 d',.int .i64 n',.int .i64 Xg,.int .i64 LB,.sl Hz,.bool Xh,.int .i64 Xi])=nc:=by rw [hnc,kC _ _ (by rw [qf];rfl),EG]
   simp only [ei,e];rfl
  have hb':px=true:=by simpa [ht] using hb
  clear hb
  cbv
  refine aD ⟨n-1,(i,j+1,cur),⟨by omega,(hJ _ _).2 ⟨?_,?_,j3,j4,?_,?_⟩⟩,?_⟩
  ·show j+1+(n-1)=m;omega
  ·show i<j+1;omega
  ·show cur.take i=_
   rw [j5,hstep,hb'];simp
  ·show cur.drop (j+1)=es.drop (j+1)
   rw [←List.drop_drop,j6,List.drop_drop]
  simp only [ht,aa,Int.ofNat_eq_natCast,aC (show j<9223372036854775807 by omega)];rfl
 have U2:j=m:=by simp [ht,aa] at h;omega
 clear h
 obtain ⟨mi,ya⟩:∃mi,mi=m-i:=⟨_,rfl⟩
 obtain ⟨ci,qf⟩:∃ci,ci=c-i:=⟨_,rfl⟩
 obtain ⟨nc,hnc⟩:∃nc,nc=wrote cur i (List.replicate mi [.int .u64 0,.str [],.int .u64 0,.int .u64 0,.int .u64 0,.int .u64 0,.int .i64 0,.int .i64 0,.int .i64 0,.sl [],.bool false,.int .i64 0]):=⟨_,rfl⟩
 have hnt:nc.take i=r:=by
  have hl':(cur.take i).length=i:=by simp;omega
  rw [hnc,wrote,List.append_assoc,List.take_left' hl',j5,hr,U2,hm,List.take_length]
 have YC:i≤nc.length:=by rw [hnc];simp [wrote];omega
 cbv
 refine bL (.vw 0 12 i mi ci true) [.row 12 cur] ?_ ?_ ?_ ?_
 ·simp [ht,aa,dO,bO];omega
 ·simp [ht,aa,aY,aT,ya,qf]
 ·simp only [ht]
 cbv
 refine bL (.eE []) [.row 12 nc] ?_ rfl ?_ ?_
 ·simp [ht,eO]
  refine ⟨by omega,?_⟩
  intro h;rw [h] at j3;simp at j3;omega
 ·simp only [ht,hnc]
 cbv
 refine bL (.vw 0 12 0 i c true) [.row 12 nc] ?_ ?_ rfl ?_
 ·simp [ht,aa,dO,bO];omega
 ·simp [ht,aa,aY,aT]
 cbv
 have hki:kk=i:=by rw [hkk,←hnt];simp;omega
 have Wj:rz=nc:=by
  rw [HU,hki,←hnt,hnc,wrote]
  have hl':(cur.take i).length=i:=by simp;omega
  rw [List.append_assoc,List.take_left' hl',List.drop_of_length_le (by simp;omega),List.append_nil,ya]
 rw [Wj,hki]
 exact JE trv rfl rfl
theorem WN (ht:TT t) (a1 a3 a4 a5 a6 a7 a8 a9 a12 b1 b3 b4 b5 b6 b7 b8 b9 OE:Int) (a2 b2:aH) (WM OF:Bool) (ar br:List (List D)):
 FC 46 [.agg [aA a1,ST a2,aA a3,aA a4,aA a5,aA a6,bI a7,bI a8,bI a9,SL ar,BL WM,bI a12],.ep [.int .u64 b1,.str b2,.int .u64 b3,.int .u64 b4,.int .u64 b5,.int .u64 b6,.int .i64 b7,.int .i64 b8,.int .i64 b9,.sl br,.bool OF,.int .i64 OE]] [] (.ret (BL (!(WM&&decide (a8<b8))))) []:=by
 obtain ⟨H,hH⟩:∃H,H=!(WM&&decide (a8<b8)):=⟨_,rfl⟩
 rw [←hH]
 refine bH ht (aF:=[]) Tryz.func46 rfl rfl (N:=16) rfl rfl (n:=0) rfl rfl ?_
 cbv
 iterate 7 refine gI (by simp [ht,ah]) ?_
 refine pI (by simp [ht,ah]) ?_
 refine av trv trv rfl rfl rfl ?_
 (simp [ht,bX, *];grind)
def rM (t:Th) (l:List Int):AV:=SL (t _ fun _=>l.map Int.cells)
theorem abv {α:Type} {l:List α} {cells:α→List D} {u:List (List D)} (hu:u=l.map cells) (cT:α→List D) (hT:∀x,cells x=cT x) (j:Nat) {c:Prop} {ds:List D} {K:List D→Prop} (hj:j<l.length) (hd:u.getD j []=ds) (hc:j<u.length→c) (hK:∀x,l[j]?=some x→K (cT x)):AF true c ds K:=by
 refine VI _ (fun _=>⟨hc (by rw [hu];simpa using hj),?_⟩) (hK l[j] (by simp [hj]))
 rw [←hd,hu,←hT];simp [hj]
def B4 (l:List Jb) (p:Int):List Jb:=l.filter fun o=>o.runs&&decide (o.x.prio<p)
theorem IB (ht:TT t) {l:List Jb} {es:List (List D)} (aB:es=l.map Jb.cells) (hl:l.length<1000000) (b1 b3 b4 b5 b6 b7 b8 b9 OE:Int) (b2:aH) (OF:Bool) (br:List (List D))
 {m c k:Nat} (hm:m=l.length) (hc:m≤c) {r:List (List D)} (hr:r=(B4 l b8).map Jb.cells) (hk:k=r.length) {rz:List (List D)} (HU:rz=r++List.replicate (m-k) [.int .u64 0,.str [],.int .u64 0,.int .u64 0,.int .u64 0,.int .u64 0,.int .i64 0,.int .i64 0,.int .i64 0,.sl [],.bool false,.int .i64 0]):
 FC 44 [.vw 0 12 0 m c true,.fn 46 [.ep [.int .u64 b1,.str b2,.int .u64 b3,.int .u64 b4,.int .u64 b5,.int .u64 b6,.int .i64 b7,.int .i64 b8,.int .i64 b9,.sl br,.bool OF,.int .i64 OE]]] [.row 12 es] (.ret (.vw 0 12 0 k c true)) [.row 12 rz]:=
 OH ht _ aB hm hc 46 (fun o=>!(o.runs&&decide (o.x.prio<b8))) (by omega) (fun o _=>WN ht _ _ _ _ _ _ _ _ _ _ _ _ _ _ _ _ _ _ _ _ _ _ _ _) (by rw [hr,B4];simp) hk HU
theorem WO (ht:TT t) {l:List Jb} {es:List (List D)} (aB:es=l.map Jb.cells) (hl:l.length<1000000) (b1 b3 b4 b5 b6 b7 b8 b9 OE:Int) (b2:aH) (OF:Bool) (br:List (List D)) (h0:B4 l b8=[]) {m:Nat} (hm:m=l.length):
 FC 44 [.ow 1 12 m,.fn 46 [.ptr 0 0]] [.var [aA b1,ST b2,aA b3,aA b4,aA b5,aA b6,bI b7,bI b8,bI b9,SL br,BL OF,bI OE],.row 12 es] (.ret (SL [])) [.dead,.dead]:=
 pM rfl rfl rfl<|de [1] rfl rfl rfl rfl<|dX fun c hc _=>BB rfl (by simp) (by simp) rfl (IB ht aB hl b1 b3 b4 b5 b6 b7 b8 b9 OE b2 OF br hm hc (r:=[]) (by rw [h0];rfl) (k:=0) rfl rfl)
theorem Uq {r z:List (List D)} {k:Nat} (hk:k=r.length):r=(r++z).take k:=by rw [hk,List.take_left]
theorem WQ (ht:TT t) {l:List Jb} {es:List (List D)} (aB:es=l.map Jb.cells) (hl:l.length<1000000) (b1 b3 b4 b5 b6 b7 b8 b9 OE:Int) (b2:aH) (OF:Bool) (br:List (List D)) {m k:Nat} (hm:m=l.length) {r:List (List D)} (hr:r=(B4 l b8).map Jb.cells) (hk:k=r.length) (h0:0<k):
 FC 44 [.ow 1 12 m,.fn 46 [.ptr 0 0]] [.var [aA b1,ST b2,aA b3,aA b4,aA b5,aA b6,bI b7,bI b8,bI b9,SL br,BL OF,bI OE],.row 12 es] (.ret (.ow 1 12 k)) [.dead,.row 12 r]:=by
 obtain ⟨rz,HU⟩:∃rz,rz=r++List.replicate (m-k) [D.int .u64 0,.str [],.int .u64 0,.int .u64 0,.int .u64 0,.int .u64 0,.int .i64 0,.int .i64 0,.int .i64 0,.sl [],.bool false,.int .i64 0]:=⟨_,rfl⟩
 exact pM rfl rfl rfl<|de [1] rfl rfl rfl rfl<|dX fun c hc _=>BA h0 rfl (by rw [HU,hk];simp) (by rw [HU];exact Uq hk) rfl (IB ht aB hl b1 b3 b4 b5 b6 b7 b8 b9 OE b2 OF br hm hc hr hk HU)
theorem RX (ht:TT t) (rd nx ef af:Int) {nl:List Node} {pl:List Place} {tl:List be} {jl:List Jb} {ql:List bZ} {el al:List dQ} {ns ps ts js qs es bV:List (List D)} (eV:ns=nl.map Node.cells) (hps:ps=pl.map Place.cells) (hts:ts=tl.map be.cells) (ek:js=jl.map Jb.cells) (dV:qs=ql.map bZ.cells) (aB:es=el.map dQ.cells) (has:bV=al.map dQ.cells) (id:Int) (hjl:jl.length<1000000) (hlo:B4 jl (bG jl id).1.x.prio=[]):FC 18 [.agg [aA rd,aA nx,SL ns,SL ps,SL ts,SL js,SL qs,aA ef,SL es,aA af,SL bV],aA id] [] (.ret (rM t (t _ fun _=>bM ⟨rd,nx,⟨nl,pl⟩,tl,jl,ql,⟨ef,el⟩,⟨af,al⟩⟩ id))) []:=by
 have he:bM ⟨rd,nx,⟨nl,pl⟩,tl,jl,ql,⟨ef,el⟩,⟨af,al⟩⟩ id=[]:=by
  unfold bM
  split
  ·rfl
  show (List.mergeSort (B4 jl (bG jl id).1.x.prio) fu).map _=[]
  rw [hlo];simp
 rw [he]
 obtain ⟨m,hm⟩:∃m,m=jl.length:=⟨_,rfl⟩
 have hel:m=js.length:=by rw [ek,lgM,hm]
 have hrows:∀r∈js,r.length=12:=by rw [ek];intro r hr;obtain ⟨y,_,rfl⟩:=List.mem_map.1 hr;rfl
 refine bH ht (aF:=[]) Tryz.func18 rfl rfl (N:=39) rfl rfl (n:=0) rfl rfl ?_
 cbv
 have aX:ns.length=nl.length:=by rw [eV,lgM]
 have aZ:ps.length=pl.length:=by rw [hps,lgM]
 have bc:ts.length=tl.length:=by rw [hts,lgM]
 have aQ:js.length=jl.length:=by rw [ek,lgM]
 have aI:qs.length=ql.length:=by rw [dV,lgM]
 have ap:es.length=el.length:=by rw [aB,lgM]
 have aG:bV.length=al.length:=by rw [has,lgM]
 (refine aE trv (ij ht _ rd nx ef af ns ps ts qs es bV ek (by ((try simp only [aa] at*);omega))) (by simp [ht]) rfl rfl rfl (fun r1 dL=>?_);simp only [ht] at dL;rw [←dL] at hlo)
 cbv
 refine an (fun h0=>?_) (fun h0=>?_)
 ·simp [ht,aa,aX,aZ,bc,aQ,aI,ap,aG] at h0
  cbv
  refine av trv trv rfl rfl rfl ?_
  (simp [ht,rM,U4,Bp];done)
 simp [ht,aa,aX,aZ,bc,aQ,aI,ap,aG] at h0
 cbv
 (refine jV trv (uk ht hrows (by omega) hel) trv rfl (.inr rfl) ?_)
 cbv
 (refine dx [1,2] trv rfl rfl (WO ht ek (by ((try simp only [aa] at*);omega)) _ _ _ _ _ _ _ _ _ _ _ _ hlo hm) (cz ?_))
 cbv
 (refine fU trv (RW ht) trv rfl rfl ?_)
 cbv
 obtain ⟨J1,m8⟩:∃J1:Nat→List (List D)×Int→Prop,∀n u i,J1 n (u,i)↔(i=0∧u=[]):=⟨fun n v=>match v with|(u,i)=>(i=0∧u=[]),fun _ _ _=>Iff.rfl⟩
 refine bF ⟨[8,26,27,28],[(8,1)],[]⟩ (σ:=List (List D)×Int) (fun v=>[(8,.ow 0 1 (t _ fun _=>(v.1).length)),(28,.d (.int .i64 (t _ fun _=>v.2)))]) (fun v=>[(0,.row 1 (t _ fun _=>v.1))]) J1 ?_
 cbv
 refine aD ⟨1,([],_),(m8 _ _ _).2 ?_,by simp only [ht];rfl,?_⟩
 ·exact ⟨rfl,rfl⟩
 rintro n ⟨u,i⟩ hj
 replace hj:=(m8 _ _ _).1 hj
 obtain ⟨ji,ju⟩:=hj
 cbv
 refine an (fun h2=>?_) (fun h2=>?_)
 ·simp [ht,aa,aX,aZ,bc,aQ,aI,ap,aG] at h2
  omega
 simp [ht,aa,aX,aZ,bc,aQ,aI,ap,aG] at h2
 cbv
 refine av trv (by simp [ht]) rfl rfl rfl ?_
 (simp only [ht,ju];rfl)
theorem RY (ht:TT t) (rd nx ef af:Int) {nl:List Node} {pl:List Place} {tl:List be} {jl:List Jb} {ql:List bZ} {el al:List dQ} {ns ps ts js qs es bV:List (List D)} (eV:ns=nl.map Node.cells) (hps:ps=pl.map Place.cells) (hts:ts=tl.map be.cells) (ek:js=jl.map Jb.cells) (dV:qs=ql.map bZ.cells) (aB:es=el.map dQ.cells) (has:bV=al.map dQ.cells) (id:Int) (hjl:jl.length<1000000) {L:List Jb} (hL:L=B4 jl (bG jl id).1.x.prio) (hl0:0<L.length) (h12:L.length≤12) (hid:sP jl):FC 18 [.agg [aA rd,aA nx,SL ns,SL ps,SL ts,SL js,SL qs,aA ef,SL es,aA af,SL bV],aA id] [] (.ret (rM t (t _ fun _=>bM ⟨rd,nx,⟨nl,pl⟩,tl,jl,ql,⟨ef,el⟩,⟨af,al⟩⟩ id))) []:=by
 obtain ⟨E,hE⟩:∃E,E=bM ⟨rd,nx,⟨nl,pl⟩,tl,jl,ql,⟨ef,el⟩,⟨af,al⟩⟩ id:=⟨_,rfl⟩
 rw [←hE]
 obtain ⟨S,hS⟩:∃S,S=(Sort.insertionSort xD L.toArray 0 L.length).toList:=⟨_,rfl⟩
 have hSe:(bG jl id).2=true→E=S.map (·.id):=by
  intro g
  rw [hE,hS,K6 (by rw [hL];exact hid.filter _),hL];unfold bM;rw [g];rfl
 have hE0:(bG jl id).2=false→E=[]:=by
  intro g
  rw [hE];unfold bM;rw [g];rfl
 have hSl:S.length=L.length:=by rw [hS];exact (DK L).length_eq
 obtain ⟨k,hk⟩:∃k,k=L.length:=⟨_,rfl⟩
 obtain ⟨m,hm⟩:∃m,m=jl.length:=⟨_,rfl⟩
 obtain ⟨r,hr⟩:∃r,r=L.map Jb.cells:=⟨_,rfl⟩
 have hkr:k=r.length:=by rw [hr,lgM,hk]
 have hel:m=js.length:=by rw [ek,lgM,hm]
 have hrows:∀r∈js,r.length=12:=by rw [ek];intro r hr;obtain ⟨y,_,rfl⟩:=List.mem_map.1 hr;rfl
 rw [←hk] at hl0 h12
 have Zh:FC 47 [.ow 0 12 k,.fn 48 []] [.row 12 r] (.ret (.eE [])) [.row 12 (t _ fun _=>S.map Jb.cells)]:=by
  have:=RV ht k L.toArray (es:=r) (by rw [hr]) (by rw [hk];simp) h12
  rw [hS,←hk];exact this
 have hkS:k=S.length:=hk.trans hSl.symm
 refine bH ht (aF:=[]) Tryz.func18 rfl rfl (N:=39) rfl rfl (n:=0) rfl rfl ?_
 cbv
 have aX:ns.length=nl.length:=by rw [eV,lgM]
 have aZ:ps.length=pl.length:=by rw [hps,lgM]
 have bc:ts.length=tl.length:=by rw [hts,lgM]
 have aQ:js.length=jl.length:=by rw [ek,lgM]
 have aI:qs.length=ql.length:=by rw [dV,lgM]
 have ap:es.length=el.length:=by rw [aB,lgM]
 have aG:bV.length=al.length:=by rw [has,lgM]
 have HX:r.length=L.length:=by rw [hr,lgM]
 (refine aE trv (ij ht _ rd nx ef af ns ps ts qs es bV ek (by ((try simp only [aa] at*);omega))) (by simp [ht]) rfl rfl rfl (fun r1 dL=>?_);simp only [ht] at dL;rw [←dL] at hL hSe hE0)
 cbv
 refine an (fun h0=>?_) (fun h0=>?_)
 ·simp [ht,aa,aX,aZ,bc,aQ,aI,ap,aG,HX] at h0
  cbv
  refine av trv trv rfl rfl rfl ?_
  (simp only [ht,rM,hE0 (by simp_all)];rfl)
 simp [ht,aa,aX,aZ,bc,aQ,aI,ap,aG,HX] at h0
 cbv
 (refine jV trv (uk ht hrows (by omega) hel) trv rfl (.inr rfl) ?_)
 cbv
 (refine dx [1,2] trv rfl rfl (WQ ht ek (by ((try simp only [aa] at*);omega)) _ _ _ _ _ _ _ _ _ _ _ _ hm (r:=r) (by rw [hr,hL]) hkr hl0) (cz ?_))
 cbv
 (refine dx [2] trv rfl rfl Zh (cz ?_))
 cbv
 refine ⟨?_,?_⟩
 ·(simp [ht,aa,eV,hps,hts,ek,dV,aB,has,hr];omega)
 cbv
 obtain ⟨J1,m8⟩:∃J1:Nat→List (List D)×Int→Prop,∀n u i,J1 n (u,i)↔(∃q:Nat,i=q∧q+n=k∧u=((S.take q).map (·.id)).map Int.cells):=⟨fun n v=>match v with|(u,i)=>(∃q:Nat,i=q∧q+n=k∧u=((S.take q).map (·.id)).map Int.cells),fun _ _ _=>Iff.rfl⟩
 refine bF ⟨[8,26,27,28],[(8,1)],[]⟩ (σ:=List (List D)×Int) (fun v=>[(8,.ow 0 1 (t _ fun _=>(v.1).length)),(28,.d (.int .i64 (t _ fun _=>v.2)))]) (fun v=>[(0,.row 1 (t _ fun _=>v.1))]) J1 ?_
 cbv
 refine aD ⟨k,([],_),(m8 _ _ _).2 ?_,by simp only [ht];rfl,?_⟩
 ·exact ⟨0,rfl,by simp,rfl⟩
 rintro n ⟨u,i⟩ hj
 replace hj:=(m8 _ _ _).1 hj
 obtain ⟨q,rfl,j1,j4⟩:=hj
 cbv
 refine an (fun h2=>?_) (fun h2=>?_)
 ·simp [ht,aa,aX,aZ,bc,aQ,aI,ap,aG,HX] at h2
  cbv
  refine ⟨?_,?_⟩
  ·(simp only [ht,aa] at*;omega)
  cbv
  (refine abv (l:=S) (cells:=Jb.cells) rfl (Jb.aU t) (fun _=>by simp only [Jb.cells,Jb.aU,ht]) q (by ((try simp only [aa] at*);omega)) (by simp only [ht,aa,Int.toNat_natCast]) (fun h=>by simp only [ht,aa,Int.toNat_natCast];exact h) (fun x mx=>?_))
  cbv
  refine ⟨?_,?_⟩
  ·(have h9:=aaw (l:=(S.take q).map (·.id)) (cells:=Int.cells) (u:=u) (row:=[D.int .u64 x.id]) (sz:=1) (b:=8) j4 (fun _=>rfl) rfl (by simp;((try simp only [aa] at*);omega)) (by decide);simp only [ht];first|exact h9|exact ⟨trv,h9.2⟩)
  cbv
  refine bQ (_,_) (by simp only [ht,←List.length_append];rfl) (n-1) ?_ ((m8 _ _ _).2 ?_)
  ·omega
  simp only [ht,aa]
  exact ⟨q+1,aC (by ((try simp only [aa] at*);omega)),by ((try simp only [aa] at*);omega),by rw [j4,dA mx];simp [Int.cells]⟩
 simp [ht,aa,aX,aZ,bc,aQ,aI,ap,aG,HX] at h2
 cbv
 refine av trv (by simp [ht]) rfl rfl rfl ?_
 (rw [List.take_of_length_le (by ((try simp only [aa] at*);omega))] at j4;simp only [ht,rM,hSe ‹_›,j4];done)
theorem RZ (ht:TT t) (rd nx ef af:Int) {nl:List Node} {pl:List Place} {tl:List be} {jl:List Jb} {ql:List bZ} {el al:List dQ} {ns ps ts js qs es bV:List (List D)} (eV:ns=nl.map Node.cells) (hps:ps=pl.map Place.cells) (hts:ts=tl.map be.cells) (ek:js=jl.map Jb.cells) (dV:qs=ql.map bZ.cells) (aB:es=el.map dQ.cells) (has:bV=al.map dQ.cells) (id:Int) (hjl:jl.length<1000000) (h12:∀p,(B4 jl p).length≤12) (hid:sP jl):FC 18 [.agg [aA rd,aA nx,SL ns,SL ps,SL ts,SL js,SL qs,aA ef,SL es,aA af,SL bV],aA id] [] (.ret (rM t (t _ fun _=>bM ⟨rd,nx,⟨nl,pl⟩,tl,jl,ql,⟨ef,el⟩,⟨af,al⟩⟩ id))) []:=by
 rcases Nat.eq_zero_or_pos (B4 jl (bG jl id).1.x.prio).length with h|h
 ·exact RX ht rd nx ef af eV hps hts ek dV aB has id hjl (List.length_eq_zero_iff.1 h)
 exact RY ht rd nx ef af eV hps hts ek dV aB has id hjl rfl h (h12 _) hid
theorem WR (ht:TT t) (rd nx ef af:Int) {nl:List Node} {pl:List Place} {tl:List be} {jl:List Jb} {ql:List bZ} {el al:List dQ} {ns ps ts js qs es bV:List (List D)} (eV:ns=nl.map Node.cells) (hps:ps=pl.map Place.cells) (hts:ts=tl.map be.cells) (ek:js=jl.map Jb.cells) (dV:qs=ql.map bZ.cells) (aB:es=el.map dQ.cells) (has:bV=al.map dQ.cells) (id:Int) {ids:List Int} {ir:List (List D)} (U7:ir=ids.map Int.cells) (hil:ids.length<1000000) (hg:∀k,(aW ⟨rd,nx,⟨nl,pl⟩,tl,jl,ql,⟨ef,el⟩,⟨af,al⟩⟩ (ids.take k)).sm):
 FC 52 [SL ir,.ptr 0 0,.ptr 1 0] [.var [aA rd,aA nx,SL ns,SL ps,SL ts,SL js,SL qs,aA ef,SL es,aA af,SL bV],.var [aA id]] (.ret (ou t (t _ fun _=>fM ⟨rd,nx,⟨nl,pl⟩,tl,jl,ql,⟨ef,el⟩,⟨af,al⟩⟩ id ids))) [.var [aA rd,aA nx,SL ns,SL ps,SL ts,SL js,SL qs,aA ef,SL es,aA af,SL bV],.var [aA id]]:=by
 have nD:(aW ⟨rd,nx,⟨nl,pl⟩,tl,jl,ql,⟨ef,el⟩,⟨af,al⟩⟩ ids).sm:=by have:=hg ids.length;rwa [List.take_length] at this
 obtain ⟨w,hw⟩:∃w,w=aW ⟨rd,nx,⟨nl,pl⟩,tl,jl,ql,⟨ef,el⟩,⟨af,al⟩⟩ ids:=⟨_,rfl⟩
 have he:fM ⟨rd,nx,⟨nl,pl⟩,tl,jl,ql,⟨ef,el⟩,⟨af,al⟩⟩ id ids=dH w id:=by rw [hw];rfl
 rw [he]
 have hW:=KP ht rd nx ef af eV hps hts ek dV aB has U7 hil hg
 rw [←hw] at hW nD
 refine bH ht (aF:=[.var [aA rd,aA nx,SL ns,SL ps,SL ts,SL js,SL qs,aA ef,SL es,aA af,SL bV],.var [aA id]]) Tryz.func52 rfl rfl (N:=13) rfl rfl (n:=2) rfl rfl ?_
 cbv
 have aX:ns.length=nl.length:=by rw [eV,lgM]
 have aZ:ps.length=pl.length:=by rw [hps,lgM]
 have bc:ts.length=tl.length:=by rw [hts,lgM]
 have aQ:js.length=jl.length:=by rw [ek,lgM]
 have aI:qs.length=ql.length:=by rw [dV,lgM]
 have ap:es.length=el.length:=by rw [aB,lgM]
 have aG:bV.length=al.length:=by rw [has,lgM]
 have xj:ir.length=ids.length:=by rw [U7,lgM]
 refine cO [false,false,false,false,true,false,false,true,true] (by kernel_rfl) (by kernel_rfl) ?_
 cbv
 iterate 2 refine gI (by simp [ht,ah]) ?_
 refine .inl ?_
 (refine nv (fun g=>⟨by simp [ht],trv,hW⟩) rfl rfl rfl ?_)
 cbv
 refine gI (by simp [ht,ah]) ?_
 refine aE trv (E1 ht _ _ _ _ (jR ht rfl) (jR ht rfl) (jR ht rfl) (jR ht rfl) (jR ht rfl) (jR ht rfl) (jR ht rfl) (by (simp only [ht];((try simp only [aa] at*);omega))) _) trv rfl rfl rfl (fun r0 cN=>?_)
 simp only [ht] at cN
 cbv
 iterate 2 refine gI (by simp [ht,ah]) ?_
 refine av trv trv rfl rfl rfl ?_
 (simp [ht,ou,dM, *];done)
theorem IC (ht:TT t) {es:List (List D)} (aB:∀r∈es,r.length=1) (hs:es.length*8≤140737488355328) {m:Nat} (hm:m=es.length):
 FC 54 [SL es] [] (.ret (.ow 0 1 m)) [.row 1 es]:=by
 refine bH ht (aF:=[]) Tryz.func54 rfl rfl (N:=8) rfl rfl (n:=0) rfl rfl ?_
 cbv
 refine ⟨fun b hb=>?_⟩
 simp only [ht] at hb
 cbv
 refine an (fun h=>?_) (fun h=>?_)
 ·have he:=hb h
  subst he
  cbv
  exact GO trv rfl rfl (by rw [hm];rfl) rfl
 clear hb h
 cbv
 refine ⟨?_,?_⟩
 ·simp only [ht];simp;exact ⟨hs,aB⟩
 refine Cp trv rfl rfl rfl rfl ?_ ?_
 ·simp only [ht];rw [hm];simp
 simp only [ht];rfl
theorem DL (ht:TT t) {es:List (List D)} (aB:∀r∈es,r.length=1) (hs:es.length*8≤140737488355328):
 FC 54 [SL es] [] (.ret (SL es)) []:=by
 refine bH ht (aF:=[]) Tryz.func54 rfl rfl (N:=8) rfl rfl (n:=0) rfl rfl ?_
 cbv
 refine ⟨fun b hb=>?_⟩
 simp only [ht] at hb
 cbv
 refine an (fun h=>?_) (fun h=>?_)
 ·have he:=hb h
  subst he
  cbv
  exact av trv trv rfl rfl rfl rfl
 clear hb h
 cbv
 refine ⟨?_,?_⟩
 ·simp only [ht];simp;exact ⟨hs,aB⟩
 refine av trv ?_ rfl rfl rfl ?_
 ·simp only [ht];simp
 simp only [ht];rfl
theorem La (ht:TT t) {es:List (List D)} {i m c:Nat} (hm:m=es.length) (hi:i<m) (hc:m≤c) (aB:∀r∈es,r.length=1) (hs:m<1000000) {r:List (List D)} (hr:r=es.take i++es.drop (i+1)):
 FC 55 [.vw 0 1 0 m c true,bI (i:Int),bI ((i+1:Nat):Int)] [.row 1 es] (.ret (SL r)) [.dead]:=by
 obtain ⟨i1,hi1⟩:∃i1,i1=i+1:=⟨_,rfl⟩
 rw [←hi1] at hr ⊢
 refine bH ht (aF:=[.row 1 es]) Tryz.func55 rfl rfl (N:=33) rfl rfl (n:=1) rfl rfl ?_
 cbv
 obtain ⟨mi,ya⟩:∃n,n=m-i:=⟨_,rfl⟩
 obtain ⟨TU,Wk⟩:∃n,n=m-i1:=⟨_,rfl⟩
 obtain ⟨wO,Ka⟩:∃n,n=c-i1:=⟨_,rfl⟩
 refine bL (.vw 0 1 i 1 mi true) [.row 1 es] ?_ ?_ rfl ?_
 ·simp [ht,aa,bO];omega
 ·simp [ht,aa,aY,ya,hi1]
 cbv
 refine nR (by simp [ht,hi1];omega) ?_
 cbv
 refine cO [false,false,false,false,false,false,true,true] (by kernel_rfl) (by kernel_rfl) ?_
 cbv
 refine gI (by simp [ht]) (gI (by simp [ht]) ?_)
 refine ie (.vw 0 1 0 i c true) (fun _=>⟨?_,?_⟩) ?_
 ·simp [ht,aa,dO,bO];omega
 ·simp [ht,aa,aY,aT]
 cbv
 refine gI (by simp [ht]) (gI (by simp [ht]) ?_)
 refine ie (.vw 0 1 i1 TU wO true) (fun _=>⟨?_,?_⟩) ?_
 ·simp [ht,aa,dO,bO];omega
 ·simp [ht,aa,aY,aT,Wk,Ka]
 cbv
 obtain ⟨m1,ZA⟩:∃n,n=m-1:=⟨_,rfl⟩
 obtain ⟨cm1,Wl⟩:∃n,n=c-m1:=⟨_,rfl⟩
 obtain ⟨R1,Rk⟩:∃R,R=wrote es i (es.drop i1):=⟨_,rfl⟩
 have tk:(es.drop i1).take TU=es.drop i1:=List.take_of_length_le (by rw [List.length_drop];omega)
 have dl:(es.drop i1).length=TU:=by rw [List.length_drop];omega
 have wX:R1.length=m:=by rw [Rk];simp [wrote];omega
 have Wm:R1.take m1=r:=by
  rw [Rk,hr]
  unfold wrote
  rw [List.take_append_of_le_length (by simp;omega),List.take_of_length_le (by simp;omega)]
 refine bL (.vw 0 1 0 m1 c true) [.row 1 R1,.bB] ?_ ?_ ?_ ?_
 ·simp only [ht,tk,dl,eO,Nat.zero_add]
  exact ⟨by omega,⟨by omega,fun h=>by rw [h] at hm;simp at hm;omega⟩,by omega,fun r h=>aB r (List.mem_of_mem_drop h)⟩
 ·simp only [ht,tk,dl];rw [show i+TU=m1 by omega]
 ·simp only [ht,tk,Nat.zero_add,Rk]
 cbv
 refine bL (.vw 0 1 m1 1 cm1 true) [.row 1 R1,.bB] ?_ ?_ rfl ?_
 ·simp [ht,aa,dO,bO];omega
 ·simp [ht,aa,aY,aT,Wl];omega
 cbv
 obtain ⟨R2,Rl⟩:∃R,R=wrote R1 m1 (List.replicate 1 [D.int IntKind.u64 0]):=⟨_,rfl⟩
 have YQ:R2.length=m:=by rw [Rl];simp [wrote,wX];omega
 have Wn:R2.take m1=r:=by
  rw [←Wm,Rl]
  unfold wrote
  rw [List.append_assoc,List.take_append_of_le_length (by simp [wX];omega),List.take_take,Nat.min_self]
 refine bL (.eE []) [.row 1 R2,.bB] ?_ rfl ?_ ?_
 ·simp only [ht,eO];exact ⟨by omega,fun h=>by rw [h] at wX;simp at wX;omega⟩
 ·simp only [ht,Rl]
 cbv
 refine yX [true] trv ?_ rfl rfl rfl ?_
 ·simp only [ht];omega
 simp only [ht,List.drop_zero,Wn]
def zb (t:Th) (r:List Int×List aH×Bool):AV:=.eE [SL (t _ fun _=>r.1.map Int.cells),SL (t _ fun _=>r.2.1.map bu),BL r.2.2]
theorem oB {l:List Int} {es:List (List D)} (h:es=l.map Int.cells):∀r∈es,r.length=1:=by rw [h];intro r hr;obtain ⟨y,_,rfl⟩:=List.mem_map.1 hr;rfl
theorem Lb (ht:TT t) {l:List Int} {es:List (List D)} (aB:es=l.map Int.cells) {i m:Nat} (hm:m=l.length) {z z1:Int} (hz:z=i) (hz1:z1=(i:Int)+1) (hi:i<l.length) (hs:l.length<1000000) {r:List (List D)} (hr:r=(l.eraseIdx i).map Int.cells):
 FC 55 [.ow 0 1 m,bI z,bI z1] [.row 1 es] (.ret (SL r)) [.dead]:=by
 have e1:z1=((i+1:Nat):Int):=by omega
 have hel:es.length=l.length:=by rw [aB,lgM]
 subst hz
 rw [e1]
 refine dX (fun c hc hc0=>La ht (es:=es) (i:=i) (by omega) (by omega) hc (oB aB) (by omega) ?_)
 rw [hr,aB,List.eraseIdx_eq_take_drop_succ,List.map_append,List.map_take,List.map_drop]
theorem mC (l:List Int) (k:Nat):iB (l.map Int.cells) none (some (k:Int))=(l.take k).map Int.cells:=by rw [List.map_take];rfl
theorem Lc (ht:TT t) (rd nx ef af:Int) {nl:List Node} {pl:List Place} {tl:List be} {jl:List Jb} {ql:List bZ} {el al:List dQ} {ns ps ts js qs es bV:List (List D)} (eV:ns=nl.map Node.cells) (hps:ps=pl.map Place.cells) (hts:ts=tl.map be.cells) (ek:js=jl.map Jb.cells) (dV:qs=ql.map bZ.cells) (aB:es=el.map dQ.cells) (has:bV=al.map dQ.cells) (id:Int) (Zi:FC 18 [.agg [aA rd,aA nx,SL ns,SL ps,SL ts,SL js,SL qs,aA ef,SL es,aA af,SL bV],aA id] [] (.ret (rM t (t _ fun _=>bM ⟨rd,nx,⟨nl,pl⟩,tl,jl,ql,⟨ef,el⟩,⟨af,al⟩⟩ id))) []) (hal:(bM ⟨rd,nx,⟨nl,pl⟩,tl,jl,ql,⟨ef,el⟩,⟨af,al⟩⟩ id).length<1000) (hg:∀l,(aW ⟨rd,nx,⟨nl,pl⟩,tl,jl,ql,⟨ef,el⟩,⟨af,al⟩⟩ l).sm):
 FC 19 [.agg [aA rd,aA nx,SL ns,SL ps,SL ts,SL js,SL qs,aA ef,SL es,aA af,SL bV],aA id] [] (.ret (zb t (t _ fun _=>aP ⟨rd,nx,⟨nl,pl⟩,tl,jl,ql,⟨ef,el⟩,⟨af,al⟩⟩ id))) []:=by
 obtain ⟨A,hA⟩:∃A,A=bM ⟨rd,nx,⟨nl,pl⟩,tl,jl,ql,⟨ef,el⟩,⟨af,al⟩⟩ id:=⟨_,rfl⟩
 obtain ⟨R,hR⟩:∃R,R=aP ⟨rd,nx,⟨nl,pl⟩,tl,jl,ql,⟨ef,el⟩,⟨af,al⟩⟩ id:=⟨_,rfl⟩
 obtain ⟨F,hF⟩:∃F,F=kV ⟨rd,nx,⟨nl,pl⟩,tl,jl,ql,⟨ef,el⟩,⟨af,al⟩⟩ id A (A.length+1) 0:=⟨_,rfl⟩
 have hRF:(F=none→R=([],[],false))∧∀l nodes,F=some (l,nodes)→R=((gi ⟨rd,nx,⟨nl,pl⟩,tl,jl,ql,⟨ef,el⟩,⟨af,al⟩⟩ id (l.length+1) 0 l nodes).1,(gi ⟨rd,nx,⟨nl,pl⟩,tl,jl,ql,⟨ef,el⟩,⟨af,al⟩⟩ id (l.length+1) 0 l nodes).2,true):=by
  have e:R=RO ⟨rd,nx,⟨nl,pl⟩,tl,jl,ql,⟨ef,el⟩,⟨af,al⟩⟩ id A:=by rw [hR,hA];rfl
  unfold RO at e
  rw [←hF] at e
  exact ⟨fun h=>by rw [h] at e;exact e,fun l nodes h=>by rw [h] at e;exact e⟩
 rw [←hA] at Zi hal
 rw [←hR]
 have hT:∀(u:List Int) (us:List (List D)),us=u.map Int.cells→u.length<1000000→FC 52 [SL us,.ptr 0 0,.ptr 1 0] [.var [aA rd,aA nx,SL ns,SL ps,SL ts,SL js,SL qs,aA ef,SL es,aA af,SL bV],.var [aA id]] (.ret (ou t (t _ fun _=>fM ⟨rd,nx,⟨nl,pl⟩,tl,jl,ql,⟨ef,el⟩,⟨af,al⟩⟩ id u))) [.var [aA rd,aA nx,SL ns,SL ps,SL ts,SL js,SL qs,aA ef,SL es,aA af,SL bV],.var [aA id]]:=
  fun u us h1 h2=>WR ht rd nx ef af eV hps hts ek dV aB has id h1 h2 (fun k=>hg _)
 obtain ⟨T,ZM⟩:∃T:List Int→List aH×Bool,T=fM ⟨rd,nx,⟨nl,pl⟩,tl,jl,ql,⟨ef,el⟩,⟨af,al⟩⟩ id:=⟨_,rfl⟩
 obtain ⟨G,hG⟩:∃G:Nat→Nat→Option (List Int×List aH),G=kV ⟨rd,nx,⟨nl,pl⟩,tl,jl,ql,⟨ef,el⟩,⟨af,al⟩⟩ id A:=⟨_,rfl⟩
 obtain ⟨H,hH⟩:∃H:Nat→Nat→List Int→List aH→List Int×List aH,H=gi ⟨rd,nx,⟨nl,pl⟩,tl,jl,ql,⟨ef,el⟩,⟨af,al⟩⟩ id:=⟨_,rfl⟩
 have hGs:∀n k,G (n+1) k=if (T (A.take k)).2 then some (A.take k,(T (A.take k)).1) else G n (k+1):=by intro n k;rw [hG,ZM];rfl
 have hG0:∀k,G 0 k=none:=by intro k;rw [hG];rfl
 have Zj:∀n k l nodes,H (n+1) k l nodes=if k<l.length then (if (T (l.eraseIdx k)).2 then H n k (l.eraseIdx k) (T (l.eraseIdx k)).1 else H n (k+1) l nodes) else (l,nodes):=by intro n k l nodes;rw [hH,ZM];rfl
 rw [←hG] at hF
 rw [←hH] at hRF
 rw [←ZM] at hT
 clear hG hH ZM hR hA
 refine bH ht (aF:=[]) Tryz.func19 rfl rfl (N:=62) rfl rfl (n:=0) rfl rfl ?_
 cbv
 have hw:IntKind.i64.wrap ((A.length:Int)+1)=(A.length:Int)+1:=wrap64 (by omega) (by omega)
 have aX:ns.length=nl.length:=by rw [eV,lgM]
 have aZ:ps.length=pl.length:=by rw [hps,lgM]
 have bc:ts.length=tl.length:=by rw [hts,lgM]
 have aQ:js.length=jl.length:=by rw [ek,lgM]
 have aI:qs.length=ql.length:=by rw [dV,lgM]
 have ap:es.length=el.length:=by rw [aB,lgM]
 have aG:bV.length=al.length:=by rw [has,lgM]
 (refine aE trv Zi (by simp [ht]) rfl rfl rfl (fun r1 dL=>?_);simp only [ht] at dL;subst r1)
 cbv
 obtain ⟨J0,dR⟩:∃J0:Nat→List (List D)×List (List D)×Bool×Int→Prop,∀m ls nd ok i,J0 m (ls,nd,ok,i)↔(∃k:Nat,i=k∧k+m=A.length+1∧ok=false∧F=G m k):=⟨fun m v=>match v with|(ls,nd,ok,i)=>(∃k:Nat,i=k∧k+m=A.length+1∧ok=false∧F=G m k),fun _ _ _ _ _=>Iff.rfl⟩
 refine bF ⟨[4,5,6,7,8,20,21],[(4,0),(5,0)],[]⟩ (σ:=List (List D)×List (List D)×Bool×Int) (fun v=>[(4,.d (.sl (t _ fun _=>v.1))),(5,.d (.sl (t _ fun _=>v.2.1))),(6,.d (.bool (t _ fun _=>v.2.2.1))),(21,.d (.int .i64 (t _ fun _=>v.2.2.2)))]) (fun v=>[]) J0 ?_
 cbv
 refine aD ⟨A.length+1,(_,_,_,_),(dR _ _ _ _ _).2 ?_,by simp only [ht];rfl,?_⟩
 ·exact ⟨0,rfl,by simp,rfl,hF⟩
 rintro m ⟨ls,nd,ok,i⟩ hj
 replace hj:=(dR _ _ _ _ _).1 hj
 obtain ⟨k,rfl,j1,rfl,j4⟩:=hj
 cbv
 refine an (fun h1=>?_) (fun h1=>?_)
 ·simp [ht,aa,aX,aZ,bc,aQ,aI,ap,aG,hw] at h1
  cbv
  refine ⟨?_,?_⟩
  ·(simp only [ht,bO,lgM];refine ⟨by ((try simp only [aa] at*);omega),?_⟩;exact oB rfl)
  cbv
  (first|(refine GL trv (DL ht (by simp only [ht,mC];exact oB rfl) (by simp only [ht,mC];simp;((try simp only [aa] at*);omega))) (by simp [ht]) rfl rfl rfl ?_)|(obtain ⟨n1,CS⟩:∃n1,n1=L.length:=⟨_,rfl⟩;refine jV trv (IC ht (m:=n1) (by simp only [ht];exact oB i4) (by simp only [ht];rw [i4];simp;((try simp only [aa] at*);omega)) (by simp only [ht];rw [i4];simp [CS])) (by simp [ht]) rfl (.inr rfl) ?_))
  cbv
  (first|(obtain ⟨r,hr⟩:∃r,r=T (A.take k):=⟨_,rfl⟩;have hTk:=hT (A.take k) _ rfl (by simp;((try simp only [aa] at*);omega));rw [←hr] at hTk;rw [show m=(m-1)+1 by ((try simp only [aa] at*);omega),hGs,←hr] at j4;refine dx [0,1] trv rfl rfl (hT (A.take k) _ (by simp only [ht,mC]) (by simp;((try simp only [aa] at*);omega))) (cz ?_);rw [←hr])|(obtain ⟨r,hr⟩:∃r,r=T (L.eraseIdx k2):=⟨_,rfl⟩;refine dx [0,1] trv rfl rfl (hT (L.eraseIdx k2) _ R3 (by rw [List.length_eraseIdx];split<;>((try simp only [aa] at*);omega))) (cz ?_);rw [←hr]))
  cbv
  refine an (fun h2=>?_) (fun h2=>?_)
  ·simp [ht,aa,aX,aZ,bc,aQ,aI,ap,aG,hw] at h2
   cbv
   refine an (fun h3=>?_) (fun h3=>?_)
   ·simp [ht,aa,aX,aZ,bc,aQ,aI,ap,aG,hw] at h3
    cbv
    refine av trv trv rfl rfl rfl ?_
    (simp only [ht,aa,zb,rM,ou];grind)
   simp [ht,aa,aX,aZ,bc,aQ,aI,ap,aG,hw] at h3
   cbv
   obtain ⟨J4,HF⟩:∃J4:Nat→List (List D)×List (List D)×Int→Prop,∀m ls nd i,J4 m (ls,nd,i)↔(∃(k2:Nat) (L:List Int) (N:List aH),i=k2∧L.length=k2+m∧ls=L.map Int.cells∧nd=N.map bu∧L.length≤1000∧R=((H (m+1) k2 L N).1,(H (m+1) k2 L N).2,true)):=⟨fun m v=>match v with|(ls,nd,i)=>(∃(k2:Nat) (L:List Int) (N:List aH),i=k2∧L.length=k2+m∧ls=L.map Int.cells∧nd=N.map bu∧L.length≤1000∧R=((H (m+1) k2 L N).1,(H (m+1) k2 L N).2,true)),fun _ _ _ _=>Iff.rfl⟩
   refine bF ⟨[4,5,7,10],[],[]⟩ (σ:=List (List D)×List (List D)×Int) (fun v=>[(4,.d (.sl (t _ fun _=>v.1))),(5,.d (.sl (t _ fun _=>v.2.1))),(10,.d (.int .i64 (t _ fun _=>v.2.2)))]) (fun v=>[]) J4 ?_
   cbv
   refine aD ⟨(A.take k).length,(_,_,_),(HF _ _ _ _).2 ?_,by simp only [ht];rfl,?_⟩
   ·exact ⟨0,A.take k,r.1,rfl,by simp,by simp only [ht,mC],rfl,by simp;((try simp only [aa] at*);omega),hRF.2 _ _ (by rw [j4,if_pos (by simp_all)])⟩
   rintro m ⟨ls,nd,i⟩ hj
   replace hj:=(HF _ _ _ _).1 hj
   obtain ⟨k2,L,N,rfl,i1,i4,i5,i6,i7⟩:=hj
   have rE:ls.length=L.length:=by rw [i4,lgM]
   have E9:nd.length=N.length:=by rw [i5,lgM]
   cbv
   refine an (fun h5=>?_) (fun h5=>?_)
   ·simp [ht,aa,aX,aZ,bc,aQ,aI,ap,aG,rE,E9,hw] at h5
    cbv
    (first|(refine GL trv (DL ht (by simp only [ht,mC];exact oB rfl) (by simp only [ht,mC];simp;((try simp only [aa] at*);omega))) (by simp [ht]) rfl rfl rfl ?_)|(obtain ⟨n1,CS⟩:∃n1,n1=L.length:=⟨_,rfl⟩;refine jV trv (IC ht (m:=n1) (by simp only [ht];exact oB i4) (by simp only [ht];rw [i4];simp;((try simp only [aa] at*);omega)) (by simp only [ht];rw [i4];simp [CS])) (by simp [ht]) rfl (.inr rfl) ?_))
    cbv
    (obtain ⟨rd2,R3⟩:∃r,r=(L.eraseIdx k2).map Int.cells:=⟨_,rfl⟩;refine dx [2] trv rfl rfl (Lb ht (l:=L) (i:=k2) (by simp only [ht];exact i4) CS (by simp only [ht]) (by simp only [ht];exact aC (by ((try simp only [aa] at*);omega))) (by ((try simp only [aa] at*);omega)) (by ((try simp only [aa] at*);omega)) R3) (cz ?_))
    cbv
    (first|(obtain ⟨r,hr⟩:∃r,r=T (A.take k):=⟨_,rfl⟩;have hTk:=hT (A.take k) _ rfl (by simp;((try simp only [aa] at*);omega));rw [←hr] at hTk;rw [show m=(m-1)+1 by ((try simp only [aa] at*);omega),hGs,←hr] at j4;refine dx [0,1] trv rfl rfl (hT (A.take k) _ (by simp only [ht,mC]) (by simp;((try simp only [aa] at*);omega))) (cz ?_);rw [←hr])|(obtain ⟨r,hr⟩:∃r,r=T (L.eraseIdx k2):=⟨_,rfl⟩;refine dx [0,1] trv rfl rfl (hT (L.eraseIdx k2) _ R3 (by rw [List.length_eraseIdx];split<;>((try simp only [aa] at*);omega))) (cz ?_);rw [←hr]))
    cbv
    refine an (fun h6=>?_) (fun h6=>?_)
    ·simp [ht,aa,aX,aZ,bc,aQ,aI,ap,aG,rE,E9,hw] at h6
     cbv
     refine bQ (_,_,_) (by simp only [ht];rfl) (m-1) ?_ ((HF _ _ _ _).2 ?_)
     ·omega
     simp only [ht,aa]
     first|exact ⟨k2+1,L,N,aC (by ((try simp only [aa] at*);omega)),by ((try simp only [aa] at*);omega),i4,i5,i6,(by have e:m-1+1=m:=(by ((try simp only [aa] at*);omega));rw [e,i7,Zj,if_pos (by ((try simp only [aa] at*);omega)),←hr,if_neg (by simp_all)])⟩|exact ⟨k2,L.eraseIdx k2,r.1,rfl,by rw [List.length_eraseIdx];split<;>((try simp only [aa] at*);omega),R3,rfl,by rw [List.length_eraseIdx];split<;>((try simp only [aa] at*);omega),(by have e:m-1+1=m:=(by ((try simp only [aa] at*);omega));rw [e,i7,Zj,if_pos (by ((try simp only [aa] at*);omega)),←hr,if_pos (by simp_all)])⟩
    simp [ht,aa,aX,aZ,bc,aQ,aI,ap,aG,rE,E9,hw] at h6
    cbv
    refine bQ (_,_,_) (by simp only [ht];rfl) (m-1) ?_ ((HF _ _ _ _).2 ?_)
    ·omega
    simp only [ht,aa]
    first|exact ⟨k2+1,L,N,aC (by ((try simp only [aa] at*);omega)),by ((try simp only [aa] at*);omega),i4,i5,i6,(by have e:m-1+1=m:=(by ((try simp only [aa] at*);omega));rw [e,i7,Zj,if_pos (by ((try simp only [aa] at*);omega)),←hr,if_neg (by simp_all)])⟩|exact ⟨k2,L.eraseIdx k2,r.1,rfl,by rw [List.length_eraseIdx];split<;>((try simp only [aa] at*);omega),R3,rfl,by rw [List.length_eraseIdx];split<;>((try simp only [aa] at*);omega),(by have e:m-1+1=m:=(by ((try simp only [aa] at*);omega));rw [e,i7,Zj,if_pos (by ((try simp only [aa] at*);omega)),←hr,if_pos (by simp_all)])⟩
   simp [ht,aa,aX,aZ,bc,aQ,aI,ap,aG,rE,E9,hw] at h5
   cbv
   refine av trv trv rfl rfl rfl ?_
   (have e:R=(L,N,true):=(by rw [i7,show m=0 by ((try simp only [aa] at*);omega),Zj,if_neg (by ((try simp only [aa] at*);omega))]);simp [ht,e,i4,i5];done)
  cbv
  refine bQ (_,_,_,_) (by simp only [ht];rfl) (m-1) ?_ ((dR _ _ _ _ _).2 ?_)
  ·((try simp only [aa] at*);omega)
  simp only [ht,aa]
  exact ⟨k+1,aC (by ((try simp only [aa] at*);omega)),by ((try simp only [aa] at*);omega),by simp_all,by rw [j4,if_neg (by simp_all)]⟩
 cbv
 refine an (fun h7=>?_) (fun h7=>?_)
 ·cbv
  refine av trv trv rfl rfl rfl ?_
  (have hm0:m=0:=(by first|((try simp only [aa] at*);omega)|(simp [ht,aa,hw] at h1;((try simp only [aa] at*);omega)));subst hm0;have e:=hRF.1 (j4.trans (hG0 _));simp [ht,e];done)
 (exact absurd h7 (by simp [ht]))
theorem ID {s:bE} (h:s.good) (p:Int):(B4 s.ay p).length≤12:=T6 h _ (fun j hj=>by simp only [Bool.and_eq_true] at hj;exact hj.1)
theorem pR {s:bE} (h:s.good) (id:Int):(bM s id).length<1000:=by
 unfold bM
 split
 ·simp
 rw [lgM,List.length_mergeSort]
 have:=ID h (bG s.ay id).1.x.prio
 unfold B4 at this;omega
theorem gV (ht:TT t) (s:bE) (h:s.good) (id:Int):FC 20 [dM t s,aA id] [] (.ret (ou t (t _ fun _=>dH s id))) []:=
 E1 ht _ _ _ _ (by simp only [ht]) (by simp only [ht]) (by simp only [ht]) (by simp only [ht]) (by simp only [ht]) (by simp only [ht]) (by simp only [ht]) h.sm id
theorem vU (ht:TT t) (s:bE) (h:s.good) (id:Int):FC 23 [dM t s,aA id] [] (.ret (bX (t _ fun _=>jL s id))) []:=
 Oj ht _ _ _ _ (by simp only [ht]) (by simp only [ht]) (by simp only [ht]) (by simp only [ht]) (by simp only [ht]) (by simp only [ht]) (by simp only [ht]) h.sm id
theorem rN (ht:TT t) (s:bE) (h:s.good) (id:Int):FC 18 [dM t s,aA id] [] (.ret (rM t (t _ fun _=>bM s id))) []:=
 RZ ht _ _ _ _ (by simp only [ht]) (by simp only [ht]) (by simp only [ht]) (by simp only [ht]) (by simp only [ht]) (by simp only [ht]) (by simp only [ht]) id h.sm.ay.1 (ID h) h.ok.ids
theorem mD (ht:TT t) (s:bE) (h:s.good) (id:Int):FC 19 [dM t s,aA id] [] (.ret (zb t (t _ fun _=>aP s id))) []:=
 Lc ht _ _ _ _ (by simp only [ht]) (by simp only [ht]) (by simp only [ht]) (by simp only [ht]) (by simp only [ht]) (by simp only [ht]) (by simp only [ht]) id (rN ht s h id) (pR h id) (fun l=>(lG h l).sm)
theorem Ur (ht:TT t) (s:bE) (h:s.good) (id kd:Int):FC 39 [dM t s,aA id,bI kd] [] (.ret (ng t (t _ fun _=>eZ s id kd))) []:=
 zC ht _ _ _ _ (by simp only [ht]) (by simp only [ht]) (by simp only [ht]) (by simp only [ht]) (by simp only [ht]) (by simp only [ht]) (by simp only [ht]) id kd (ur h.sm) h.sm.tree.1 h.sm.ay.1 h.sm.places h.sm.queue h.sm.notes.1
theorem pS (ht:TT t) (s:bE) (h:s.good) (k:Nat) {kk:Int} (hk:kk=k) (hk2:k<256):FC 16 [dM t s,U8 kk] [] (.ret (vt (t _ fun _=>gL s k))) []:=
 K5 ht _ _ _ _ (by simp only [ht]) (by simp only [ht]) (by simp only [ht]) (by simp only [ht]) (by simp only [ht]) (by simp only [ht]) (by simp only [ht]) k hk hk2 h.sm.queue
theorem B5 (ht:TT t) {l m:List Int} {es fs:List (List D)} (aB:es=l.map Int.cells) (U5:fs=m.map Int.cells) (hl:l.length<1000000000) (hm:m.length<1000000000):
 FC 40 [SL es,SL fs] [] (.ret (bX (t _ fun _=>decide (l=m)))) []:=by
 refine bH ht (aF:=[]) Tryz.func40 rfl rfl (N:=26) rfl rfl (n:=0) rfl rfl ?_
 cbv
 have ap:es.length=l.length:=by rw [aB,lgM]
 have gw:fs.length=m.length:=by rw [U5,lgM]
 refine an (fun h0=>?_) (fun h0=>?_)
 ·simp [ht,aa,ap,gw] at h0
  cbv
  refine av trv trv rfl rfl rfl ?_
  (simp [ht];rintro rfl;simp_all;done)
 simp [ht,aa,ap,gw] at h0
 cbv
 obtain ⟨J1,m8⟩:∃J1:Nat→Int→Prop,∀n i,J1 n i↔(∃k:Nat,i=k∧k+n=l.length∧l.length=m.length∧decide (l=m)=decide (l.drop k=m.drop k)):=⟨fun n v=>match v with|i=>(∃k:Nat,i=k∧k+n=l.length∧l.length=m.length∧decide (l=m)=decide (l.drop k=m.drop k)),fun _ _=>Iff.rfl⟩
 refine bF ⟨[0,1,5],[],[]⟩ (σ:=Int) (fun v=>[(5,.d (.int .i64 (t _ fun _=>v)))]) (fun v=>[]) J1 ?_
 cbv
 refine aD ⟨l.length,_,(m8 _ _).2 ?_,by simp only [ht];rfl,?_⟩
 ·exact ⟨0,rfl,by simp,by ((try simp only [aa] at*);omega),by simp⟩
 rintro n i hj
 replace hj:=(m8 _ _).1 hj
 obtain ⟨k,rfl,j1,j2,j4⟩:=hj
 cbv
 refine an (fun h2=>?_) (fun h2=>?_)
 ·simp [ht,aa,ap,gw] at h2
  cbv
  refine cO [false,false,false,false,false,false,false,false,true] (by kernel_rfl) (by kernel_rfl) ?_
  cbv
  iterate 2 refine gI (by simp [ht,ah]) ?_
  refine fP ht aB (cT:=Int.aU t) (by (simp only [ht,aa];omega)) (by (simp only [ht,aa];omega)) (fun _=>rfl) (fun _=>rfl) (fun x3 IW=>?_)
  simp [ht,aa] at IW
  rw [dU IW] at j4
  cbv
  iterate 3 refine gI (by simp [ht,ah]) ?_
  refine fP ht U5 (cT:=Int.aU t) (by (simp only [ht,aa];omega)) (by (simp only [ht,aa];omega)) (fun _=>rfl) (fun _=>rfl) (fun x4 Dx=>?_)
  simp [ht,aa] at Dx
  rw [dU Dx] at j4
  cbv
  refine gI (by simp [ht,ah]) ?_
  refine an (fun h5=>?_) (fun h5=>?_)
  ·simp [ht,aa,ap,gw] at h5
   cbv
   refine av trv trv rfl rfl rfl ?_
   (simp [ht];rintro rfl;simp_all;done)
  simp [ht,aa,ap,gw] at h5
  cbv
  refine bQ _ (by simp only [ht];rfl) (n-1) ?_ ((m8 _ _).2 ?_)
  ·omega
  simp only [ht,aa]
  refine ⟨k+1,aC (by omega),by omega,by omega,?_⟩
  (simp [ht,bX, *];done)
 simp [ht,aa,ap,gw] at h2
 cbv
 refine av trv trv rfl rfl rfl ?_
 (simp [ht,j4,List.drop_eq_nil_of_le (show l.length≤k by omega),List.drop_eq_nil_of_le (show m.length≤k by omega)];done)
theorem pT (ht:TT t):FC 14 [] [] (.ret (BL true)) []:=by
 obtain ⟨S,hS⟩:∃S,S=xA 5:=⟨_,rfl⟩
 obtain ⟨S0,ZN⟩:∃S0,S0=M9:=⟨_,rfl⟩
 obtain ⟨S1,Zk⟩:∃S1,S1=(eZ S 1 5).1:=⟨_,rfl⟩
 have gS:S.good:=by rw [hS];exact Ou 5
 have gZ:S0.good:=by rw [ZN];exact Ov
 have gT:S1.good:=by rw [Zk];exact xe gS 1 5
 have f1:(dH S 2).2=false:=by rw [hS];exact xe1
 have f2:jL S 2=true:=by rw [hS];exact xe2
 have f3:jL S 1=false:=by rw [hS];exact xe3
 have f4:bM S 2=[1]:=by rw [hS];exact xe4
 have f5:bM S 1=[]:=by rw [hS];exact xe5
 have f6:aP S 2=([1],[[110,49]],true):=by rw [hS];exact xe6
 have f7:aP S0 1=([],[],false):=by rw [ZN];exact xe7
 have f8:eZ S 1 5=(S1,0):=by rw [Prod.ext_iff];exact ⟨Zk.symm,by rw [hS];exact xe8⟩
 have f9:dH S1 2=([[110,49]],true):=by rw [Zk,hS];exact xe9
 have f10:(dH S1 1).2=true:=by rw [Zk,hS];exact abq
 have c2:FC 37 [] [] (.ret (dM t (t _ fun _=>S))) []:=by rw [hS];exact WK ht
 have cn:FC 38 [] [] (.ret (dM t (t _ fun _=>S0))) []:=by rw [ZN];exact Mg ht
 have cs:FC 39 [dM t S,aA 1,bI 5] [] (.ret (ng t (t _ fun _=>(S1,0)))) []:=by rw [←f8];exact Ur ht S gS 1 5
 have cv:FC 19 [dM t S,aA 2] [] (.ret (zb t (t _ fun _=>([1],[[110,49]],true)))) []:=by rw [←f6];exact mD ht S gS 2
 have cv0:FC 19 [dM t S0,aA 1] [] (.ret (zb t (t _ fun _=>([],[],false)))) []:=by rw [←f7];exact mD ht S0 gZ 1
 clear hS ZN Zk
 refine bH ht (aF:=[]) Tryz.func14 rfl rfl (N:=104) rfl rfl (n:=0) rfl rfl ?_
 cbv
 (refine aE trv c2 trv rfl rfl rfl (fun r0 cN=>?_);simp only [ht] at cN;subst r0)
 cbv
 ((refine aE trv (gV ht S gS 2) (by simp [ht]) rfl rfl rfl (fun q1 MB=>?_);simp only [ht] at MB;replace f1:q1.2=false:=(by rw [MB];exact f1)))
 cbv
 ((refine aE trv cv (by simp [ht]) rfl rfl rfl (fun r0 cN=>?_);simp only [ht] at cN;subst r0))
 cbv
 (refine aE trv cn trv rfl rfl rfl (fun r0 cN=>?_);simp only [ht] at cN;subst r0)
 cbv
 ((refine aE trv cv0 (by simp [ht]) rfl rfl rfl (fun r0 cN=>?_);simp only [ht] at cN;subst r0))
 cbv
 (refine aE trv cs (by simp [ht]) rfl rfl rfl (fun r0 cN=>?_);simp only [ht] at cN;subst r0)
 cbv
 ((refine aE trv (gV ht S1 gT 2) (by simp [ht]) rfl rfl rfl (fun q2 Sf=>?_);simp only [ht,f9] at Sf;subst q2))
 cbv
 ((refine aE trv (gV ht S1 gT 1) (by simp [ht]) rfl rfl rfl (fun q3 Ld=>?_);simp only [ht] at Ld;replace f10:q3.2=true:=(by rw [Ld];exact f10)))
 cbv
 refine gI (by simp [ht,ah]) ?_
 ((refine bJ (fun g9=>⟨(by trivial),by simp [ht],vU ht S gS 2⟩) rfl rfl (fun q4 DM=>?_);simp only [ht] at DM;rw [f2] at DM;subst q4))
 cbv
 refine pI (by simp [ht,ah]) ?_
 refine gI (by simp [ht,ah]) ?_
 ((refine bJ (fun g9=>⟨(by trivial),by simp [ht],vU ht S gS 1⟩) rfl rfl (fun q5 yT=>?_);simp only [ht] at yT;rw [f3] at yT;subst q5))
 cbv
 refine gI (by simp [ht,ah]) ?_
 refine pI (by simp [ht,ah]) ?_
 refine gI (by simp [ht,ah]) ?_
 ((refine dy (fun g9=>⟨(by trivial),by simp [ht],rN ht S gS 2⟩) rfl rfl rfl (fun q6 IE=>?_);simp only [ht] at IE;rw [f4] at IE;subst q6))
 cbv
 refine gI (by simp [ht,ah]) ?_
 (refine bJ (fun g9=>⟨(by trivial),by simp [ht],B5 ht (l:=[1]) (m:=[1]) (by simp only [ht]) (by rfl) (by simp) (by simp)⟩) rfl rfl (fun q8 WS=>?_);simp only [ht,decide_true] at WS;subst q8)
 cbv
 refine pI (by simp [ht,ah]) ?_
 refine gI (by simp [ht,ah]) ?_
 ((refine dy (fun g9=>⟨(by trivial),by simp [ht],rN ht S gS 1⟩) rfl rfl rfl (fun q7 Xs=>?_);simp only [ht] at Xs;rw [f5] at Xs;subst q7))
 cbv
 iterate 2 refine gI (by simp [ht,ah]) ?_
 refine pI (by simp [ht,ah]) ?_
 refine gI (by simp [ht,ah]) ?_
 refine pI (by simp [ht,ah]) ?_
 iterate 2 refine gI (by simp [ht,ah]) ?_
 (refine bJ (fun g9=>⟨(by trivial),by simp [ht],B5 ht (l:=[1]) (m:=[1]) (by simp only [ht]) (by rfl) (by simp) (by simp)⟩) rfl rfl (fun q8 WS=>?_);simp only [ht,decide_true] at WS;subst q8)
 cbv
 refine pI (by simp [ht,ah]) ?_
 iterate 2 refine gI (by simp [ht,ah]) ?_
 (refine bJ (fun g9=>⟨(by trivial),by simp [ht],HP ht (l:=[[110,49]]) (m:=[[110,49]]) (by simp only [ht]) (by rfl) (by simp) (by simp)⟩) rfl rfl (fun q9 eq9=>?_);simp only [ht,decide_true] at eq9;subst q9)
 cbv
 refine pI (by simp [ht,ah]) ?_
 iterate 2 refine gI (by simp [ht,ah]) ?_
 refine pI (by simp [ht,ah]) ?_
 iterate 2 refine gI (by simp [ht,ah]) ?_
 refine pI (by simp [ht,ah]) ?_
 refine gI (by simp [ht,ah]) ?_
 refine pI (by simp [ht,ah]) ?_
 iterate 2 refine gI (by simp [ht,ah]) ?_
 (refine bJ (fun g9=>⟨(by trivial),by simp [ht],HP ht (l:=[[110,49]]) (m:=[[110,49]]) (by simp only [ht]) (by simp only [ht]) (by simp) (by simp)⟩) rfl rfl (fun q9 eq9=>?_);simp only [ht,decide_true] at eq9;subst q9)
 cbv
 refine pI (by simp [ht,ah]) ?_
 refine gI (by simp [ht,ah]) ?_
 refine pI (by simp [ht,ah]) ?_
 refine av trv trv rfl rfl rfl ?_
 (simp [ht,f1,f10];done)
end Dem
end
