/- Parts of a proof, joined. -/
import Derived.Test.YtihohjnkkalgiaaGreatDoorQ17
set_option linter.all false
set_option maxRecDepth 100000
set_option maxHeartbeats 4000000
section
open Go Dem Go.Proofs
namespace Dem
variable {t:Th}
theorem P2 (ht:TT t) (m x y:Int) (hx:0≤x∧x<18446744073709551616) (hm:0≤m∧m<18446744073709551616) {r:Int} {ok:Bool} (h:(r,ok)=Mp x m):
 FC 168 [aD x,aD y,.ptr 0 0] [.var [aD m]] (.ret (.dX [aD r,BL ok])) [.var [aD m]]:=by
 refine bP ht (aV:=[.var [aD m]]) Tryz.func168 rfl rfl (N:=12) rfl rfl (n:=1) rfl rfl ?_
 cbv
 refine gM trv (MO ht x m hx hm h) trv rfl rfl ?_
 cbv
 exact aA trv trv rfl rfl rfl rfl
theorem SM (ht:TT t) (m:Int) (a0 a1 a2 a3 b0 b1 b2 b3:Int) (op:Int→Int→Int×Bool) (F:Nat) (hop:∀(x y r:Int) (ok:Bool),(r,ok)=op x y→0≤x∧x<18446744073709551616→FC F [.d (.int .u64 x),.d (.int .u64 y),.ptr 0 0] [.var [aD m]] (.ret (.dX [.d (.int .u64 r),.d (.bool ok)])) [.var [aD m]])
 (u0:0≤a0∧a0<18446744073709551616) (u1:0≤a1∧a1<18446744073709551616) (u2:0≤a2∧a2<18446744073709551616) (u3:0≤a3∧a3<18446744073709551616)
 {r0 r1 r2 r3:Int} {ok:Bool} (h:(⟨r0,r1,r2,r3⟩,ok)=both op ⟨a0,a1,a2,a3⟩ ⟨b0,b1,b2,b3⟩):
 FC 167 [.agg [.d (.int .u64 a0),.d (.int .u64 a1),.d (.int .u64 a2),.d (.int .u64 a3)],.agg [.d (.int .u64 b0),.d (.int .u64 b1),.d (.int .u64 b2),.d (.int .u64 b3)],.fn F [.ptr 0 0]] [.var [aD m]]
  (.ret (.dX [.agg [.d (.int .u64 r0),.d (.int .u64 r1),.d (.int .u64 r2),.d (.int .u64 r3)],.d (.bool ok)])) [.var [aD m]]:=by
 obtain ⟨⟨s0,k0⟩,e0⟩:∃s,s=op a0 b0:=⟨_,rfl⟩
 obtain ⟨⟨s1,k1⟩,e1⟩:∃s,s=op a1 b1:=⟨_,rfl⟩
 obtain ⟨⟨s2,k2⟩,e2⟩:∃s,s=op a2 b2:=⟨_,rfl⟩
 obtain ⟨⟨s3,k3⟩,e3⟩:∃s,s=op a3 b3:=⟨_,rfl⟩
 have h0:(k0&&k1&&k2&&k3)=false→r0=0∧r1=0∧r2=0∧r3=0∧ok=false:=by
  intro hk;simp only [both,←e0,←e1,←e2,←e3] at h;rw [if_neg (by rw [hk];simp)] at h;cases h;exact ⟨rfl,rfl,rfl,rfl,rfl⟩
 have h1:(k0&&k1&&k2&&k3)=true→r0=s0∧r1=s1∧r2=s2∧r3=s3∧ok=true:=by
  intro hk;simp only [both,←e0,←e1,←e2,←e3] at h;rw [if_pos hk] at h;cases h;exact ⟨rfl,rfl,rfl,rfl,rfl⟩
 clear h
 have fin:∀{B:List aB},(k0&&k1&&k2&&k3)=false→Gl 1 True (AV.dX [.agg [.d (.int .u64 0),.d (.int .u64 0),.d (.int .u64 0),.d (.int .u64 0)],.d (.bool false)]) (.var [aD m]::B) (some (True,AV.dX [.agg [.d (.int .u64 0),.d (.int .u64 0),.d (.int .u64 0),.d (.int .u64 0)],.d (.bool false)]))
  (.ret (.dX [.agg [.d (.int .u64 r0),.d (.int .u64 r1),.d (.int .u64 r2),.d (.int .u64 r3)],.d (.bool ok)])) [.var [aD m]]:=by
  intro bx hk
  obtain ⟨rfl,rfl,rfl,rfl,rfl⟩:=h0 hk
  exact aA trv trv rfl rfl rfl rfl
 refine bP ht (aV:=[.var [aD m]]) Tryz.func167 rfl rfl (N:=34) rfl rfl (n:=1) rfl rfl ?_
 cbv
 refine bM ⟨[2,3,4,6,12,13],[],[]⟩ (σ:=Nat) (fun j=>[(13,.d (.int .i64 j))]) (fun j=>[(1,.var [.d (.int .u64 (bif Nat.blt 0 j then s0 else a0)),.d (.int .u64 (bif Nat.blt 1 j then s1 else a1)),.d (.int .u64 (bif Nat.blt 2 j then s2 else a2)),.d (.int .u64 (bif Nat.blt 3 j then s3 else a3))])])
  (fun n j=>n+j=4∧(0<j→k0=true)∧(1<j→k1=true)∧(2<j→k2=true)∧(3<j→k3=true)) ?_
 cbv
 refine aJ ⟨4,0,⟨rfl,by omega,by omega,by omega,by omega⟩,rfl,?_⟩
 rintro n j ⟨hn,g0,g1,g2,g3⟩
 have hj:j=0∨j=1∨j=2∨j=3∨j=4:=by omega
 rcases hj with rfl|rfl|rfl|rfl|rfl
 ·cbv
  refine kH (by simp [ht]) ?_
  cbv
  refine ⟨by simp [ht],by simp [ht],dz [0] trv rfl rfl (hop _ _ _ _ e0 u0) (cz ?_)⟩
  cbv
  refine ap (fun hc=>?_) (fun hc=>?_)
  ·simp only [ht,Bool.not_eq_true'] at hc
   cbv
   exact fin (by simp [hc])
  simp only [ht,Bool.not_eq_false'] at hc
  cbv
  refine ⟨by simp [ht],?_⟩
  refine aJ ⟨3-0,0+1,⟨⟨by omega,by omega,by simp_all,by simp_all,by simp_all,by simp_all⟩,?_⟩⟩
  simp only [ht];rfl
 ·cbv
  refine kH (by simp [ht]) ?_
  cbv
  refine ⟨by simp [ht],by simp [ht],dz [0] trv rfl rfl (hop _ _ _ _ e1 u1) (cz ?_)⟩
  cbv
  refine ap (fun hc=>?_) (fun hc=>?_)
  ·simp only [ht,Bool.not_eq_true'] at hc
   cbv
   exact fin (by simp [hc])
  simp only [ht,Bool.not_eq_false'] at hc
  cbv
  refine ⟨by simp [ht],?_⟩
  refine aJ ⟨3-1,1+1,⟨⟨by omega,by omega,by simp_all,by simp_all,by simp_all,by simp_all⟩,?_⟩⟩
  simp only [ht];rfl
 ·cbv
  refine kH (by simp [ht]) ?_
  cbv
  refine ⟨by simp [ht],by simp [ht],dz [0] trv rfl rfl (hop _ _ _ _ e2 u2) (cz ?_)⟩
  cbv
  refine ap (fun hc=>?_) (fun hc=>?_)
  ·simp only [ht,Bool.not_eq_true'] at hc
   cbv
   exact fin (by simp [hc])
  simp only [ht,Bool.not_eq_false'] at hc
  cbv
  refine ⟨by simp [ht],?_⟩
  refine aJ ⟨3-2,2+1,⟨⟨by omega,by omega,by simp_all,by simp_all,by simp_all,by simp_all⟩,?_⟩⟩
  simp only [ht];rfl
 ·cbv
  refine kH (by simp [ht]) ?_
  cbv
  refine ⟨by simp [ht],by simp [ht],dz [0] trv rfl rfl (hop _ _ _ _ e3 u3) (cz ?_)⟩
  cbv
  refine ap (fun hc=>?_) (fun hc=>?_)
  ·simp only [ht,Bool.not_eq_true'] at hc
   cbv
   exact fin (by simp [hc])
  simp only [ht,Bool.not_eq_false'] at hc
  cbv
  refine ⟨by simp [ht],?_⟩
  refine aJ ⟨3-3,3+1,⟨⟨by omega,by omega,by simp_all,by simp_all,by simp_all,by simp_all⟩,?_⟩⟩
  simp only [ht];rfl
 cbv
 refine nJ (by simp [ht]) ?_
 cbv
 obtain ⟨rfl,rfl,rfl,rfl,rfl⟩:=h1 (by simp [g0,g1,g2,g3])
 exact aA trv trv rfl rfl rfl rfl
theorem MP (ht:TT t) (a0 a1 a2 a3 n:Int) (hu:(⟨a0,a1,a2,a3⟩:bO).u') (hn:0≤n∧n<18446744073709551616):
 FC 117 [V4 a0 a1 a2 a3,aD n] [] (.ret (Xs (t _ fun _=>I8 ⟨a0,a1,a2,a3⟩ n))) []:=by
 obtain ⟨⟨⟨r0,r1,r2,r3⟩,ok⟩,h⟩:∃r,r=I8 ⟨a0,a1,a2,a3⟩ n:=⟨_,rfl⟩
 rw [←h]
 obtain ⟨u0,u1,u2,u3⟩:=hu
 refine bP ht (aV:=[]) Tryz.func117 rfl rfl (N:=12) rfl rfl (n:=0) rfl rfl ?_
 cbv
 refine dz [1] trv rfl rfl (SM ht n a0 a1 a2 a3 0 0 0 0 (fun x _=>Mp x n) 168 (fun x y r ok e hx=>P2 ht n x y hx hn e) u0 u1 u2 u3 h) (cz ?_)
 cbv
 refine aA trv trv rfl rfl rfl ?_
 simp only [ht]
def Ask.sm (x:Ask):Prop:=x.path.length<1000000000000∧x.gu.u'∧x.ct.length<1000000000∧∀m∈x.ct,m.sm
theorem rH (ht:TT t) (p:aQ) (a b c d n pr tk:Int) {sl:List Term} (sr:List (List D)) (hu:(⟨a,b,c,d⟩:bO).u'):
 FC 77 [.agg [ST p,aD a,aD b,aD c,aD d,bJ n,bJ pr,bJ tk,SL sr]] [] (.ret (Xs (t _ fun _=>cU ⟨p,⟨a,b,c,d⟩,n,pr,tk,sl⟩))) []:=by
 refine bP ht (aV:=[]) Tryz.func77 rfl rfl (N:=12) rfl rfl (n:=0) rfl rfl ?_
 cbv
 (refine bq trv (MP ht a b c d _ hu (by simp only [ht];rw [oI];omega)) trv rfl rfl (fun r9 jP=>?_);simp only [ht,oI] at jP)
 cbv
 refine aA trv trv rfl rfl rfl ?_
 (simp [cU, *];done)
theorem JE (ht:TT t) (n a b:Int):FC 176 [bJ n,bJ a,bJ b] [] (.ret (dn (t _ fun _=>Ri n a b))) []:=by
 refine bP ht (aV:=[]) Tryz.func176 rfl rfl (N:=15) rfl rfl (n:=0) rfl rfl ?_
 cbv
 iterate 3 refine gI (by simp [ht]) ?_
 refine pI (by simp [ht]) ?_
 refine aA trv trv rfl rfl rfl ?_
 (simp [ht,Ri];done)
theorem CV (ht:TT t) (p:aQ) (a b c d n pr tk:Int) {sl:List Term} {sr:List (List D)} (hsr:sr=sl.map Term.cells) (wq:(⟨p,⟨a,b,c,d⟩,n,pr,tk,sl⟩:Ask).sm):
 FC 132 [.agg [ST p,aD a,aD b,aD c,aD d,bJ n,bJ pr,bJ tk,SL sr]] [] (.ret (gE (t _ fun _=>eO ⟨p,⟨a,b,c,d⟩,n,pr,tk,sl⟩))) []:=by
 obtain ⟨h1,h2,h3,h4⟩:=wq
 simp only at h1 h2 h3 h4
 refine bP ht (aV:=[]) Tryz.func132 rfl rfl (N:=46) rfl rfl (n:=0) rfl rfl ?_
 cbv
 have ZG:sr.length=sl.length:=by rw [hsr,lgM]
 (refine bq trv (rH ht p a b c d n pr tk (sl:=sl) sr h2) trv rfl rfl (fun r9 jP=>?_);simp only [ht] at jP)
 cbv
 refine bq trv (He ht _ _ ‹_›) trv rfl rfl (fun r0 c7=>?_)
 simp only [ht] at c7
 cbv
 refine ap (fun h1=>?_) (fun h1=>?_)
 ·simp [ht] at h1
  cbv
  refine aA trv trv rfl rfl rfl ?_
  (simp only [ht,eO];grind)
 simp [ht] at h1
 cbv
 refine bq trv (JE ht _ _ _) trv rfl rfl (fun r2 gS=>?_)
 simp only [ht] at gS
 cbv
 iterate 3 refine gI (by simp [ht]) ?_
 refine eT (fun g3=>⟨by simp [ht] at g3 ⊢;exact g3,trv,JE ht _ _ _⟩) rfl rfl (fun r4 kw=>?_)
 simp only [ht] at kw
 cbv
 refine gI (by simp [ht]) ?_
 refine pI (by simp [ht]) ?_
 iterate 3 refine gI (by simp [ht]) ?_
 refine eT (fun g5=>⟨by simp [ht] at g5 ⊢;exact g5,trv,JE ht _ _ _⟩) rfl rfl (fun r6 nu=>?_)
 simp only [ht] at nu
 cbv
 refine gI (by simp [ht]) ?_
 refine pI (by simp [ht]) ?_
 refine ap (fun h7=>?_) (fun h7=>?_)
 ·simp [ht] at h7
  cbv
  refine aA trv trv rfl rfl rfl ?_
  (simp only [ht,eO];grind)
 simp [ht] at h7
 cbv
 refine bq trv (ML ht ‹_› ‹_› ‹_›) trv rfl rfl (fun r8 V6=>?_)
 simp only [ht] at V6
 cbv
 refine ap (fun h9=>?_) (fun h9=>?_)
 ·simp [ht] at h9
  cbv
  refine aA trv trv rfl rfl rfl ?_
  (simp only [ht,eO];grind)
 simp [ht] at h9
 cbv
 refine ap (fun h10=>?_) (fun h10=>?_)
 ·simp [ht] at h10
  cbv
  refine aA trv trv rfl rfl rfl ?_
  (simp only [ht,eO];grind)
 simp [ht] at h10
 cbv
 refine aA trv trv rfl rfl rfl ?_
 (simp only [ht,eO];grind)
theorem Lu (ht:TT t) (s:aQ) (hs:s.length<1000000000000):FC 178 [ST s] [] (.ret (.ow 0 1 (t _ fun _=>((mg s).map bE).length))) [.row 1 (t _ fun _=>(mg s).map bE)]:=by
 have hp:=ke s
 refine bP ht (aV:=[]) Tryz.func178 rfl rfl (N:=22) rfl rfl (n:=0) rfl rfl ?_
 cbv
 refine aK trv (vj ht _ ‹_›) trv rfl rfl rfl (fun r0 c7=>?_)
 simp only [ht] at c7
 have hrl:(r0).length=(parts s).length:=by rw [c7]
 cbv
 obtain ⟨J1,o8⟩:∃J1:Nat→List (List D)×Int→Prop,∀n u i,J1 n (u,i)↔(∃k:Nat,i=k∧k+n=(parts s).length∧u=((mg s).take k).map bE):=⟨fun n v=>match v with|(u,i)=>(∃k:Nat,i=k∧k+n=(parts s).length∧u=((mg s).take k).map bE),fun _ _ _=>Iff.rfl⟩
 refine bM ⟨[0,3,7,8],[(3,1)],[]⟩ (σ:=List (List D)×Int) (fun v=>[(3,.ow 0 1 (t _ fun _=>(v.1).length)),(8,.d (.int .i64 (t _ fun _=>v.2)))]) (fun v=>[(0,.row 1 (t _ fun _=>v.1))]) J1 ?_
 cbv
 refine aJ ⟨(parts s).length,([],_),(o8 _ _ _).2 ?_,by simp only [ht];rfl,?_⟩
 ·exact ⟨0,rfl,by simp,rfl⟩
 rintro n ⟨u,i⟩ hj
 replace hj:=(o8 _ _ _).1 hj
 obtain ⟨k,rfl,j1,j4⟩:=hj
 cbv
 refine ap (fun h2=>?_) (fun h2=>?_)
 ·simp [ht,ah] at h2
  cbv
  refine aK trv (vj ht _ ‹_›) trv rfl rfl rfl (fun r3 kV=>?_)
  simp only [ht] at kV
  have hrl:(r3).length=(parts s).length:=by rw [kV]
  cbv
  refine ⟨?_,?_⟩
  ·(simp only [ht];refine ⟨?_,fun r hr=>by obtain ⟨y,_,rfl⟩:=List.mem_map.1 hr;rfl⟩;rw [aH (by omega)];simp only [bR];rw [lgM];omega)
  cbv
  (refine bq trv (Lq ht (l:=r3.take (k+1)) (by simp only [ht,iD];rw [aH (by omega),List.map_take];rfl) (by simp;omega) (by rw [kV];exact Nat.le_trans (CC s (k+1)) (by omega))) trv rfl rfl (fun r4 kw=>?_);simp only [ht] at kw;rw [kV] at kw)
  cbv
  refine ⟨?_,?_⟩
  ·(simp only [ht];grind)
  cbv
  refine cD (_,_) (by simp only [ht,←List.length_append];rfl) (n-1) ?_ ((o8 _ _ _).2 ?_)
  ·omega
  simp only [ah]
  exact ⟨k+1,aH (by omega),by omega,by rw [CD (by omega),j4,←kw];simp⟩
 simp [ht,ah] at h2
 cbv
 refine BO trv rfl rfl rfl rfl ?_ ?_
 ·(simp [ht,j4,List.take_of_length_le (show (mg s).length≤k by rw [iu];omega)];done)
 (simp [ht,j4,List.take_of_length_le (show (mg s).length≤k by rw [iu];omega)];done)
theorem El (ht:TT t) {es:List (List D)} {x:D} {row:List D} {i n c:Nat} (hn:n=es.length) (hi:i≤n) (hc:n≤c) (hc0:n=0→c=0) (aG:∀r∈es,r.length=1) (hrow:(x::row).length=1) (hs:n<1000000) {r:List (List D)} (hr:r=es.take i++(x::row)::es.drop i):
 FC 198 [.vw 0 1 0 n c true,bJ (i:Int),SL [x::row]] [.row 1 es] (.ret (SL r)) [.dead]:=by
 obtain ⟨n1,BD⟩:∃n1,n1=n+1:=⟨_,rfl⟩
 obtain ⟨i1,hi1⟩:∃i1,i1=i+1:=⟨_,rfl⟩
 obtain ⟨ni,hni⟩:∃ni,ni=n-i:=⟨_,rfl⟩
 obtain ⟨ci,pi⟩:∃ci,ci=c-i:=⟨_,rfl⟩
 obtain ⟨wo,Ju⟩:∃wo,wo=c-i1:=⟨_,rfl⟩
 obtain ⟨oQ,tv⟩:∃oQ,oQ=n1-i:=⟨_,rfl⟩
 have hW:∀P:Prop,((IntKind.i64.wrap ((n:Int)+1)=(n1:Int))→(IntKind.i64.wrap ((n1:Int)-(i:Int))=(oQ:Int))→(IntKind.i64.wrap ((i:Int)+1)=(i1:Int))→P)→P:=
  fun P h=>h (by rw [wrap64 (by omega) (by omega)];omega) (by rw [wrap64 (by omega) (by omega)];omega) (by rw [wrap64 (by omega) (by omega)];omega)
 have hrl:r.length=n1:=by rw [hr,List.length_append,List.length_cons,List.length_take,List.length_drop];omega
 have U4:n≠0→FC 222 [SL [x::row],.vw 0 1 i1 ni wo true] [.row 1 es] (.ret (BL false)) [.row 1 es]:=fun h0=>
  iC T0 Tryz.func222 rfl rfl rfl rfl (tS:=51) (tR:=4) rfl rfl (by intro h;rw [h] at hn;exact h0 hn)
 refine bP ht (aV:=[.row 1 es]) Tryz.func198 rfl rfl (N:=95) rfl rfl (n:=1) rfl rfl ?_
 cbv
 refine bN (.vw 0 1 i ni ci true) [.row 1 es] ?_ ?_ rfl ?_
 ·simp [ht,dN,bR];omega
 ·simp [ht,be,aY,hni,pi]
 cbv
 refine nJ (by simp [ht]) ?_
 cbv
 refine ap (fun h=>?_) (fun h=>?_)
 ·have hin:i=n:=by simp [ht,ah] at h;omega
  clear h
  cbv
  refine bN (.ow 1 1 n1) [.dead,.row 1 r] ?_ ?_ ?_ ?_
  ·simp only [ht]
   refine ⟨⟨hn,by simp;omega,?_⟩,rfl,hn,fun h=>⟨hc0 (by rw [hn,h];rfl),rfl⟩⟩
   intro r hr
   rcases List.mem_append.1 hr with hr|hr
   ·exact aG r hr
   simp at hr;subst hr;exact hrow
  ·simp [ht,BD,hn]
  ·simp only [ht];rw [hr]
   have:i=es.length:=by omega
   subst this;simp
  cbv
  refine aA trv ?_ rfl rfl rfl rfl
  simp only [ht];exact hrl.symm
 have hin:i<n:=by simp [ht,ah] at h;omega
 clear h
 have AK:r=(r.drop 0).take n1:=by rw [List.drop_zero,List.take_of_length_le (by omega)]
 cbv
 refine ap (fun h2=>?_) (fun h2=>?_)
 ·have U5:c=n:=by
   refine hW _ fun e1 e2 e3=>?_
   simp [ht,ah,e1] at h2;omega
  clear h2
  obtain ⟨L,hL⟩:∃L:List (List D),L=es.take i++List.replicate (es.length+1-i) [D.str []]:=⟨_,rfl⟩
  have Ib:L.length=n1:=by rw [hL];simp;omega
  obtain ⟨L1,tw⟩:∃L1,L1=wrote L i [x::row]:=⟨_,rfl⟩
  have mq:L1.length=n1:=by rw [tw];simp [wrote,Ib];omega
  have oo:r=wrote L1 i1 (es.drop i):=by rw [hi1,tw,hL,vb (by omega),hr]
  cbv
  refine bN (.vw 0 1 0 i c true) [.row 1 es] ?_ ?_ rfl ?_
  ·simp [ht,dN,bR];omega
  ·simp [ht,be,aY]
  cbv
  refine bN (.vw 1 1 0 n1 n1 false) [.row 1 es,.row 1 L] ?_ ?_ ?_ ?_
  ·refine hW _ fun e1 e2 e3=>?_
   simp [ht,ah,e1,e2];omega
  ·refine hW _ fun e1 e2 e3=>?_
   simp [ht,ah,e1,e2];omega
  ·refine hW _ fun e1 e2 e3=>?_
   simp [ht,ah,e1,e2,hL];omega
  cbv
  refine bN (.vw 1 1 i oQ oQ false) [.row 1 es,.row 1 L] ?_ ?_ rfl ?_
  ·simp [ht,dN,bR];omega
  ·simp [ht,be,aY,tv]
  cbv
  refine bN (bJ 1) [.row 1 es,.row 1 L1] ?_ ?_ ?_ ?_
  ·simp only [ht,eL]
   refine ⟨⟨by omega,?_⟩,?_⟩
   ·intro h;rw [h] at Ib;simp at Ib;omega
   intro r hr;have:=List.mem_of_mem_take hr;simp at this;rw [this];exact hrow
  ·simp [ht,ah];omega
  ·simp [ht,tw,show min 1 oQ=1 by omega]
  cbv
  refine dK [false,false,false,false,false,false,false,false,true] (by kernel_rfl) (by kernel_rfl) ?_
  cbv
  repeat (refine gI (by (simp;done)) ?_)
  refine iq (.vw 1 1 i1 ni ni false) (fun _=>⟨?_,?_⟩) ?_
  ·refine hW _ fun e1 e2 e3=>?_
   simp [ht,ah,e3,dN,bR];omega
  ·refine hW _ fun e1 e2 e3=>?_
   simp [ht,ah,e3,be,aY];omega
  cbv
  repeat (refine gI (by (simp;done)) ?_)
  refine iq (.vw 0 1 i ni ci true) (fun _=>⟨?_,?_⟩) ?_
  ·simp [ht,dN,bR];omega
  ·simp [ht,be,aY,hni,pi]
  cbv
  refine bN (bJ (ni:Nat)) [.row 1 es,.row 1 r,.bC] ?_ ?_ ?_ ?_
  ·simp only [ht,eL]
   refine ⟨by omega,⟨by omega,?_⟩,?_⟩
   ·intro h;rw [h] at mq;simp at mq;omega
   intro r hr;exact aG r (List.mem_of_mem_drop (List.mem_of_mem_take hr))
  ·simp [ht,ah]
  ·simp only [ht,oo]
   rw [List.take_of_length_le (by simp;omega)]
  cbv
  refine yx [true] trv ?_ rfl rfl rfl ?_
  ·simp only [ht];omega
  simp only [ht];rw [←AK]
 have U5:n<c:=by
  refine hW _ fun e1 e2 e3=>?_
  simp [ht,ah,e1] at h2;omega
 clear h2
 obtain ⟨L1,tw⟩:∃L1,L1=wrote es i1 (es.drop i):=⟨_,rfl⟩
 have oo:r=wrote L1 i [x::row]:=by rw [tw,hi1,Ee (by omega),hr]
 have mq:L1.length=n1:=by rw [tw];simp [wrote];omega
 cbv
 refine bN (.vw 0 1 0 n1 c true) [.row 1 es] ?_ ?_ rfl ?_
 ·refine hW _ fun e1 e2 e3=>?_
  simp [ht,ah,e1,dN,bR];omega
 ·refine hW _ fun e1 e2 e3=>?_
  simp [ht,ah,e1,be,aY]
 cbv
 refine bN (.vw 0 1 i1 ni wo true) [.row 1 es] ?_ ?_ rfl ?_
 ·refine hW _ fun e1 e2 e3=>?_
  simp [ht,ah,e3,dN,bR];omega
 ·refine hW _ fun e1 e2 e3=>?_
  simp [ht,ah,e3,be,aY];omega
 cbv
 refine eB trv (U4 (by omega)) ?_
 cbv
 refine kH (by simp [ht]) ?_
 cbv
 refine dK [false,false,false,false,false,false,false,false,true] (by kernel_rfl) (by kernel_rfl) ?_
 cbv
 repeat (refine gI (by (simp;done)) ?_)
 refine iq (.vw 0 1 i1 ni wo true) (fun _=>⟨?_,?_⟩) ?_
 ·refine hW _ fun e1 e2 e3=>?_
  simp [ht,ah,e3,dN,bR];omega
 ·refine hW _ fun e1 e2 e3=>?_
  simp [ht,ah,e3,be,aY];omega
 cbv
 repeat (refine gI (by (simp;done)) ?_)
 refine iq (.vw 0 1 i oQ ci true) (fun _=>⟨?_,?_⟩) ?_
 ·simp [ht,dN,bR];omega
 ·simp [ht,be,aY,tv,pi]
 cbv
 refine bN (bJ (ni:Nat)) [.row 1 L1,.bC] ?_ ?_ ?_ ?_
 ·simp only [ht,eL]
  refine ⟨by omega,⟨by omega,?_⟩,?_⟩
  ·intro h;rw [h] at hn;simp at hn;omega
  intro r hr;exact aG r (List.mem_of_mem_drop (List.mem_of_mem_take hr))
 ·simp [ht,ah];omega
 ·simp only [ht,tw]
  rw [List.take_of_length_le (by simp;omega)]
 cbv
 refine bN (.vw 0 1 i oQ ci true) [.row 1 L1,.bC] ?_ ?_ rfl ?_
 ·simp [ht,dN,bR];omega
 ·simp [ht,be,aY,tv,pi]
 cbv
 refine bN (bJ 1) [.row 1 r,.bC] ?_ ?_ ?_ ?_
 ·simp only [ht,eL]
  refine ⟨⟨by omega,?_⟩,?_⟩
  ·intro h;rw [h] at mq;simp at mq;omega
  intro r hr;have:=List.mem_of_mem_take hr;simp at this;rw [this];exact hrow
 ·simp [ht,ah];omega
 ·simp [ht,oo,show min 1 oQ=1 by omega]
 cbv
 refine yx [true] trv ?_ rfl rfl rfl ?_
 ·simp only [ht];omega
 simp only [ht];rw [←AK]
theorem Hf (ht:TT t) {es:List (List D)} {x:D} {row:List D} {i n:Nat} (hn:n=es.length) (hi:i≤n) (aG:∀r∈es,r.length=1) (hrow:(x::row).length=1) (hs:n<1000000) {r:List (List D)} (hr:r=es.take i++(x::row)::es.drop i):
 FC 198 [.ow 0 1 n,bJ (i:Int),SL [x::row]] [.row 1 es] (.ret (SL r)) [.dead]:=
 dU fun c hc hc0=>El ht hn hi hc hc0 aG hrow hs hr
theorem Em (ht:TT t) {l:List aQ} {x:aQ} {k:Nat} {i:Int} (hi:i=k) (hk:k≤l.length) (hl:l.length<1000000):
 FC 198 [.ow 0 1 (t _ fun _=>(l.map bE).length),bJ i,.cl [[.str x]]] [.row 1 (t _ fun _=>l.map bE)] (.ret (SL (t _ fun _=>(l.take k++x::l.drop k).map bE))) [.dead]:=by
 simp only [ht];subst hi
 refine oH (args':=[.ow 0 1 (l.map bE).length,bJ k,SL [bE x]]) ?_ (Hf ht (by simp) (by simpa using hk) ?_ rfl (by simpa using hl) (by simp))
 ·intro β w ok vs h
  simp only [an] at h ⊢
  obtain ⟨u1,Yr,rfl,h1,u2,Oe,rfl,h2,u3,Vc,rfl,h3,h4⟩:=h
  exact ⟨u1,_,rfl,h1,u2,_,rfl,h2,u3,Vc,rfl,K9 h3,h4⟩
 intro r hr;obtain ⟨y,_,rfl⟩:=List.mem_map.1 hr;rfl
theorem Hg (ht:TT t) (s:aQ) (hs:s.length<1000000000000):FC 155 [ST s] [] (.ret (GB t (t _ fun _=>above s))) []:=by
 have hp:=ke s
 have hl:=iu s
 refine bP ht (aV:=[]) Tryz.func155 rfl rfl (N:=7) rfl rfl (n:=0) rfl rfl ?_
 cbv
 refine jB trv (Lu ht s ‹_›) trv rfl (.inr rfl) ?_
 cbv
 refine dz [0] trv rfl rfl (Em ht (l:=mg s) (x:=[]) (k:=0) rfl (by omega) (by omega)) (cz ?_)
 cbv
 refine aA trv trv rfl rfl rfl ?_
 (simp [ht,above];done)
theorem AO (ht:TT t) (s:aQ) (hs:s.length<1000000000000):FC 125 [ST s] [] (.ret (dn (t _ fun _=>named s))) []:=by
 refine bP ht (aV:=[]) Tryz.func125 rfl rfl (N:=10) rfl rfl (n:=0) rfl rfl ?_
 cbv
 iterate 2 refine gI (by simp [ht]) ?_
 refine eT (fun g0=>⟨by simp [ht] at g0 ⊢;exact g0,trv,He ht _ _ ‹_›⟩) rfl rfl (fun r1 cP=>?_)
 simp only [ht] at cP
 cbv
 refine pI (by simp [ht]) ?_
 refine aA trv trv rfl rfl rfl ?_
 (simp [named, *];done)
theorem CW (ht:TT t) (s:aQ) (hs:s.length<1000000000000):FC 127 [ST s] [] (.ret (Sf (t _ fun _=>parent s))) []:=by
 have hp:=ke s
 have hl:=iu s
 obtain ⟨ps,hps⟩:∃p,p=parent s:=⟨_,rfl⟩
 refine bP ht (aV:=[]) Tryz.func127 rfl rfl (N:=13) rfl rfl (n:=0) rfl rfl ?_
 cbv
 refine aK trv (Hg ht _ ‹_›) trv rfl rfl rfl (fun r0 c7=>?_)
 simp only [ht] at c7
 have hla:(r0).length=(parts s).length+1:=by rw [c7];simp [above,iu]
 have hpx:(r0)[(r0).length-2]?=some ps:=by rw [hps,c7,parent,List.getD_eq_getElem?_getD,List.getElem?_eq_getElem (by rw [c7] at hla;omega)];rfl
 cbv
 (refine v8 ht (l:=r0) (cells:=bE) (cT:=eW t) (i:=r0.length-2) (x:=ps) (by simp only [ht];done) hpx (by simp only [ht,ah,lgM];rw [wrap64 (by omega) (by omega)];omega) (fun _=>rfl) (fun _=>rfl) ?_)
 cbv
 refine aA trv trv rfl rfl rfl ?_
 (simp [ht,hps];done)
def bw.bF (_:Th) (e:bw):List D:=[.str e.path,.int .u64 e.eU.a,.int .u64 e.eU.b,.int .u64 e.eU.c,.int .u64 e.eU.d,.int .u64 e.used.a,.int .u64 e.used.b,.int .u64 e.used.c,.int .u64 e.used.d]
def XD (e:bw):AV:=.agg [ST e.path,aD e.eU.a,aD e.eU.b,aD e.eU.c,aD e.eU.d,aD e.used.a,aD e.used.b,aD e.used.c,aD e.used.d]
def XE (r:bw×Bool):AV:=.dX [XD r.1,BL r.2]
def T9 (t:Th) (l:List bw):AV:=SL (t _ fun _=>l.map bw.cells)
def AP (t:Th) (r:List bw×Int):AV:=.dX [T9 t r.1,bJ r.2]
theorem MQ (ht:TT t) (q:aQ) {l:List (bw)} {es:List (List D)} (aG:es=l.map bw.cells) (f:Nat) (p:bw→Bool) (hl:l.length<9223372036854775807)
 (hf:∀x∈l,FC f [.agg [ST x.path,aD x.eU.a,aD x.eU.b,aD x.eU.c,aD x.eU.d,aD x.used.a,aD x.used.b,aD x.used.c,aD x.used.d],.ptr 0 0] [.var [ST q]] (.ret (BL (p x))) [.var [ST q]]) {r:Int} (hr:r=idxOf p l):FC 174 [SL es,.fn f [.ptr 0 0]] [.var [ST q]] (.ret (bJ r)) [.var [ST q]]:=by
 have hel:es.length=l.length:=by rw [aG,lgM]
 obtain ⟨J,hJ⟩:∃J:Nat→Nat→Prop,∀n v,J n v↔(v+n=l.length∧∀i<v,∀x,l[i]?=some x→p x=false):=⟨fun n v=>v+n=l.length∧∀i<v,∀x,l[i]?=some x→p x=false,fun _ _=>Iff.rfl⟩
 refine bP ht (aV:=[.var [ST q]]) Tryz.func174 rfl rfl (N:=19) rfl rfl (n:=1) rfl rfl ?_
 cbv
 refine bM ⟨[0,1,7,8],[],[]⟩ (σ:=Nat) (fun k=>[(8,bJ (t _ fun _=>(k:Int)))]) (fun _=>[]) J ?_
 cbv
 refine aJ ⟨l.length,0,(hJ _ _).2 ⟨by omega,by intro i hi;simp at hi⟩,by simp only [ht];rfl,?_⟩
 rintro n k hj
 obtain ⟨h2,h3⟩:=(hJ _ _).1 hj
 clear hj
 cbv
 refine ap (fun h=>?_) (fun h=>?_)
 ·simp only [ht,ah,decide_eq_true_eq] at h
  have hk:k<l.length:=by omega
  obtain ⟨x,hx⟩:∃x,l[k]?=some x:=⟨l[k],by simp⟩
  have pg:x∈l:=List.mem_of_getElem? hx
  have iw:=hf x pg
  obtain ⟨px,hpx⟩:∃b,b=p x:=⟨_,rfl⟩
  rw [←hpx] at iw
  obtain ⟨nm,⟨a,b,c,d⟩,⟨e,g,u,v⟩⟩:=x
  cbv
  refine jA [.str nm,.int .u64 a,.int .u64 b,.int .u64 c,.int .u64 d,.int .u64 e,.int .u64 g,.int .u64 u,.int .u64 v] ?_ ?_ ?_
  ·simp only [ht,ah];refine ⟨by omega,h,?_⟩;rw [aG];intro r hr;obtain ⟨y,_,rfl⟩:=List.mem_map.1 hr;rfl
  ·simp [ht,ah,aG,hx]
  cbv
  refine eB trv iw ?_
  cbv
  refine ap (fun hb=>?_) (fun hb=>?_)
  ·cbv
   refine aA trv trv rfl rfl rfl ?_
   have e:=dA hx (hpx▸hb) h3
   simp only [ht,ah,hr,idxOf,e]
  cbv
  refine aJ ⟨n-1,k+1,⟨by omega,(hJ _ _).2 ⟨by omega,?_⟩⟩,?_⟩
  ·intro i hi y hy
   by_cases hik:i<k
   ·exact h3 i hik y hy
   have:i=k:=by omega
   subst this;rw [hx] at hy;cases hy;rw [←hpx];exact hb
  simp only [ht,ah,aH (show k<9223372036854775807 by omega)];rfl
 simp only [ht,ah,decide_eq_false_iff_not] at h
 have hk:¬k<l.length:=by omega
 clear h
 cbv
 refine aA trv trv rfl rfl rfl ?_
 rw [hr,idxOf,dL]
 intro i y hy
 have:i<l.length:=by
  rcases Nat.lt_or_ge i l.length with h'|h';· exact h'
  simp [List.getElem?_eq_none h'] at hy
 exact h3 i (by omega) y hy
theorem MR (ht:TT t) (q:aQ) (x:bw):FC 175 [.agg [ST x.path,aD x.eU.a,aD x.eU.b,aD x.eU.c,aD x.eU.d,aD x.used.a,aD x.used.b,aD x.used.c,aD x.used.d],.ptr 0 0] [.var [ST q]] (.ret (BL (decide (x.path=q)))) [.var [ST q]]:=by
 obtain ⟨nm,⟨a,b,c,d⟩,⟨e,g,u,v⟩⟩:=x
 refine bP ht (aV:=[.var [ST q]]) Tryz.func175 rfl rfl (N:=8) rfl rfl (n:=1) rfl rfl ?_
 cbv
 refine aA trv trv rfl rfl rfl ?_
 simp [ht]
theorem lH (ht:TT t) (q:aQ) {l:List bw} {es:List (List D)} (aG:es=l.map bw.cells) (hl:l.length<1000000000):
 FC 126 [SL es,ST q] [] (.ret (gE (t _ fun _=>bY l q))) []:=by
 obtain ⟨r,hr⟩:∃r,r=bY l q:=⟨_,rfl⟩
 refine bP ht (aV:=[]) Tryz.func126 rfl rfl (N:=8) rfl rfl (n:=0) rfl rfl ?_
 cbv
 refine eB trv (MQ ht q aG 175 (fun x=>decide (x.path=q)) (by omega) (fun x _=>MR ht q x) (r:=r) hr) ?_
 cbv
 exact aA trv trv rfl rfl rfl (by simp [ht,hr])
theorem En {l:List bw} {q:aQ} {r:Int} (h:r=bY l q):(r=-1∧qn l q=(bw.zero,false))∨∃(k:Nat) (x:bw),r=k∧k<l.length∧l[k]?=some x∧qn l q=(x,true):=by
 rcases cF (p:=fun e:bw=>decide (e.path=q)) (l:=l) (r:=r) h with ⟨e1,e2,e3⟩|⟨i,x,hi,hil,e1,e2,e3,e4⟩
 ·exact .inl ⟨e1,by simp [qn,e3]⟩
 exact .inr ⟨i,x,hi,hil,e1,by simp [qn,e4]⟩
theorem P3 (ht:TT t) (q:aQ) {l:List bw} {es:List (List D)} (aG:es=l.map bw.cells) (hl:l.length<1000000000):
 FC 180 [SL es,ST q] [] (.ret (XE (t _ fun _=>qn l q))) []:=by
 refine bP ht (aV:=[]) Tryz.func180 rfl rfl (N:=17) rfl rfl (n:=0) rfl rfl ?_
 cbv
 have az:es.length=l.length:=by rw [aG,lgM]
 refine bq trv (lH ht _ ‹_› ‹_›) trv rfl rfl (fun r0 c7=>?_)
 simp only [ht] at c7
 have ec:=En c7
 clear c7
 rcases ec with ⟨e1,e2⟩|⟨i,x,hi,hil,e1,e2⟩
 ·cbv
  refine ap (fun h1=>?_) (fun h1=>?_)
  ·simp [ht] at h1
   cbv
   refine aA trv trv rfl rfl rfl ?_
   (simp [ht,e2,bw.zero,bO.zero];done)
  simp [ht] at h1
  omega
 cbv
 refine ap (fun h2=>?_) (fun h2=>?_)
 ·simp [ht] at h2
  (simp only [ah] at*;omega)
 simp [ht] at h2
 cbv
 refine v8 ht aG (cT:=bw.bF t) e1 ‹_› (fun _=>rfl) (fun _=>rfl) ?_
 cbv
 refine aA trv trv rfl rfl rfl ?_
 (simp [ht,e2];done)
theorem SN (ht:TT t) (a b c d:Int):FC 90 [V4 a b c d] [] (.ret (T9 t (t _ fun _=>[⟨[],⟨a,b,c,d⟩,bO.zero⟩]))) []:=by
 refine bP ht (aV:=[]) Tryz.func90 rfl rfl (N:=6) rfl rfl (n:=0) rfl rfl ?_
 cbv
 refine aA trv trv rfl rfl rfl ?_
 (simp [ht,bO.zero];done)
def Jb.bF (t:Th) (j:Jb):List D:=[.int .u64 j.id,.str j.x.path,.int .u64 j.x.gu.a,.int .u64 j.x.gu.b,.int .u64 j.x.gu.c,.int .u64 j.x.gu.d,.int .i64 j.x.count,.int .i64 j.x.prio,.int .i64 j.x.fG,.sl (t _ fun _=>j.x.ct.map Term.cells),.bool j.runs,.int .i64 j.left]
def Yw (t:Th) (j:Jb):AV:=.agg [aD j.id,ST j.x.path,aD j.x.gu.a,aD j.x.gu.b,aD j.x.gu.c,aD j.x.gu.d,bJ j.x.count,bJ j.x.prio,bJ j.x.fG,SL (t _ fun _=>j.x.ct.map Term.cells),BL j.runs,bJ j.left]
def MS (t:Th) (r:Jb×Bool):AV:=.dX [Yw t r.1,BL r.2]
theorem Hh (ht:TT t) (id:Int) {l:List (Jb)} {es:List (List D)} (aG:es=l.map Jb.cells) (f:Nat) (p:Jb→Bool) (hl:l.length<9223372036854775807)
 (hf:∀x∈l,FC f [.agg [aD x.id,ST x.x.path,aD x.x.gu.a,aD x.x.gu.b,aD x.x.gu.c,aD x.x.gu.d,bJ x.x.count,bJ x.x.prio,bJ x.x.fG,SL (x.x.ct.map Term.cells),BL x.runs,bJ x.left],.ptr 0 0] [.var [aD id]] (.ret (BL (p x))) [.var [aD id]]) {r:Int} (hr:r=idxOf p l):FC 70 [SL es,.fn f [.ptr 0 0]] [.var [aD id]] (.ret (bJ r)) [.var [aD id]]:=by
 have hel:es.length=l.length:=by rw [aG,lgM]
 obtain ⟨J,hJ⟩:∃J:Nat→Nat→Prop,∀n v,J n v↔(v+n=l.length∧∀i<v,∀x,l[i]?=some x→p x=false):=⟨fun n v=>v+n=l.length∧∀i<v,∀x,l[i]?=some x→p x=false,fun _ _=>Iff.rfl⟩
 refine bP ht (aV:=[.var [aD id]]) Tryz.func70 rfl rfl (N:=19) rfl rfl (n:=1) rfl rfl ?_
 cbv
 refine bM ⟨[0,1,7,8],[],[]⟩ (σ:=Nat) (fun k=>[(8,bJ (t _ fun _=>(k:Int)))]) (fun _=>[]) J ?_
 cbv
 refine aJ ⟨l.length,0,(hJ _ _).2 ⟨by omega,by intro i hi;simp at hi⟩,by simp only [ht];rfl,?_⟩
 rintro n k hj
 obtain ⟨h2,h3⟩:=(hJ _ _).1 hj
 clear hj
 cbv
 refine ap (fun h=>?_) (fun h=>?_)
 ·simp only [ht,ah,decide_eq_true_eq] at h
  have hk:k<l.length:=by omega
  obtain ⟨x,hx⟩:∃x,l[k]?=some x:=⟨l[k],by simp⟩
  have pg:x∈l:=List.mem_of_getElem? hx
  have iw:=hf x pg
  obtain ⟨px,hpx⟩:∃b,b=p x:=⟨_,rfl⟩
  rw [←hpx] at iw
  obtain ⟨id',⟨p',⟨a',b',c',d'⟩,n',V7,KR,rQ⟩,V8,V9⟩:=x;obtain ⟨G2,mr⟩:∃lr:List (List D),lr=rQ.map Term.cells:=⟨_,rfl⟩;simp only [←mr] at iw
  cbv
  refine jA [.int .u64 id',.str p',.int .u64 a',.int .u64 b',.int .u64 c',.int .u64 d',.int .i64 n',.int .i64 V7,.int .i64 KR,.sl G2,.bool V8,.int .i64 V9] ?_ ?_ ?_
  ·simp only [ht,ah];refine ⟨by omega,h,?_⟩;rw [aG];intro r hr;obtain ⟨y,_,rfl⟩:=List.mem_map.1 hr;rfl
  ·simp [ht,ah,aG,hx,mr,Jb.cells]
  cbv
  refine eB trv iw ?_
  cbv
  refine ap (fun hb=>?_) (fun hb=>?_)
  ·cbv
   refine aA trv trv rfl rfl rfl ?_
   have e:=dA hx (hpx▸hb) h3
   simp only [ht,ah,hr,idxOf,e]
  cbv
  refine aJ ⟨n-1,k+1,⟨by omega,(hJ _ _).2 ⟨by omega,?_⟩⟩,?_⟩
  ·intro i hi y hy
   by_cases hik:i<k
   ·exact h3 i hik y hy
   have:i=k:=by omega
   subst this;rw [hx] at hy;cases hy;rw [←hpx];exact hb
  simp only [ht,ah,aH (show k<9223372036854775807 by omega)];rfl
 simp only [ht,ah,decide_eq_false_iff_not] at h
 have hk:¬k<l.length:=by omega
 clear h
 cbv
 refine aA trv trv rfl rfl rfl ?_
 rw [hr,idxOf,dL]
 intro i y hy
 have:i<l.length:=by
  rcases Nat.lt_or_ge i l.length with h'|h';· exact h'
  simp [List.getElem?_eq_none h'] at hy
 exact h3 i (by omega) y hy
theorem MT (ht:TT t) (id i n k l a b c d:Int) (p:aQ) (sr:List (List D)) (rn:Bool) (lf:Int):FC 99 [.agg [aD i,ST p,aD a,aD b,aD c,aD d,bJ n,bJ k,bJ l,SL sr,BL rn,bJ lf],.ptr 0 0] [.var [aD id]] (.ret (BL (decide (i=id)))) [.var [aD id]]:=by
 refine bP ht (aV:=[.var [aD id]]) Tryz.func99 rfl rfl (N:=8) rfl rfl (n:=1) rfl rfl ?_
 cbv
 refine aA trv trv rfl rfl rfl ?_
 simp [ht]
theorem rI (ht:TT t) (id rd nx ef af:Int) (ns ps ts qs el al:List (List D)) {l:List Jb} {es:List (List D)} (aG:es=l.map Jb.cells) (hl:l.length<1000000000):
 FC 43 [.agg [aD rd,aD nx,SL ns,SL ps,SL ts,SL es,SL qs,aD ef,SL el,aD af,SL al],aD id] [] (.ret (gE (t _ fun _=>D7 l id))) []:=by
 obtain ⟨r,hr⟩:∃r,r=D7 l id:=⟨_,rfl⟩
 refine bP ht (aV:=[]) Tryz.func43 rfl rfl (N:=9) rfl rfl (n:=0) rfl rfl ?_
 cbv
 refine dz [1] trv rfl rfl (Hh ht id aG 99 (fun x=>decide (x.id=id)) (by omega) (fun x _=>MT ht id _ _ _ _ _ _ _ _ _ _ _ _) (r:=r) hr) (cz ?_)
 cbv
 exact aA trv trv rfl rfl rfl (by simp [ht,hr])
theorem nU (ht:TT t) (id rd nx ef af:Int) (ns ps ts qs el al:List (List D)) {l:List Jb} {es:List (List D)} (aG:es=l.map Jb.cells) (hl:l.length<1000000000):
 FC 17 [.agg [aD rd,aD nx,SL ns,SL ps,SL ts,SL es,SL qs,aD ef,SL el,aD af,SL al],aD id] [] (.ret (MS t (t _ fun _=>bI l id))) []:=by
 refine bP ht (aV:=[]) Tryz.func17 rfl rfl (N:=18) rfl rfl (n:=0) rfl rfl ?_
 cbv
 have az:es.length=l.length:=by rw [aG,lgM]
 refine bq trv (rI ht _ _ _ _ _ _ _ _ _ _ _ ‹_› ‹_›) trv rfl rfl (fun r0 c7=>?_)
 simp only [ht] at c7
 have ec:=cF c7
 clear c7
 rcases ec with ⟨e1,e2,e3⟩|⟨i,x,hi,hil,e1,e2,e3,e4⟩
 ·cbv
  refine ap (fun h1=>?_) (fun h1=>?_)
  ·simp [ht] at h1
   cbv
   refine aA trv trv rfl rfl rfl ?_
   (simp [ht,bI,e3,Jb.zero,Ask.zero,bO.zero];done)
  simp [ht] at h1
  omega
 cbv
 refine ap (fun h2=>?_) (fun h2=>?_)
 ·simp [ht] at h2
  (simp only [ah] at*;omega)
 simp [ht] at h2
 cbv
 refine v8 ht aG (cT:=Jb.bF t) e1 ‹_› (fun _=>rfl) (fun _=>(by (simp only [ht,Jb.bF];rfl))) ?_
 cbv
 refine aA trv trv rfl rfl rfl ?_
 (simp [ht,bI,e4];done)
theorem MU (ht:TT t) (ts:List (List D)) {l:List (aQ)} {es:List (List D)} (aG:es=l.map bE) (f:Nat) (p:aQ→Bool) (hl:l.length<9223372036854775807)
 (hf:∀x∈l,FC f [.d (.str x),.ptr 0 0] [.var [SL ts]] (.ret (BL (p x))) [.var [SL ts]]) {r:Int} (hr:r=idxOf p l):FC 199 [SL es,.fn f [.ptr 0 0]] [.var [SL ts]] (.ret (bJ r)) [.var [SL ts]]:=by
 have hel:es.length=l.length:=by rw [aG,lgM]
 obtain ⟨J,hJ⟩:∃J:Nat→Nat→Prop,∀n v,J n v↔(v+n=l.length∧∀i<v,∀x,l[i]?=some x→p x=false):=⟨fun n v=>v+n=l.length∧∀i<v,∀x,l[i]?=some x→p x=false,fun _ _=>Iff.rfl⟩
 refine bP ht (aV:=[.var [SL ts]]) Tryz.func199 rfl rfl (N:=19) rfl rfl (n:=1) rfl rfl ?_
 cbv
 refine bM ⟨[0,1,7,8],[],[]⟩ (σ:=Nat) (fun k=>[(8,bJ (t _ fun _=>(k:Int)))]) (fun _=>[]) J ?_
 cbv
 refine aJ ⟨l.length,0,(hJ _ _).2 ⟨by omega,by intro i hi;simp at hi⟩,by simp only [ht];rfl,?_⟩
 rintro n k hj
 obtain ⟨h2,h3⟩:=(hJ _ _).1 hj
 clear hj
 cbv
 refine ap (fun h=>?_) (fun h=>?_)
 ·simp only [ht,ah,decide_eq_true_eq] at h
  have hk:k<l.length:=by omega
  obtain ⟨x,hx⟩:∃x,l[k]?=some x:=⟨l[k],by simp⟩
  have pg:x∈l:=List.mem_of_getElem? hx
  have iw:=hf x pg
  obtain ⟨px,hpx⟩:∃b,b=p x:=⟨_,rfl⟩
  rw [←hpx] at iw
  skip
  cbv
  refine jA [.str x] ?_ ?_ ?_
  ·simp only [ht,ah];refine ⟨by omega,h,?_⟩;rw [aG];intro r hr;obtain ⟨y,_,rfl⟩:=List.mem_map.1 hr;rfl
  ·simp [ht,ah,aG,hx]
  cbv
  refine eB trv iw ?_
  cbv
  refine ap (fun hb=>?_) (fun hb=>?_)
  ·cbv
   refine aA trv trv rfl rfl rfl ?_
   have e:=dA hx (hpx▸hb) h3
   simp only [ht,ah,hr,idxOf,e]
  cbv
  refine aJ ⟨n-1,k+1,⟨by omega,(hJ _ _).2 ⟨by omega,?_⟩⟩,?_⟩
  ·intro i hi y hy
   by_cases hik:i<k
   ·exact h3 i hik y hy
   have:i=k:=by omega
   subst this;rw [hx] at hy;cases hy;rw [←hpx];exact hb
  simp only [ht,ah,aH (show k<9223372036854775807 by omega)];rfl
 simp only [ht,ah,decide_eq_false_iff_not] at h
 have hk:¬k<l.length:=by omega
 clear h
 cbv
 refine aA trv trv rfl rfl rfl ?_
 rw [hr,idxOf,dL]
 intro i y hy
 have:i<l.length:=by
  rcases Nat.lt_or_ge i l.length with h'|h';· exact h'
  simp [List.getElem?_eq_none h'] at hy
 exact h3 i (by omega) y hy
theorem MV (ht:TT t) (ts:List (List D)) {l:List (aQ)} {es:List (List D)} (aG:es=l.map bE) (f:Nat) (p:aQ→Bool) (hl:l.length<9223372036854775807)
 (hf:∀x∈l,FC f [.d (.str x),.ptr 0 0] [.var [SL ts]] (.ret (BL (p x))) [.var [SL ts]]) {r:Bool} (hr:r=l.any p):FC 156 [SL es,.fn f [.ptr 0 0]] [.var [SL ts]] (.ret (BL r)) [.var [SL ts]]:=by
 obtain ⟨k,hk⟩:∃k,k=idxOf p l:=⟨_,rfl⟩
 refine bP ht (aV:=[.var [SL ts]]) Tryz.func156 rfl rfl (N:=9) rfl rfl (n:=1) rfl rfl ?_
 cbv
 refine eB trv (MU ht ts aG f p hl hf hk) ?_
 cbv
 refine aA trv trv rfl rfl rfl ?_
 simp only [ht,hr,iO,hk]
theorem P4 (ht:TT t) (q:aQ) {l:List bw} {es:List (List D)} (aG:es=l.map bw.cells) (hl:l.length<1000000000) {r:Bool} (hr:r=!(qn l q).2):
 FC 179 [ST q,.ptr 0 0] [.var [SL es]] (.ret (BL r)) [.var [SL es]]:=by
 refine bP ht (aV:=[.var [SL es]]) Tryz.func179 rfl rfl (N:=14) rfl rfl (n:=1) rfl rfl ?_
 cbv
 have az:es.length=l.length:=by rw [aG,lgM]
 refine bq trv (P3 ht _ ‹_› ‹_›) trv rfl rfl (fun r0 c7=>?_)
 simp only [ht] at c7
 cbv
 refine aA trv trv rfl rfl rfl ?_
 (simp [*];done)
theorem CX (ht:TT t) (p:aQ) {l:List bw} {es:List (List D)} (aG:es=l.map bw.cells) (hl:l.length<1000000000) (hp:p.length<1000000000000):
 FC 133 [SL es,ST p] [] (.ret (dn (t _ fun _=>jE l p))) []:=by
 have h1:=ke p
 have h2:=iu p
 obtain ⟨ws,ZH⟩:∃ws,ws=mg p++[[]]:=⟨_,rfl⟩
 obtain ⟨r9,jP⟩:∃r,r=ws.any (fun q=>!(qn l q).2):=⟨_,rfl⟩
 refine bP ht (aV:=[]) Tryz.func133 rfl rfl (N:=12) rfl rfl (n:=0) rfl rfl ?_
 cbv
 have az:es.length=l.length:=by rw [aG,lgM]
 refine jB trv (Lu ht p ‹_›) trv rfl (.inr rfl) ?_
 cbv
 refine ⟨?_,?_⟩
 ·(simp only [ht];grind)
 cbv
 (refine TY (v:=BL r9) trv rfl (by simp [ht]) (by exact dI [0] rfl rfl rfl rfl (MV ht es (l:=ws) (by simp only [ht,ZH];simp) 179 (fun q=>!(qn l q).2) (by rw [ZH];simp;omega) (fun x _=>P4 ht x aG hl rfl) jP)) ?_)
 cbv
 refine aA trv trv rfl rfl rfl ?_
 (simp only [ht,jE,←ZH,←jP];done)
theorem AQ (ht:TT t) {es:List (List D)} (aG:∀r∈es,r.length=9) (hs:es.length*80≤140737488355328) {m:Nat} (hm:m=es.length):
 FC 106 [SL es] [] (.ret (.ow 0 9 m)) [.row 9 es]:=by
 refine bP ht (aV:=[]) Tryz.func106 rfl rfl (N:=8) rfl rfl (n:=0) rfl rfl ?_
 cbv
 refine ⟨fun b hb=>?_⟩
 simp only [ht] at hb
 cbv
 refine ap (fun h=>?_) (fun h=>?_)
 ·have he:=hb h
  subst he
  cbv
  exact Gr trv rfl rfl (by rw [hm];rfl) rfl
 clear hb h
 cbv
 refine ⟨?_,?_⟩
 ·simp only [ht];simp;exact ⟨hs,aG⟩
 refine BO trv rfl rfl rfl rfl ?_ ?_
 ·simp only [ht];rw [hm];simp
 simp only [ht];rfl
theorem Eo (ht:TT t) {es:List (List D)} {x:D} {row:List D} {i n c:Nat} (hn:n=es.length) (hi:i≤n) (hc:n≤c) (hc0:n=0→c=0) (aG:∀r∈es,r.length=9) (hrow:(x::row).length=9) (hs:n<1000000) {r:List (List D)} (hr:r=es.take i++(x::row)::es.drop i):
 FC 144 [.vw 0 9 0 n c true,bJ (i:Int),SL [x::row]] [.row 9 es] (.ret (SL r)) [.dead]:=by
 obtain ⟨n1,BD⟩:∃n1,n1=n+1:=⟨_,rfl⟩
 obtain ⟨i1,hi1⟩:∃i1,i1=i+1:=⟨_,rfl⟩
 obtain ⟨ni,hni⟩:∃ni,ni=n-i:=⟨_,rfl⟩
 obtain ⟨ci,pi⟩:∃ci,ci=c-i:=⟨_,rfl⟩
 obtain ⟨wo,Ju⟩:∃wo,wo=c-i1:=⟨_,rfl⟩
 obtain ⟨oQ,tv⟩:∃oQ,oQ=n1-i:=⟨_,rfl⟩
 have hW:∀P:Prop,((IntKind.i64.wrap ((n:Int)+1)=(n1:Int))→(IntKind.i64.wrap ((n1:Int)-(i:Int))=(oQ:Int))→(IntKind.i64.wrap ((i:Int)+1)=(i1:Int))→P)→P:=
  fun P h=>h (by rw [wrap64 (by omega) (by omega)];omega) (by rw [wrap64 (by omega) (by omega)];omega) (by rw [wrap64 (by omega) (by omega)];omega)
 have hrl:r.length=n1:=by rw [hr,List.length_append,List.length_cons,List.length_take,List.length_drop];omega
 have U4:n≠0→FC 186 [SL [x::row],.vw 0 9 i1 ni wo true] [.row 9 es] (.ret (BL false)) [.row 9 es]:=fun h0=>
  iC T0 Tryz.func186 rfl rfl rfl rfl (tS:=29) (tR:=4) rfl rfl (by intro h;rw [h] at hn;exact h0 hn)
 refine bP ht (aV:=[.row 9 es]) Tryz.func144 rfl rfl (N:=95) rfl rfl (n:=1) rfl rfl ?_
 cbv
 refine bN (.vw 0 9 i ni ci true) [.row 9 es] ?_ ?_ rfl ?_
 ·simp [ht,dN,bR];omega
 ·simp [ht,be,aY,hni,pi]
 cbv
 refine nJ (by simp [ht]) ?_
 cbv
 refine ap (fun h=>?_) (fun h=>?_)
 ·have hin:i=n:=by simp [ht,ah] at h;omega
  clear h
  cbv
  refine bN (.ow 1 9 n1) [.dead,.row 9 r] ?_ ?_ ?_ ?_
  ·simp only [ht]
   refine ⟨⟨hn,by simp;omega,?_⟩,rfl,hn,fun h=>⟨hc0 (by rw [hn,h];rfl),rfl⟩⟩
   intro r hr
   rcases List.mem_append.1 hr with hr|hr
   ·exact aG r hr
   simp at hr;subst hr;exact hrow
  ·simp [ht,BD,hn]
  ·simp only [ht];rw [hr]
   have:i=es.length:=by omega
   subst this;simp
  cbv
  refine aA trv ?_ rfl rfl rfl rfl
  simp only [ht];exact hrl.symm
 have hin:i<n:=by simp [ht,ah] at h;omega
 clear h
 have AK:r=(r.drop 0).take n1:=by rw [List.drop_zero,List.take_of_length_le (by omega)]
 cbv
 refine ap (fun h2=>?_) (fun h2=>?_)
 ·have U5:c=n:=by
   refine hW _ fun e1 e2 e3=>?_
   simp [ht,ah,e1] at h2;omega
  clear h2
  obtain ⟨L,hL⟩:∃L:List (List D),L=es.take i++List.replicate (es.length+1-i) [D.str [],D.int IntKind.u64 0,D.int IntKind.u64 0,D.int IntKind.u64 0,D.int IntKind.u64 0,D.int IntKind.u64 0,D.int IntKind.u64 0,D.int IntKind.u64 0,D.int IntKind.u64 0]:=⟨_,rfl⟩
  have Ib:L.length=n1:=by rw [hL];simp;omega
  obtain ⟨L1,tw⟩:∃L1,L1=wrote L i [x::row]:=⟨_,rfl⟩
  have mq:L1.length=n1:=by rw [tw];simp [wrote,Ib];omega
  have oo:r=wrote L1 i1 (es.drop i):=by rw [hi1,tw,hL,vb (by omega),hr]
  cbv
  refine bN (.vw 0 9 0 i c true) [.row 9 es] ?_ ?_ rfl ?_
  ·simp [ht,dN,bR];omega
  ·simp [ht,be,aY]
  cbv
  refine bN (.vw 1 9 0 n1 n1 false) [.row 9 es,.row 9 L] ?_ ?_ ?_ ?_
  ·refine hW _ fun e1 e2 e3=>?_
   simp [ht,ah,e1,e2];omega
  ·refine hW _ fun e1 e2 e3=>?_
   simp [ht,ah,e1,e2];omega
  ·refine hW _ fun e1 e2 e3=>?_
   simp [ht,ah,e1,e2,hL];omega
  cbv
  refine bN (.vw 1 9 i oQ oQ false) [.row 9 es,.row 9 L] ?_ ?_ rfl ?_
  ·simp [ht,dN,bR];omega
  ·simp [ht,be,aY,tv]
  cbv
  refine bN (bJ 1) [.row 9 es,.row 9 L1] ?_ ?_ ?_ ?_
  ·simp only [ht,eL]
   refine ⟨⟨by omega,?_⟩,?_⟩
   ·intro h;rw [h] at Ib;simp at Ib;omega
   intro r hr;have:=List.mem_of_mem_take hr;simp at this;rw [this];exact hrow
  ·simp [ht,ah];omega
  ·simp [ht,tw,show min 1 oQ=1 by omega]
  cbv
  refine dK [false,false,false,false,false,false,false,false,true] (by kernel_rfl) (by kernel_rfl) ?_
  cbv
  repeat (refine gI (by (simp;done)) ?_)
  refine iq (.vw 1 9 i1 ni ni false) (fun _=>⟨?_,?_⟩) ?_
  ·refine hW _ fun e1 e2 e3=>?_
   simp [ht,ah,e3,dN,bR];omega
  ·refine hW _ fun e1 e2 e3=>?_
   simp [ht,ah,e3,be,aY];omega
  cbv
  repeat (refine gI (by (simp;done)) ?_)
  refine iq (.vw 0 9 i ni ci true) (fun _=>⟨?_,?_⟩) ?_
  ·simp [ht,dN,bR];omega
  ·simp [ht,be,aY,hni,pi]
  cbv
  refine bN (bJ (ni:Nat)) [.row 9 es,.row 9 r,.bC] ?_ ?_ ?_ ?_
  ·simp only [ht,eL]
   refine ⟨by omega,⟨by omega,?_⟩,?_⟩
   ·intro h;rw [h] at mq;simp at mq;omega
   intro r hr;exact aG r (List.mem_of_mem_drop (List.mem_of_mem_take hr))
  ·simp [ht,ah]
  ·simp only [ht,oo]
   rw [List.take_of_length_le (by simp;omega)]
  cbv
  refine yx [true] trv ?_ rfl rfl rfl ?_
  ·simp only [ht];omega
  simp only [ht];rw [←AK]
 have U5:n<c:=by
  refine hW _ fun e1 e2 e3=>?_
  simp [ht,ah,e1] at h2;omega
 clear h2
 obtain ⟨L1,tw⟩:∃L1,L1=wrote es i1 (es.drop i):=⟨_,rfl⟩
 have oo:r=wrote L1 i [x::row]:=by rw [tw,hi1,Ee (by omega),hr]
 have mq:L1.length=n1:=by rw [tw];simp [wrote];omega
 cbv
 refine bN (.vw 0 9 0 n1 c true) [.row 9 es] ?_ ?_ rfl ?_
 ·refine hW _ fun e1 e2 e3=>?_
  simp [ht,ah,e1,dN,bR];omega
 ·refine hW _ fun e1 e2 e3=>?_
  simp [ht,ah,e1,be,aY]
 cbv
 refine bN (.vw 0 9 i1 ni wo true) [.row 9 es] ?_ ?_ rfl ?_
 ·refine hW _ fun e1 e2 e3=>?_
  simp [ht,ah,e3,dN,bR];omega
 ·refine hW _ fun e1 e2 e3=>?_
  simp [ht,ah,e3,be,aY];omega
 cbv
 refine eB trv (U4 (by omega)) ?_
 cbv
 refine kH (by simp [ht]) ?_
 cbv
 refine dK [false,false,false,false,false,false,false,false,true] (by kernel_rfl) (by kernel_rfl) ?_
 cbv
 repeat (refine gI (by (simp;done)) ?_)
 refine iq (.vw 0 9 i1 ni wo true) (fun _=>⟨?_,?_⟩) ?_
 ·refine hW _ fun e1 e2 e3=>?_
  simp [ht,ah,e3,dN,bR];omega
 ·refine hW _ fun e1 e2 e3=>?_
  simp [ht,ah,e3,be,aY];omega
 cbv
 repeat (refine gI (by (simp;done)) ?_)
 refine iq (.vw 0 9 i oQ ci true) (fun _=>⟨?_,?_⟩) ?_
 ·simp [ht,dN,bR];omega
 ·simp [ht,be,aY,tv,pi]
 cbv
 refine bN (bJ (ni:Nat)) [.row 9 L1,.bC] ?_ ?_ ?_ ?_
 ·simp only [ht,eL]
  refine ⟨by omega,⟨by omega,?_⟩,?_⟩
  ·intro h;rw [h] at hn;simp at hn;omega
  intro r hr;exact aG r (List.mem_of_mem_drop (List.mem_of_mem_take hr))
 ·simp [ht,ah];omega
 ·simp only [ht,tw]
  rw [List.take_of_length_le (by simp;omega)]
 cbv
 refine bN (.vw 0 9 i oQ ci true) [.row 9 L1,.bC] ?_ ?_ rfl ?_
 ·simp [ht,dN,bR];omega
 ·simp [ht,be,aY,tv,pi]
 cbv
 refine bN (bJ 1) [.row 9 r,.bC] ?_ ?_ ?_ ?_
 ·simp only [ht,eL]
  refine ⟨⟨by omega,?_⟩,?_⟩
  ·intro h;rw [h] at mq;simp at mq;omega
  intro r hr;have:=List.mem_of_mem_take hr;simp at this;rw [this];exact hrow
 ·simp [ht,ah];omega
 ·simp [ht,oo,show min 1 oQ=1 by omega]
 cbv
 refine yx [true] trv ?_ rfl rfl rfl ?_
 ·simp only [ht];omega
 simp only [ht];rw [←AK]
theorem Hi (ht:TT t) {es:List (List D)} {x:D} {row:List D} {i n:Nat} (hn:n=es.length) (hi:i≤n) (aG:∀r∈es,r.length=9) (hrow:(x::row).length=9) (hs:n<1000000) {r:List (List D)} (hr:r=es.take i++(x::row)::es.drop i):
 FC 144 [.ow 0 9 n,bJ (i:Int),SL [x::row]] [.row 9 es] (.ret (SL r)) [.dead]:=
 dU fun c hc hc0=>Eo ht hn hi hc hc0 aG hrow hs hr
theorem P5 (ht:TT t) (q:aQ) {l:List (bw)} {es:List (List D)} (aG:es=l.map bw.cells) (f:Nat) (p:bw→Bool) (hl:l.length<9223372036854775807)
 (hf:∀x∈l,FC f [.agg [ST x.path,aD x.eU.a,aD x.eU.b,aD x.eU.c,aD x.eU.d,aD x.used.a,aD x.used.b,aD x.used.c,aD x.used.d],.ptr 0 0] [.var [ST q]] (.ret (BL (p x))) [.var [ST q]]) {r:Int} (hr:r=idxOf p l):FC 135 [SL es,.fn f [.ptr 0 0]] [.var [ST q]] (.ret (bJ r)) [.var [ST q]]:=by
 have hel:es.length=l.length:=by rw [aG,lgM]
 obtain ⟨J,hJ⟩:∃J:Nat→Nat→Prop,∀n v,J n v↔(v+n=l.length∧∀i<v,∀x,l[i]?=some x→p x=false):=⟨fun n v=>v+n=l.length∧∀i<v,∀x,l[i]?=some x→p x=false,fun _ _=>Iff.rfl⟩
 refine bP ht (aV:=[.var [ST q]]) Tryz.func135 rfl rfl (N:=19) rfl rfl (n:=1) rfl rfl ?_
 cbv
 refine bM ⟨[0,1,7,8],[],[]⟩ (σ:=Nat) (fun k=>[(8,bJ (t _ fun _=>(k:Int)))]) (fun _=>[]) J ?_
 cbv
 refine aJ ⟨l.length,0,(hJ _ _).2 ⟨by omega,by intro i hi;simp at hi⟩,by simp only [ht];rfl,?_⟩
 rintro n k hj
 obtain ⟨h2,h3⟩:=(hJ _ _).1 hj
 clear hj
 cbv
 refine ap (fun h=>?_) (fun h=>?_)
 ·simp only [ht,ah,decide_eq_true_eq] at h
  have hk:k<l.length:=by omega
  obtain ⟨x,hx⟩:∃x,l[k]?=some x:=⟨l[k],by simp⟩
  have pg:x∈l:=List.mem_of_getElem? hx
  have iw:=hf x pg
  obtain ⟨px,hpx⟩:∃b,b=p x:=⟨_,rfl⟩
  rw [←hpx] at iw
  obtain ⟨nm,⟨a,b,c,d⟩,⟨e,g,u,v⟩⟩:=x
  cbv
  refine jA [.str nm,.int .u64 a,.int .u64 b,.int .u64 c,.int .u64 d,.int .u64 e,.int .u64 g,.int .u64 u,.int .u64 v] ?_ ?_ ?_
  ·simp only [ht,ah];refine ⟨by omega,h,?_⟩;rw [aG];intro r hr;obtain ⟨y,_,rfl⟩:=List.mem_map.1 hr;rfl
  ·simp [ht,ah,aG,hx]
  cbv
  refine eB trv iw ?_
  cbv
  refine ap (fun hb=>?_) (fun hb=>?_)
  ·cbv
   refine aA trv trv rfl rfl rfl ?_
   have e:=dA hx (hpx▸hb) h3
   simp only [ht,ah,hr,idxOf,e]
  cbv
  refine aJ ⟨n-1,k+1,⟨by omega,(hJ _ _).2 ⟨by omega,?_⟩⟩,?_⟩
  ·intro i hi y hy
   by_cases hik:i<k
   ·exact h3 i hik y hy
   have:i=k:=by omega
   subst this;rw [hx] at hy;cases hy;rw [←hpx];exact hb
  simp only [ht,ah,aH (show k<9223372036854775807 by omega)];rfl
 simp only [ht,ah,decide_eq_false_iff_not] at h
 have hk:¬k<l.length:=by omega
 clear h
 cbv
 refine aA trv trv rfl rfl rfl ?_
 rw [hr,idxOf,dL]
 intro i y hy
 have:i<l.length:=by
  rcases Nat.lt_or_ge i l.length with h'|h';· exact h'
  simp [List.getElem?_eq_none h'] at hy
 exact h3 i (by omega) y hy
theorem Vg (ht:TT t) (q:aQ) (x:bw) {r:Bool} (hr:r=!Op.bytesLess x.path q):FC 143 [.agg [ST x.path,aD x.eU.a,aD x.eU.b,aD x.eU.c,aD x.eU.d,aD x.used.a,aD x.used.b,aD x.used.c,aD x.used.d],.ptr 0 0] [.var [ST q]] (.ret (BL r)) [.var [ST q]]:=by
 obtain ⟨nm,⟨a,b,c,d⟩,⟨e,g,u,v⟩⟩:=x
 refine bP ht (aV:=[.var [ST q]]) Tryz.func143 rfl rfl (N:=8) rfl rfl (n:=1) rfl rfl ?_
 cbv
 refine aA trv trv rfl rfl rfl ?_
 simp only [ht,hr]
theorem xY (ht:TT t) {l:List bw} {es:List (List D)} (aG:es=l.map bw.cells) (hs:l.length<1000000000):
 FC 106 [SL es] [] (.ret (.ow 0 9 (t _ fun _=>(l.map bw.cells).length))) [.row 9 (t _ fun _=>l.map bw.cells)]:=by
 simp only [ht];subst aG
 refine AQ ht ?_ ?_ (by simp)
 ·intro r hr;obtain ⟨y,_,rfl⟩:=List.mem_map.1 hr;rfl
 simp;omega
theorem vn (ht:TT t) {l:List bw} {x:bw} {k:Nat} {i:Int} (hi:i=k) (hk:k≤l.length) (hl:l.length<1000000):
 FC 144 [.ow 0 9 (t _ fun _=>(l.map bw.cells).length),bJ i,.cl [bw.cells x]] [.row 9 (t _ fun _=>l.map bw.cells)] (.ret (SL (t _ fun _=>(l.take k++x::l.drop k).map bw.cells))) [.dead]:=by
 simp only [ht];subst hi
 refine oH (args':=[.ow 0 9 (l.map bw.cells).length,bJ k,SL [bw.cells x]]) ?_ (Hi ht (by simp) (by simpa using hk) ?_ rfl (by simpa using hl) (by simp))
 ·intro β w ok vs h
  simp only [an] at h ⊢
  obtain ⟨u1,Yr,rfl,h1,u2,Oe,rfl,h2,u3,Vc,rfl,h3,h4⟩:=h
  exact ⟨u1,_,rfl,h1,u2,_,rfl,h2,u3,Vc,rfl,K9 h3,h4⟩
 intro r hr;obtain ⟨y,_,rfl⟩:=List.mem_map.1 hr;rfl
theorem P6 {t:Th} (ht:TT t) {α:Type} {l:List α} {cells cT:α→List D} {es:List (List D)} {g:Bool} {c:Prop} (aG:es=l.map cells) {z:Int} {n:Nat} (i:Nat) (x:α) {K:List D→Prop} (hi:g=true→z=i∧l[i]?=some x) (hn:∀x,(cells x).length=n) (hT:∀x,cells x=cT x)
 (hc:g=true→c) (hK:K (cT x)):nv g (c∧(t Prop fun _=>0≤z∧z<es.length∧∀r∈es,r.length=n)) (t _ fun _=>es.getD z.toNat []) K:=by
 refine Se (cT x) (fun hg=>?_) hK
 obtain ⟨h1,h2⟩:=hi hg
 obtain ⟨ds,h,hk⟩:=v8 (K:=fun ds=>ds=cT x) ht aG h2 h1 hn hT rfl
 obtain ⟨h3,h4⟩:=h rfl
 exact ⟨⟨hc hg,h3⟩,h4.trans hk⟩
theorem qx {l:List bw} {q:aQ} {r:Int} (h:r=bY l q):(r=-1∧bY l q=-1∧l.findIdx? (fun e=>decide (e.path=q))=none)∨∃(k:Nat) (x:bw),r=k∧bY l q=k∧k<l.length∧l[k]?=some x∧l.findIdx? (fun e=>decide (e.path=q))=some k:=by
 rcases cF (p:=fun e:bw=>decide (e.path=q)) (l:=l) (r:=r) h with ⟨e1,e2,e3⟩|⟨i,x,hi,hil,e1,e2,e3,e4⟩
 ·exact .inl ⟨e1,by rw [←h,e1],e2⟩
 exact .inr ⟨i,x,hi,by rw [←h,hi],hil,e1,e3⟩
def SO (l:List bw) (q:aQ):Nat:=match l.findIdx? (fun e=>!Op.bytesLess e.path q) with
 |some k=>k
 |none=>l.length
theorem CY {l:List bw} {q:aQ} {v:bO} (h:l.findIdx? (fun e=>decide (e.path=q))=none) (h1:named q=true) (h2:¬q=[]→0≤bY l (parent q)) (h3:bY l q<0→(l.length:Int)<16):
 uP l q v=(l.take (SO l q)++⟨q,v,bO.zero⟩::l.drop (SO l q),0):=by
 have e0:bY l q=-1:=by unfold bY idxOf;rw [h]
 have h3:=h3 (by omega)
 unfold uP SO
 rw [if_neg (by simp [h1]),if_neg (by simp;exact fun g=>by have:=h2 g;omega),if_neg (by simp;omega)]
 simp only [h]
 cases l.findIdx? (fun e=>!Op.bytesLess e.path q)<;>simp
theorem MW {l:List bw} {q:aQ} {v:bO} (h1:named q=true) (h2:¬q=[]→0≤bY l (parent q)) (h3:bY l q<0) (h4:(16:Int)≤l.length):uP l q v=(l,9):=by
 unfold uP
 rw [if_neg (by simp [h1]),if_neg (by simp;exact fun g=>by have:=h2 g;omega),if_pos (by simp;omega)]
theorem CZ {l:List bw} {q:aQ} {v:bO} {k:Nat} {x:bw} (h:l.findIdx? (fun e=>decide (e.path=q))=some k) (hx:l[k]?=some x) (h1:named q=true) (h2:¬q=[]→0≤bY l (parent q)):
 uP l q v=if kU x.used v then (l.set k {x with eU:=v},0) else (l,10):=by
 have e0:bY l q=k:=by unfold bY idxOf;rw [h]
 unfold uP
 rw [if_neg (by simp [h1]),if_neg (by simp;exact fun g=>by have:=h2 g;omega),if_neg (by simp;omega)]
 simp only [h,List.getD_eq_getElem?_getD,hx,Option.getD_some]
 cases kU x.used v<;>simp
theorem yT (ht:TT t) (q:aQ) (a b c d:Int) {l:List bw} {es:List (List D)} (aG:es=l.map bw.cells) (hl:l.length<100000) (hq:q.length<1000000000000) (hpq:(parent q).length<1000000000000):
 FC 92 [SL es,ST q,V4 a b c d] [] (.ret (AP t (t _ fun _=>uP l q ⟨a,b,c,d⟩))) []:=by
 obtain ⟨pq,MX⟩:∃p,p=parent q:=⟨_,rfl⟩
 obtain ⟨nq,EW⟩:∃p,p=named q:=⟨_,rfl⟩
 refine bP ht (aV:=[]) Tryz.func92 rfl rfl (N:=77) rfl rfl (n:=0) rfl rfl ?_
 cbv
 have az:es.length=l.length:=by rw [aG,lgM]
 refine bq trv (lH ht _ ‹_› (by omega)) trv rfl rfl (fun r0 c7=>?_)
 simp only [ht] at c7
 (rcases qx (q:=q) c7 with ⟨e1,e0,e2⟩|⟨i,x,e1,e0,hil,e3,e2⟩)
 ·cbv
  refine bq trv (AO ht _ ‹_›) trv rfl rfl (fun r1 cP=>?_)
  simp only [ht] at cP
  rw [←EW] at cP
  subst r1
  cbv
  refine ap (fun h2=>?_) (fun h2=>?_)
  ·simp [ht] at h2
   cbv
   refine aA trv trv rfl rfl rfl ?_
   (subst MX EW;simp_all [uP];done)
  simp [ht] at h2
  cbv
  iterate 2 refine gI (by simp [ht]) ?_
  refine eT (fun g3=>⟨by simp [ht] at g3 ⊢;exact g3,trv,CW ht _ ‹_›⟩) rfl rfl (fun r4 kw=>?_)
  simp only [ht] at kw
  rw [←MX] at kw
  subst r4
  cbv
  refine eT (fun g5=>⟨by simp [ht] at g5 ⊢;exact g5,trv,lH ht _ ‹_› (by omega)⟩) rfl rfl (fun r6 nu=>?_)
  simp only [ht] at nu
  skip
  cbv
  refine gI (by simp [ht]) ?_
  refine pI (by simp [ht]) ?_
  refine ap (fun h7=>?_) (fun h7=>?_)
  ·simp [ht] at h7
   cbv
   refine aA trv trv rfl rfl rfl ?_
   (subst MX EW;simp_all [uP];done)
  simp [ht] at h7
  cbv
  iterate 3 refine gI (by simp [ht]) ?_
  refine pI (by simp [ht]) ?_
  refine ap (fun h8=>?_) (fun h8=>?_)
  ·simp [ht,ah,az] at h8
   cbv
   refine aA trv trv rfl rfl rfl ?_
   (simp only [ht];rw [MW (by rw [←EW];assumption) (fun g=>by rw [←MX,←nu];exact h7 g) (by omega) h8.2];simp [aG];done)
  simp [ht,ah,az] at h8
  cbv
  refine dK [true,true,true,false,false,false,false,false,false,true,true,true,true] (by kernel_rfl) (by kernel_rfl) ?_
  cbv
  iterate 2 refine gI (by simp [ht]) ?_
  (refine P6 ht aG (cT:=bw.bF t) 0 default (fun g=>absurd g (by simp [ht,e1])) (fun _=>rfl) (fun _=>by simp only [bw.bF]) (fun g=>by exact ⟨g,g,trv⟩) ?_)
  cbv
  iterate 3 refine gI (by simp [ht]) ?_
  refine eT (fun g9=>⟨by simp [ht] at g9 ⊢;exact g9,trv,ve ht _ _ _ _ _ _ _ _⟩) rfl rfl (fun r10 ZI=>?_)
  simp only [ht] at ZI
  cbv
  refine gI (by simp [ht]) ?_
  refine pI (by simp [ht]) ?_
  refine ap (fun h11=>?_) (fun h11=>?_)
  ·simp [ht] at h11
   omega
  simp [ht] at h11
  cbv
  refine jB trv (xY ht ‹_› (by omega)) trv rfl (.inr rfl) ?_
  cbv
  refine ap (fun h12=>?_) (fun h12=>?_)
  ·simp [ht] at h12
   omega
  simp [ht] at h12
  cbv
  (obtain ⟨r9,jP⟩:∃r,r=idxOf (fun o:bw=>!Op.bytesLess o.path q) l:=⟨_,rfl⟩;refine dz [0] trv rfl rfl (P5 ht q aG 143 (fun o:bw=>!Op.bytesLess o.path q) (by omega) (fun x _=>Vg ht q x rfl) jP) (cz ?_);have ec:=cF jP;clear jP;rcases ec with ⟨f1,f2,f3⟩|⟨z,y,f0,fz,f1,f2,f3,f4⟩)
  ·cbv
   refine ap (fun P7=>?_) (fun P7=>?_)
   ·simp [ht] at P7
    cbv
    refine dz [3] trv rfl rfl (vn ht (l:=l) (x:=⟨q,⟨a,b,c,d⟩,bO.zero⟩) (k:=SO l q) (by (simp [ht,SO,f2,az];done)) (by (simp [SO,f2];done)) (by simp only [ah] at*;omega)) (cz ?_)
    cbv
    refine aA trv trv rfl rfl rfl ?_
    (simp only [ht];rw [CY e2 (by rw [←EW];assumption) (fun g=>by rw [←MX,←nu];exact h7 g) (fun g=>h8 (by omega))])
   simp [ht] at P7
   omega
  cbv
  refine ap (fun MY=>?_) (fun MY=>?_)
  ·simp [ht] at MY
   (simp only [ah] at*;omega)
  simp [ht] at MY
  cbv
  refine dz [3] trv rfl rfl (vn ht (l:=l) (x:=⟨q,⟨a,b,c,d⟩,bO.zero⟩) (k:=SO l q) (by (simp only [SO,f3];exact f0)) (by (simp only [SO,f3];omega)) (by simp only [ah] at*;omega)) (cz ?_)
  cbv
  refine aA trv trv rfl rfl rfl ?_
  (simp only [ht];rw [CY e2 (by rw [←EW];assumption) (fun g=>by rw [←MX,←nu];exact h7 g) (fun g=>h8 (by omega))])
 cbv
 refine bq trv (AO ht _ ‹_›) trv rfl rfl (fun r15 XF=>?_)
 simp only [ht] at XF
 rw [←EW] at XF
 subst r15
 cbv
 refine ap (fun P8=>?_) (fun P8=>?_)
 ·simp [ht] at P8
  cbv
  refine aA trv trv rfl rfl rfl ?_
  (subst MX EW;simp_all [uP];done)
 simp [ht] at P8
 cbv
 iterate 2 refine gI (by simp [ht]) ?_
 refine eT (fun g17=>⟨by simp [ht] at g17 ⊢;exact g17,trv,CW ht _ ‹_›⟩) rfl rfl (fun r18 XG=>?_)
 simp only [ht] at XG
 rw [←MX] at XG
 subst r18
 cbv
 refine eT (fun g19=>⟨by simp [ht] at g19 ⊢;exact g19,trv,lH ht _ ‹_› (by omega)⟩) rfl rfl (fun r20 Vh=>?_)
 simp only [ht] at Vh
 skip
 cbv
 refine gI (by simp [ht]) ?_
 refine pI (by simp [ht]) ?_
 refine ap (fun XH=>?_) (fun XH=>?_)
 ·simp [ht] at XH
  cbv
  refine aA trv trv rfl rfl rfl ?_
  (subst MX EW;simp_all [uP];done)
 simp [ht] at XH
 cbv
 iterate 3 refine gI (by simp [ht]) ?_
 refine pI (by simp [ht]) ?_
 refine ap (fun ZJ=>?_) (fun ZJ=>?_)
 ·simp [ht,ah,az] at ZJ
  (simp only [ah] at*;omega)
 simp [ht,ah,az] at ZJ
 cbv
 refine dK [true,true,true,false,false,false,false,false,false,true,true,true,true] (by kernel_rfl) (by kernel_rfl) ?_
 cbv
 iterate 2 refine gI (by simp [ht]) ?_
 (refine P6 ht aG (cT:=bw.bF t) i x (fun g=>⟨e1,e3⟩) (fun _=>rfl) (fun _=>by simp only [bw.bF]) (fun g=>by exact ⟨g,g,trv⟩) ?_)
 cbv
 iterate 3 refine gI (by simp [ht]) ?_
 refine eT (fun g23=>⟨by simp [ht] at g23 ⊢;exact g23,trv,ve ht _ _ _ _ _ _ _ _⟩) rfl rfl (fun r24 ZK=>?_)
 simp only [ht] at ZK
 cbv
 refine gI (by simp [ht]) ?_
 refine pI (by simp [ht]) ?_
 refine ap (fun ZL=>?_) (fun ZL=>?_)
 ·simp [ht] at ZL
  cbv
  refine aA trv trv rfl rfl rfl ?_
  (have ts:=CZ (v:=⟨a,b,c,d⟩) e2 e3 (by rw [←EW];assumption) (fun g=>by rw [←MX,←Vh];exact XH g);simp only [ht];rw [ts];simp_all;done)
 simp [ht] at ZL
 cbv
 refine jB trv (xY ht ‹_› (by omega)) trv rfl (.inr rfl) ?_
 cbv
 refine ap (fun ZM=>?_) (fun ZM=>?_)
 ·simp [ht] at ZM
  cbv
  refine ⟨?_,?_⟩
  ·(subst MX EW;simp_all;done)
  refine ⟨?_,?_⟩
  ·(subst MX EW;simp_all;done)
  cbv
  refine aA trv (by simp [ht]) rfl rfl rfl ?_
  (have ts:=CZ (v:=⟨a,b,c,d⟩) e2 e3 (by rw [←EW];assumption) (fun g=>by rw [←MX,←Vh];exact XH g);simp only [ht];rw [ts];simp_all [List.map_set,bt];done)
 simp [ht] at ZM
 (simp only [ah] at*;omega)
end Dem
end
