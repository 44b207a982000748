/- Parts of a proof, joined. -/
import Derived.Test.YtihohjnkkalgiaaGreatDoorS17
set_option linter.all false
set_option maxRecDepth 100000
set_option maxHeartbeats 4000000
section
open Go Dem Go.Proofs
namespace Dem
variable {t:Th}
theorem Qg (ht:TT t) (m x y:Int) (hx:0≤x∧x<18446744073709551616) (hm:0≤m∧m<18446744073709551616) {r:Int} {ok:Bool} (h:(r,ok)=ME x m):
 FC 168 [aC x,aC y,.ptr 0 0] [.var [aC m]] (.ret (.eA [aC r,BL ok])) [.var [aC m]]:=by
 refine bP ht (aQ:=[.var [aC m]]) Tryz.func168 rfl rfl (N:=12) rfl rfl (n:=1) rfl rfl ?_
 cbv
 refine gB trv (M2 ht x m hx hm h) trv rfl rfl ?_
 cbv
 exact az trv trv rfl rfl rfl rfl
theorem S4 (ht:TT t) (m:Int) (a0 a1 a2 a3 b0 b1 b2 b3:Int) (op:Int→Int→Int×Bool) (F:Nat) (hop:∀(x y r:Int) (ok:Bool),(r,ok)=op x y→0≤x∧x<18446744073709551616→FC F [.d (.int .u64 x),.d (.int .u64 y),.ptr 0 0] [.var [aC m]] (.ret (.eA [.d (.int .u64 r),.d (.bool ok)])) [.var [aC m]])
 (u0:0≤a0∧a0<18446744073709551616) (u1:0≤a1∧a1<18446744073709551616) (u2:0≤a2∧a2<18446744073709551616) (u3:0≤a3∧a3<18446744073709551616)
 {r0 r1 r2 r3:Int} {ok:Bool} (h:(⟨r0,r1,r2,r3⟩,ok)=both op ⟨a0,a1,a2,a3⟩ ⟨b0,b1,b2,b3⟩):
 FC 167 [.agg [.d (.int .u64 a0),.d (.int .u64 a1),.d (.int .u64 a2),.d (.int .u64 a3)],.agg [.d (.int .u64 b0),.d (.int .u64 b1),.d (.int .u64 b2),.d (.int .u64 b3)],.fn F [.ptr 0 0]] [.var [aC m]]
  (.ret (.eA [.agg [.d (.int .u64 r0),.d (.int .u64 r1),.d (.int .u64 r2),.d (.int .u64 r3)],.d (.bool ok)])) [.var [aC m]]:=by
 obtain ⟨⟨s0,k0⟩,e0⟩:∃s,s=op a0 b0:=⟨_,rfl⟩
 obtain ⟨⟨s1,k1⟩,e1⟩:∃s,s=op a1 b1:=⟨_,rfl⟩
 obtain ⟨⟨s2,k2⟩,e2⟩:∃s,s=op a2 b2:=⟨_,rfl⟩
 obtain ⟨⟨s3,k3⟩,e3⟩:∃s,s=op a3 b3:=⟨_,rfl⟩
 have h0:(k0&&k1&&k2&&k3)=false→r0=0∧r1=0∧r2=0∧r3=0∧ok=false:=by
  intro hk;simp only [both,←e0,←e1,←e2,←e3] at h;rw [if_neg (by rw [hk];simp)] at h;cases h;exact ⟨rfl,rfl,rfl,rfl,rfl⟩
 have h1:(k0&&k1&&k2&&k3)=true→r0=s0∧r1=s1∧r2=s2∧r3=s3∧ok=true:=by
  intro hk;simp only [both,←e0,←e1,←e2,←e3] at h;rw [if_pos hk] at h;cases h;exact ⟨rfl,rfl,rfl,rfl,rfl⟩
 clear h
 have fin:∀{B:List aA},(k0&&k1&&k2&&k3)=false→GG 1 True (AV.eA [.agg [.d (.int .u64 0),.d (.int .u64 0),.d (.int .u64 0),.d (.int .u64 0)],.d (.bool false)]) (.var [aC m]::B) (some (True,AV.eA [.agg [.d (.int .u64 0),.d (.int .u64 0),.d (.int .u64 0),.d (.int .u64 0)],.d (.bool false)]))
  (.ret (.eA [.agg [.d (.int .u64 r0),.d (.int .u64 r1),.d (.int .u64 r2),.d (.int .u64 r3)],.d (.bool ok)])) [.var [aC m]]:=by
  intro bx hk
  obtain ⟨rfl,rfl,rfl,rfl,rfl⟩:=h0 hk
  exact az trv trv rfl rfl rfl rfl
 refine bP ht (aQ:=[.var [aC m]]) Tryz.func167 rfl rfl (N:=34) rfl rfl (n:=1) rfl rfl ?_
 cbv
 refine bH ⟨[2,3,4,6,12,13],[],[]⟩ (σ:=Nat) (fun j=>[(13,.d (.int .i64 j))]) (fun j=>[(1,.var [.d (.int .u64 (bif Nat.blt 0 j then s0 else a0)),.d (.int .u64 (bif Nat.blt 1 j then s1 else a1)),.d (.int .u64 (bif Nat.blt 2 j then s2 else a2)),.d (.int .u64 (bif Nat.blt 3 j then s3 else a3))])])
  (fun n j=>n+j=4∧(0<j→k0=true)∧(1<j→k1=true)∧(2<j→k2=true)∧(3<j→k3=true)) ?_
 cbv
 refine aH ⟨4,0,⟨rfl,by omega,by omega,by omega,by omega⟩,rfl,?_⟩
 rintro n j ⟨hn,g0,g1,g2,g3⟩
 have hj:j=0∨j=1∨j=2∨j=3∨j=4:=by omega
 rcases hj with rfl|rfl|rfl|rfl|rfl
 ·cbv
  refine lp (by simp [ht]) ?_
  cbv
  refine ⟨by simp [ht],by simp [ht],dP [0] trv rfl rfl (hop _ _ _ _ e0 u0) (cK ?_)⟩
  cbv
  refine av (fun hc=>?_) (fun hc=>?_)
  ·simp only [ht,Bool.not_eq_true'] at hc
   cbv
   exact fin (by simp [hc])
  simp only [ht,Bool.not_eq_false'] at hc
  cbv
  refine ⟨by simp [ht],?_⟩
  refine aH ⟨3-0,0+1,⟨⟨by omega,by omega,by simp_all,by simp_all,by simp_all,by simp_all⟩,?_⟩⟩
  simp only [ht];rfl
 ·cbv
  refine lp (by simp [ht]) ?_
  cbv
  refine ⟨by simp [ht],by simp [ht],dP [0] trv rfl rfl (hop _ _ _ _ e1 u1) (cK ?_)⟩
  cbv
  refine av (fun hc=>?_) (fun hc=>?_)
  ·simp only [ht,Bool.not_eq_true'] at hc
   cbv
   exact fin (by simp [hc])
  simp only [ht,Bool.not_eq_false'] at hc
  cbv
  refine ⟨by simp [ht],?_⟩
  refine aH ⟨3-1,1+1,⟨⟨by omega,by omega,by simp_all,by simp_all,by simp_all,by simp_all⟩,?_⟩⟩
  simp only [ht];rfl
 ·cbv
  refine lp (by simp [ht]) ?_
  cbv
  refine ⟨by simp [ht],by simp [ht],dP [0] trv rfl rfl (hop _ _ _ _ e2 u2) (cK ?_)⟩
  cbv
  refine av (fun hc=>?_) (fun hc=>?_)
  ·simp only [ht,Bool.not_eq_true'] at hc
   cbv
   exact fin (by simp [hc])
  simp only [ht,Bool.not_eq_false'] at hc
  cbv
  refine ⟨by simp [ht],?_⟩
  refine aH ⟨3-2,2+1,⟨⟨by omega,by omega,by simp_all,by simp_all,by simp_all,by simp_all⟩,?_⟩⟩
  simp only [ht];rfl
 ·cbv
  refine lp (by simp [ht]) ?_
  cbv
  refine ⟨by simp [ht],by simp [ht],dP [0] trv rfl rfl (hop _ _ _ _ e3 u3) (cK ?_)⟩
  cbv
  refine av (fun hc=>?_) (fun hc=>?_)
  ·simp only [ht,Bool.not_eq_true'] at hc
   cbv
   exact fin (by simp [hc])
  simp only [ht,Bool.not_eq_false'] at hc
  cbv
  refine ⟨by simp [ht],?_⟩
  refine aH ⟨3-3,3+1,⟨⟨by omega,by omega,by simp_all,by simp_all,by simp_all,by simp_all⟩,?_⟩⟩
  simp only [ht];rfl
 cbv
 refine pp (by simp [ht]) ?_
 cbv
 obtain ⟨rfl,rfl,rfl,rfl,rfl⟩:=h1 (by simp [g0,g1,g2,g3])
 exact az trv trv rfl rfl rfl rfl
theorem M3 (ht:TT t) (a0 a1 a2 a3 n:Int) (hu:(⟨a0,a1,a2,a3⟩:bM).u') (hn:0≤n∧n<18446744073709551616):
 FC 117 [V4 a0 a1 a2 a3,aC n] [] (.ret (YR (t _ fun _=>Jp ⟨a0,a1,a2,a3⟩ n))) []:=by
 obtain ⟨⟨⟨r0,r1,r2,r3⟩,ok⟩,h⟩:∃r,r=Jp ⟨a0,a1,a2,a3⟩ n:=⟨_,rfl⟩
 rw [←h]
 obtain ⟨u0,u1,u2,u3⟩:=hu
 refine bP ht (aQ:=[]) Tryz.func117 rfl rfl (N:=12) rfl rfl (n:=0) rfl rfl ?_
 cbv
 refine dP [1] trv rfl rfl (S4 ht n a0 a1 a2 a3 0 0 0 0 (fun x _=>ME x n) 168 (fun x y r ok e hx=>Qg ht n x y hx hn e) u0 u1 u2 u3 h) (cK ?_)
 cbv
 refine az trv trv rfl rfl rfl ?_
 simp only [ht]
def Ask.sm (x:Ask):Prop:=x.path.length<1000000000000∧x.gx.u'∧x.cE.length<1000000000∧∀m∈x.cE,m.sm
theorem rU (ht:TT t) (p:aK) (a b c d n pr tk:Int) {sl:List Term} (sr:List (List D)) (hu:(⟨a,b,c,d⟩:bM).u'):
 FC 77 [.agg [ST p,aC a,aC b,aC c,aC d,bG n,bG pr,bG tk,SL sr]] [] (.ret (YR (t _ fun _=>cZ ⟨p,⟨a,b,c,d⟩,n,pr,tk,sl⟩))) []:=by
 refine bP ht (aQ:=[]) Tryz.func77 rfl rfl (N:=12) rfl rfl (n:=0) rfl rfl ?_
 cbv
 (refine bc trv (M3 ht a b c d _ hu (by simp only [ht];rw [oO];omega)) trv rfl rfl (fun r9 jU=>?_);simp only [ht,oO] at jU)
 cbv
 refine az trv trv rfl rfl rfl ?_
 (simp [cZ, *];done)
theorem JU (ht:TT t) (n a b:Int):FC 176 [bG n,bG a,bG b] [] (.ret (dh (t _ fun _=>Ry n a b))) []:=by
 refine bP ht (aQ:=[]) Tryz.func176 rfl rfl (N:=15) rfl rfl (n:=0) rfl rfl ?_
 cbv
 iterate 3 refine gI (by simp [ht]) ?_
 refine pI (by simp [ht]) ?_
 refine az trv trv rfl rfl rfl ?_
 (simp [ht,Ry];done)
theorem Dh (ht:TT t) (p:aK) (a b c d n pr tk:Int) {sl:List Term} {sr:List (List D)} (hsr:sr=sl.map Term.cells) (wM:(⟨p,⟨a,b,c,d⟩,n,pr,tk,sl⟩:Ask).sm):
 FC 132 [.agg [ST p,aC a,aC b,aC c,aC d,bG n,bG pr,bG tk,SL sr]] [] (.ret (gF (t _ fun _=>eS ⟨p,⟨a,b,c,d⟩,n,pr,tk,sl⟩))) []:=by
 obtain ⟨h1,h2,h3,h4⟩:=wM
 simp only at h1 h2 h3 h4
 refine bP ht (aQ:=[]) Tryz.func132 rfl rfl (N:=46) rfl rfl (n:=0) rfl rfl ?_
 cbv
 have Z7:sr.length=sl.length:=by rw [hsr,lgM]
 (refine bc trv (rU ht p a b c d n pr tk (sl:=sl) sr h2) trv rfl rfl (fun r9 jU=>?_);simp only [ht] at jU)
 cbv
 refine bc trv (HA ht _ _ ‹_›) trv rfl rfl (fun r0 dj=>?_)
 simp only [ht] at dj
 cbv
 refine av (fun h1=>?_) (fun h1=>?_)
 ·simp [ht] at h1
  cbv
  refine az trv trv rfl rfl rfl ?_
  (simp only [ht,eS];grind)
 simp [ht] at h1
 cbv
 refine bc trv (JU ht _ _ _) trv rfl rfl (fun r2 iJ=>?_)
 simp only [ht] at iJ
 cbv
 iterate 3 refine gI (by simp [ht]) ?_
 refine eY (fun g3=>⟨by simp [ht] at g3 ⊢;exact g3,trv,JU ht _ _ _⟩) rfl rfl (fun r4 k9=>?_)
 simp only [ht] at k9
 cbv
 refine gI (by simp [ht]) ?_
 refine pI (by simp [ht]) ?_
 iterate 3 refine gI (by simp [ht]) ?_
 refine eY (fun g5=>⟨by simp [ht] at g5 ⊢;exact g5,trv,JU ht _ _ _⟩) rfl rfl (fun r6 ol=>?_)
 simp only [ht] at ol
 cbv
 refine gI (by simp [ht]) ?_
 refine pI (by simp [ht]) ?_
 refine av (fun h7=>?_) (fun h7=>?_)
 ·simp [ht] at h7
  cbv
  refine az trv trv rfl rfl rfl ?_
  (simp only [ht,eS];grind)
 simp [ht] at h7
 cbv
 refine bc trv (MZ ht ‹_› ‹_› ‹_›) trv rfl rfl (fun r8 Ww=>?_)
 simp only [ht] at Ww
 cbv
 refine av (fun h9=>?_) (fun h9=>?_)
 ·simp [ht] at h9
  cbv
  refine az trv trv rfl rfl rfl ?_
  (simp only [ht,eS];grind)
 simp [ht] at h9
 cbv
 refine av (fun h10=>?_) (fun h10=>?_)
 ·simp [ht] at h10
  cbv
  refine az trv trv rfl rfl rfl ?_
  (simp only [ht,eS];grind)
 simp [ht] at h10
 cbv
 refine az trv trv rfl rfl rfl ?_
 (simp only [ht,eS];grind)
theorem LS (ht:TT t) (s:aK) (hs:s.length<1000000000000):FC 178 [ST s] [] (.ret (.ow 0 1 (t _ fun _=>((mC s).map bE).length))) [.row 1 (t _ fun _=>(mC s).map bE)]:=by
 have hp:=kq s
 refine bP ht (aQ:=[]) Tryz.func178 rfl rfl (N:=22) rfl rfl (n:=0) rfl rfl ?_
 cbv
 refine aF trv (vE ht _ ‹_›) trv rfl rfl rfl (fun r0 dj=>?_)
 simp only [ht] at dj
 have hrl:(r0).length=(parts s).length:=by rw [dj]
 cbv
 obtain ⟨J1,pE⟩:∃J1:Nat→List (List D)×Int→Prop,∀n u i,J1 n (u,i)↔(∃k:Nat,i=k∧k+n=(parts s).length∧u=((mC s).take k).map bE):=⟨fun n v=>match v with|(u,i)=>(∃k:Nat,i=k∧k+n=(parts s).length∧u=((mC s).take k).map bE),fun _ _ _=>Iff.rfl⟩
 refine bH ⟨[0,3,7,8],[(3,1)],[]⟩ (σ:=List (List D)×Int) (fun v=>[(3,.ow 0 1 (t _ fun _=>(v.1).length)),(8,.d (.int .i64 (t _ fun _=>v.2)))]) (fun v=>[(0,.row 1 (t _ fun _=>v.1))]) J1 ?_
 cbv
 refine aH ⟨(parts s).length,([],_),(pE _ _ _).2 ?_,by simp only [ht];rfl,?_⟩
 ·exact ⟨0,rfl,by simp,rfl⟩
 rintro n ⟨u,i⟩ hj
 replace hj:=(pE _ _ _).1 hj
 obtain ⟨k,rfl,j1,j4⟩:=hj
 cbv
 refine av (fun h2=>?_) (fun h2=>?_)
 ·simp [ht,ah] at h2
  cbv
  refine aF trv (vE ht _ ‹_›) trv rfl rfl rfl (fun r3 mM=>?_)
  simp only [ht] at mM
  have hrl:(r3).length=(parts s).length:=by rw [mM]
  cbv
  refine ⟨?_,?_⟩
  ·(simp only [ht];refine ⟨?_,fun r hr=>by obtain ⟨y,_,rfl⟩:=List.mem_map.1 hr;rfl⟩;rw [aG (by omega)];simp only [bS];rw [lgM];omega)
  cbv
  (refine bc trv (LO ht (l:=r3.take (k+1)) (by simp only [ht,iD];rw [aG (by omega),List.map_take];rfl) (by simp;omega) (by rw [mM];exact Nat.le_trans (CX s (k+1)) (by omega))) trv rfl rfl (fun r4 k9=>?_);simp only [ht] at k9;rw [mM] at k9)
  cbv
  refine ⟨?_,?_⟩
  ·(simp only [ht];grind)
  cbv
  refine cz (_,_) (by simp only [ht,←List.length_append];rfl) (n-1) ?_ ((pE _ _ _).2 ?_)
  ·omega
  simp only [ah]
  exact ⟨k+1,aG (by omega),by omega,by rw [CY (by omega),j4,←k9];simp⟩
 simp [ht,ah] at h2
 cbv
 refine B5 trv rfl rfl rfl rfl ?_ ?_
 ·(simp [ht,j4,List.take_of_length_le (show (mC s).length≤k by rw [iu];omega)];done)
 (simp [ht,j4,List.take_of_length_le (show (mC s).length≤k by rw [iu];omega)];done)
theorem EJ (ht:TT t) {es:List (List D)} {x:D} {row:List D} {i n c:Nat} (hn:n=es.length) (hi:i≤n) (hc:n≤c) (hc0:n=0→c=0) (aE:∀r∈es,r.length=1) (hrow:(x::row).length=1) (hs:n<1000000) {r:List (List D)} (hr:r=es.take i++(x::row)::es.drop i):
 FC 198 [.vw 0 1 0 n c true,bG (i:Int),SL [x::row]] [.row 1 es] (.ret (SL r)) [.dead]:=by
 obtain ⟨n1,BU⟩:∃n1,n1=n+1:=⟨_,rfl⟩
 obtain ⟨i1,hi1⟩:∃i1,i1=i+1:=⟨_,rfl⟩
 obtain ⟨ni,hni⟩:∃ni,ni=n-i:=⟨_,rfl⟩
 obtain ⟨ci,pJ⟩:∃ci,ci=c-i:=⟨_,rfl⟩
 obtain ⟨wL,JK⟩:∃wL,wL=c-i1:=⟨_,rfl⟩
 obtain ⟨oW,tN⟩:∃oW,oW=n1-i:=⟨_,rfl⟩
 have hW:∀P:Prop,((IntKind.i64.wrap ((n:Int)+1)=(n1:Int))→(IntKind.i64.wrap ((n1:Int)-(i:Int))=(oW:Int))→(IntKind.i64.wrap ((i:Int)+1)=(i1:Int))→P)→P:=
  fun P h=>h (by rw [wrap64 (by omega) (by omega)];omega) (by rw [wrap64 (by omega) (by omega)];omega) (by rw [wrap64 (by omega) (by omega)];omega)
 have hrl:r.length=n1:=by rw [hr,List.length_append,List.length_cons,List.length_take,List.length_drop];omega
 have Vp:n≠0→FC 222 [SL [x::row],.vw 0 1 i1 ni wL true] [.row 1 es] (.ret (BL false)) [.row 1 es]:=fun h0=>
  iC Ul Tryz.func222 rfl rfl rfl rfl (tS:=51) (tR:=4) rfl rfl (by intro h;rw [h] at hn;exact h0 hn)
 refine bP ht (aQ:=[.row 1 es]) Tryz.func198 rfl rfl (N:=95) rfl rfl (n:=1) rfl rfl ?_
 cbv
 refine bL (.vw 0 1 i ni ci true) [.row 1 es] ?_ ?_ rfl ?_
 ·simp [ht,dS,bS];omega
 ·simp [ht,aW,aS,hni,pJ]
 cbv
 refine pp (by simp [ht]) ?_
 cbv
 refine av (fun h=>?_) (fun h=>?_)
 ·have hin:i=n:=by simp [ht,ah] at h;omega
  clear h
  cbv
  refine bL (.ow 1 1 n1) [.dead,.row 1 r] ?_ ?_ ?_ ?_
  ·simp only [ht]
   refine ⟨⟨hn,by simp;omega,?_⟩,rfl,hn,fun h=>⟨hc0 (by rw [hn,h];rfl),rfl⟩⟩
   intro r hr
   rcases List.mem_append.1 hr with hr|hr
   ·exact aE r hr
   simp at hr;subst hr;exact hrow
  ·simp [ht,BU,hn]
  ·simp only [ht];rw [hr]
   have:i=es.length:=by omega
   subst this;simp
  cbv
  refine az trv ?_ rfl rfl rfl rfl
  simp only [ht];exact hrl.symm
 have hin:i<n:=by simp [ht,ah] at h;omega
 clear h
 have AY:r=(r.drop 0).take n1:=by rw [List.drop_zero,List.take_of_length_le (by omega)]
 cbv
 refine av (fun h2=>?_) (fun h2=>?_)
 ·have Vq:c=n:=by
   refine hW _ fun e1 e2 e3=>?_
   simp [ht,ah,e1] at h2;omega
  clear h2
  obtain ⟨L,hL⟩:∃L:List (List D),L=es.take i++List.replicate (es.length+1-i) [D.str []]:=⟨_,rfl⟩
  have Iv:L.length=n1:=by rw [hL];simp;omega
  obtain ⟨L1,tO⟩:∃L1,L1=wrote L i [x::row]:=⟨_,rfl⟩
  have mG:L1.length=n1:=by rw [tO];simp [wrote,Iv];omega
  have ph:r=wrote L1 i1 (es.drop i):=by rw [hi1,tO,hL,vA (by omega),hr]
  cbv
  refine bL (.vw 0 1 0 i c true) [.row 1 es] ?_ ?_ rfl ?_
  ·simp [ht,dS,bS];omega
  ·simp [ht,aW,aS]
  cbv
  refine bL (.vw 1 1 0 n1 n1 false) [.row 1 es,.row 1 L] ?_ ?_ ?_ ?_
  ·refine hW _ fun e1 e2 e3=>?_
   simp [ht,ah,e1,e2];omega
  ·refine hW _ fun e1 e2 e3=>?_
   simp [ht,ah,e1,e2];omega
  ·refine hW _ fun e1 e2 e3=>?_
   simp [ht,ah,e1,e2,hL];omega
  cbv
  refine bL (.vw 1 1 i oW oW false) [.row 1 es,.row 1 L] ?_ ?_ rfl ?_
  ·simp [ht,dS,bS];omega
  ·simp [ht,aW,aS,tN]
  cbv
  refine bL (bG 1) [.row 1 es,.row 1 L1] ?_ ?_ ?_ ?_
  ·simp only [ht,eP]
   refine ⟨⟨by omega,?_⟩,?_⟩
   ·intro h;rw [h] at Iv;simp at Iv;omega
   intro r hr;have:=List.mem_of_mem_take hr;simp at this;rw [this];exact hrow
  ·simp [ht,ah];omega
  ·simp [ht,tO,show min 1 oW=1 by omega]
  cbv
  refine dO [false,false,false,false,false,false,false,false,true] (by kernel_rfl) (by kernel_rfl) ?_
  cbv
  repeat (refine gI (by (simp;done)) ?_)
  refine iq (.vw 1 1 i1 ni ni false) (fun _=>⟨?_,?_⟩) ?_
  ·refine hW _ fun e1 e2 e3=>?_
   simp [ht,ah,e3,dS,bS];omega
  ·refine hW _ fun e1 e2 e3=>?_
   simp [ht,ah,e3,aW,aS];omega
  cbv
  repeat (refine gI (by (simp;done)) ?_)
  refine iq (.vw 0 1 i ni ci true) (fun _=>⟨?_,?_⟩) ?_
  ·simp [ht,dS,bS];omega
  ·simp [ht,aW,aS,hni,pJ]
  cbv
  refine bL (bG (ni:Nat)) [.row 1 es,.row 1 r,.bw] ?_ ?_ ?_ ?_
  ·simp only [ht,eP]
   refine ⟨by omega,⟨by omega,?_⟩,?_⟩
   ·intro h;rw [h] at mG;simp at mG;omega
   intro r hr;exact aE r (List.mem_of_mem_drop (List.mem_of_mem_take hr))
  ·simp [ht,ah]
  ·simp only [ht,ph]
   rw [List.take_of_length_le (by simp;omega)]
  cbv
  refine yM [true] trv ?_ rfl rfl rfl ?_
  ·simp only [ht];omega
  simp only [ht];rw [←AY]
 have Vq:n<c:=by
  refine hW _ fun e1 e2 e3=>?_
  simp [ht,ah,e1] at h2;omega
 clear h2
 obtain ⟨L1,tO⟩:∃L1,L1=wrote es i1 (es.drop i):=⟨_,rfl⟩
 have ph:r=wrote L1 i [x::row]:=by rw [tO,hi1,EC (by omega),hr]
 have mG:L1.length=n1:=by rw [tO];simp [wrote];omega
 cbv
 refine bL (.vw 0 1 0 n1 c true) [.row 1 es] ?_ ?_ rfl ?_
 ·refine hW _ fun e1 e2 e3=>?_
  simp [ht,ah,e1,dS,bS];omega
 ·refine hW _ fun e1 e2 e3=>?_
  simp [ht,ah,e1,aW,aS]
 cbv
 refine bL (.vw 0 1 i1 ni wL true) [.row 1 es] ?_ ?_ rfl ?_
 ·refine hW _ fun e1 e2 e3=>?_
  simp [ht,ah,e3,dS,bS];omega
 ·refine hW _ fun e1 e2 e3=>?_
  simp [ht,ah,e3,aW,aS];omega
 cbv
 refine eG trv (Vp (by omega)) ?_
 cbv
 refine lp (by simp [ht]) ?_
 cbv
 refine dO [false,false,false,false,false,false,false,false,true] (by kernel_rfl) (by kernel_rfl) ?_
 cbv
 repeat (refine gI (by (simp;done)) ?_)
 refine iq (.vw 0 1 i1 ni wL true) (fun _=>⟨?_,?_⟩) ?_
 ·refine hW _ fun e1 e2 e3=>?_
  simp [ht,ah,e3,dS,bS];omega
 ·refine hW _ fun e1 e2 e3=>?_
  simp [ht,ah,e3,aW,aS];omega
 cbv
 repeat (refine gI (by (simp;done)) ?_)
 refine iq (.vw 0 1 i oW ci true) (fun _=>⟨?_,?_⟩) ?_
 ·simp [ht,dS,bS];omega
 ·simp [ht,aW,aS,tN,pJ]
 cbv
 refine bL (bG (ni:Nat)) [.row 1 L1,.bw] ?_ ?_ ?_ ?_
 ·simp only [ht,eP]
  refine ⟨by omega,⟨by omega,?_⟩,?_⟩
  ·intro h;rw [h] at hn;simp at hn;omega
  intro r hr;exact aE r (List.mem_of_mem_drop (List.mem_of_mem_take hr))
 ·simp [ht,ah];omega
 ·simp only [ht,tO]
  rw [List.take_of_length_le (by simp;omega)]
 cbv
 refine bL (.vw 0 1 i oW ci true) [.row 1 L1,.bw] ?_ ?_ rfl ?_
 ·simp [ht,dS,bS];omega
 ·simp [ht,aW,aS,tN,pJ]
 cbv
 refine bL (bG 1) [.row 1 r,.bw] ?_ ?_ ?_ ?_
 ·simp only [ht,eP]
  refine ⟨⟨by omega,?_⟩,?_⟩
  ·intro h;rw [h] at mG;simp at mG;omega
  intro r hr;have:=List.mem_of_mem_take hr;simp at this;rw [this];exact hrow
 ·simp [ht,ah];omega
 ·simp [ht,ph,show min 1 oW=1 by omega]
 cbv
 refine yM [true] trv ?_ rfl rfl rfl ?_
 ·simp only [ht];omega
 simp only [ht];rw [←AY]
theorem HB (ht:TT t) {es:List (List D)} {x:D} {row:List D} {i n:Nat} (hn:n=es.length) (hi:i≤n) (aE:∀r∈es,r.length=1) (hrow:(x::row).length=1) (hs:n<1000000) {r:List (List D)} (hr:r=es.take i++(x::row)::es.drop i):
 FC 198 [.ow 0 1 n,bG (i:Int),SL [x::row]] [.row 1 es] (.ret (SL r)) [.dead]:=
 dZ fun c hc hc0=>EJ ht hn hi hc hc0 aE hrow hs hr
theorem EK (ht:TT t) {l:List aK} {x:aK} {k:Nat} {i:Int} (hi:i=k) (hk:k≤l.length) (hl:l.length<1000000):
 FC 198 [.ow 0 1 (t _ fun _=>(l.map bE).length),bG i,.cl [[.str x]]] [.row 1 (t _ fun _=>l.map bE)] (.ret (SL (t _ fun _=>(l.take k++x::l.drop k).map bE))) [.dead]:=by
 simp only [ht];subst hi
 refine oN (args':=[.ow 0 1 (l.map bE).length,bG k,SL [bE x]]) ?_ (HB ht (by simp) (by simpa using hk) ?_ rfl (by simpa using hl) (by simp))
 ·intro β w ok vs h
  simp only [an] at h ⊢
  obtain ⟨u1,YP,rfl,h1,u2,Ot,rfl,h2,u3,Vw,rfl,h3,h4⟩:=h
  exact ⟨u1,_,rfl,h1,u2,_,rfl,h2,u3,Vw,rfl,Lw h3,h4⟩
 intro r hr;obtain ⟨y,_,rfl⟩:=List.mem_map.1 hr;rfl
theorem HC (ht:TT t) (s:aK) (hs:s.length<1000000000000):FC 155 [ST s] [] (.ret (GW t (t _ fun _=>above s))) []:=by
 have hp:=kq s
 have hl:=iu s
 refine bP ht (aQ:=[]) Tryz.func155 rfl rfl (N:=7) rfl rfl (n:=0) rfl rfl ?_
 cbv
 refine jY trv (LS ht s ‹_›) trv rfl (.inr rfl) ?_
 cbv
 refine dP [0] trv rfl rfl (EK ht (l:=mC s) (x:=[]) (k:=0) rfl (by omega) (by omega)) (cK ?_)
 cbv
 refine az trv trv rfl rfl rfl ?_
 (simp [ht,above];done)
theorem A4 (ht:TT t) (s:aK) (hs:s.length<1000000000000):FC 125 [ST s] [] (.ret (dh (t _ fun _=>named s))) []:=by
 refine bP ht (aQ:=[]) Tryz.func125 rfl rfl (N:=10) rfl rfl (n:=0) rfl rfl ?_
 cbv
 iterate 2 refine gI (by simp [ht]) ?_
 refine eY (fun g0=>⟨by simp [ht] at g0 ⊢;exact g0,trv,HA ht _ _ ‹_›⟩) rfl rfl (fun r1 cF=>?_)
 simp only [ht] at cF
 cbv
 refine pI (by simp [ht]) ?_
 refine az trv trv rfl rfl rfl ?_
 (simp [named, *];done)
theorem Di (ht:TT t) (s:aK) (hs:s.length<1000000000000):FC 127 [ST s] [] (.ret (Sx (t _ fun _=>parent s))) []:=by
 have hp:=kq s
 have hl:=iu s
 obtain ⟨ps,hps⟩:∃p,p=parent s:=⟨_,rfl⟩
 refine bP ht (aQ:=[]) Tryz.func127 rfl rfl (N:=13) rfl rfl (n:=0) rfl rfl ?_
 cbv
 refine aF trv (HC ht _ ‹_›) trv rfl rfl rfl (fun r0 dj=>?_)
 simp only [ht] at dj
 have hla:(r0).length=(parts s).length+1:=by rw [dj];simp [above,iu]
 have hpx:(r0)[(r0).length-2]?=some ps:=by rw [hps,dj,parent,List.getD_eq_getElem?_getD,List.getElem?_eq_getElem (by rw [dj] at hla;omega)];rfl
 cbv
 (refine so ht (l:=r0) (cells:=bE) (cT:=gw t) (i:=r0.length-2) (x:=ps) (by simp only [ht];done) hpx (by simp only [ht,ah,lgM];rw [wrap64 (by omega) (by omega)];omega) (fun _=>rfl) (fun _=>rfl) ?_)
 cbv
 refine az trv trv rfl rfl rfl ?_
 (simp [ht,hps];done)
def bg.aZ (_:Th) (e:bg):List D:=[.str e.path,.int .u64 e.eZ.a,.int .u64 e.eZ.b,.int .u64 e.eZ.c,.int .u64 e.eZ.d,.int .u64 e.used.a,.int .u64 e.used.b,.int .u64 e.used.c,.int .u64 e.used.d]
def X2 (e:bg):AV:=.agg [ST e.path,aC e.eZ.a,aC e.eZ.b,aC e.eZ.c,aC e.eZ.d,aC e.used.a,aC e.used.b,aC e.used.c,aC e.used.d]
def X3 (r:bg×Bool):AV:=.eA [X2 r.1,BL r.2]
def Ut (t:Th) (l:List bg):AV:=SL (t _ fun _=>l.map bg.cells)
def A5 (t:Th) (r:List bg×Int):AV:=.eA [Ut t r.1,bG r.2]
theorem M4 (ht:TT t) (q:aK) {l:List (bg)} {es:List (List D)} (aE:es=l.map bg.cells) (f:Nat) (p:bg→Bool) (hl:l.length<9223372036854775807)
 (hf:∀x∈l,FC f [.agg [ST x.path,aC x.eZ.a,aC x.eZ.b,aC x.eZ.c,aC x.eZ.d,aC x.used.a,aC x.used.b,aC x.used.c,aC x.used.d],.ptr 0 0] [.var [ST q]] (.ret (BL (p x))) [.var [ST q]]) {r:Int} (hr:r=idxOf p l):FC 174 [SL es,.fn f [.ptr 0 0]] [.var [ST q]] (.ret (bG r)) [.var [ST q]]:=by
 have hel:es.length=l.length:=by rw [aE,lgM]
 obtain ⟨J,hJ⟩:∃J:Nat→Nat→Prop,∀n v,J n v↔(v+n=l.length∧∀i<v,∀x,l[i]?=some x→p x=false):=⟨fun n v=>v+n=l.length∧∀i<v,∀x,l[i]?=some x→p x=false,fun _ _=>Iff.rfl⟩
 refine bP ht (aQ:=[.var [ST q]]) Tryz.func174 rfl rfl (N:=19) rfl rfl (n:=1) rfl rfl ?_
 cbv
 refine bH ⟨[0,1,7,8],[],[]⟩ (σ:=Nat) (fun k=>[(8,bG (t _ fun _=>(k:Int)))]) (fun _=>[]) J ?_
 cbv
 refine aH ⟨l.length,0,(hJ _ _).2 ⟨by omega,by intro i hi;simp at hi⟩,by simp only [ht];rfl,?_⟩
 rintro n k hj
 obtain ⟨h2,h3⟩:=(hJ _ _).1 hj
 clear hj
 cbv
 refine av (fun h=>?_) (fun h=>?_)
 ·simp only [ht,ah,decide_eq_true_eq] at h
  have hk:k<l.length:=by omega
  obtain ⟨x,hx⟩:∃x,l[k]?=some x:=⟨l[k],by simp⟩
  have pG:x∈l:=List.mem_of_getElem? hx
  have ix:=hf x pG
  obtain ⟨px,hpx⟩:∃b,b=p x:=⟨_,rfl⟩
  rw [←hpx] at ix
  obtain ⟨nm,⟨a,b,c,d⟩,⟨e,g,u,v⟩⟩:=x
  cbv
  refine jG [.str nm,.int .u64 a,.int .u64 b,.int .u64 c,.int .u64 d,.int .u64 e,.int .u64 g,.int .u64 u,.int .u64 v] ?_ ?_ ?_
  ·simp only [ht,ah];refine ⟨by omega,h,?_⟩;rw [aE];intro r hr;obtain ⟨y,_,rfl⟩:=List.mem_map.1 hr;rfl
  ·simp [ht,ah,aE,hx]
  cbv
  refine eG trv ix ?_
  cbv
  refine av (fun hb=>?_) (fun hb=>?_)
  ·cbv
   refine az trv trv rfl rfl rfl ?_
   have e:=dD hx (hpx▸hb) h3
   simp only [ht,ah,hr,idxOf,e]
  cbv
  refine aH ⟨n-1,k+1,⟨by omega,(hJ _ _).2 ⟨by omega,?_⟩⟩,?_⟩
  ·intro i hi y hy
   by_cases hik:i<k
   ·exact h3 i hik y hy
   have:i=k:=by omega
   subst this;rw [hx] at hy;cases hy;rw [←hpx];exact hb
  simp only [ht,ah,aG (show k<9223372036854775807 by omega)];rfl
 simp only [ht,ah,decide_eq_false_iff_not] at h
 have hk:¬k<l.length:=by omega
 clear h
 cbv
 refine az trv trv rfl rfl rfl ?_
 rw [hr,idxOf,dQ]
 intro i y hy
 have:i<l.length:=by
  rcases Nat.lt_or_ge i l.length with h'|h';· exact h'
  simp [List.getElem?_eq_none h'] at hy
 exact h3 i (by omega) y hy
theorem M5 (ht:TT t) (q:aK) (x:bg):FC 175 [.agg [ST x.path,aC x.eZ.a,aC x.eZ.b,aC x.eZ.c,aC x.eZ.d,aC x.used.a,aC x.used.b,aC x.used.c,aC x.used.d],.ptr 0 0] [.var [ST q]] (.ret (BL (decide (x.path=q)))) [.var [ST q]]:=by
 obtain ⟨nm,⟨a,b,c,d⟩,⟨e,g,u,v⟩⟩:=x
 refine bP ht (aQ:=[.var [ST q]]) Tryz.func175 rfl rfl (N:=8) rfl rfl (n:=1) rfl rfl ?_
 cbv
 refine az trv trv rfl rfl rfl ?_
 simp [ht]
theorem lU (ht:TT t) (q:aK) {l:List bg} {es:List (List D)} (aE:es=l.map bg.cells) (hl:l.length<1000000000):
 FC 126 [SL es,ST q] [] (.ret (gF (t _ fun _=>cm l q))) []:=by
 obtain ⟨r,hr⟩:∃r,r=cm l q:=⟨_,rfl⟩
 refine bP ht (aQ:=[]) Tryz.func126 rfl rfl (N:=8) rfl rfl (n:=0) rfl rfl ?_
 cbv
 refine eG trv (M4 ht q aE 175 (fun x=>decide (x.path=q)) (by omega) (fun x _=>M5 ht q x) (r:=r) hr) ?_
 cbv
 exact az trv trv rfl rfl rfl (by simp [ht,hr])
theorem EL {l:List bg} {q:aK} {r:Int} (h:r=cm l q):(r=-1∧qD l q=(bg.zero,false))∨∃(k:Nat) (x:bg),r=k∧k<l.length∧l[k]?=some x∧qD l q=(x,true):=by
 rcases cJ (p:=fun e:bg=>decide (e.path=q)) (l:=l) (r:=r) h with ⟨e1,e2,e3⟩|⟨i,x,hi,hil,e1,e2,e3,e4⟩
 ·exact .inl ⟨e1,by simp [qD,e3]⟩
 exact .inr ⟨i,x,hi,hil,e1,by simp [qD,e4]⟩
theorem Qh (ht:TT t) (q:aK) {l:List bg} {es:List (List D)} (aE:es=l.map bg.cells) (hl:l.length<1000000000):
 FC 180 [SL es,ST q] [] (.ret (X3 (t _ fun _=>qD l q))) []:=by
 refine bP ht (aQ:=[]) Tryz.func180 rfl rfl (N:=17) rfl rfl (n:=0) rfl rfl ?_
 cbv
 have aD:es.length=l.length:=by rw [aE,lgM]
 refine bc trv (lU ht _ ‹_› ‹_›) trv rfl rfl (fun r0 dj=>?_)
 simp only [ht] at dj
 have ec:=EL dj
 clear dj
 rcases ec with ⟨e1,e2⟩|⟨i,x,hi,hil,e1,e2⟩
 ·cbv
  refine av (fun h1=>?_) (fun h1=>?_)
  ·simp [ht] at h1
   cbv
   refine az trv trv rfl rfl rfl ?_
   (simp [ht,e2,bg.zero,bM.zero];done)
  simp [ht] at h1
  omega
 cbv
 refine av (fun h2=>?_) (fun h2=>?_)
 ·simp [ht] at h2
  (simp only [ah] at*;omega)
 simp [ht] at h2
 cbv
 refine so ht aE (cT:=bg.aZ t) e1 ‹_› (fun _=>rfl) (fun _=>rfl) ?_
 cbv
 refine az trv trv rfl rfl rfl ?_
 (simp [ht,e2];done)
theorem S5 (ht:TT t) (a b c d:Int):FC 90 [V4 a b c d] [] (.ret (Ut t (t _ fun _=>[⟨[],⟨a,b,c,d⟩,bM.zero⟩]))) []:=by
 refine bP ht (aQ:=[]) Tryz.func90 rfl rfl (N:=6) rfl rfl (n:=0) rfl rfl ?_
 cbv
 refine az trv trv rfl rfl rfl ?_
 (simp [ht,bM.zero];done)
def Jb.aZ (t:Th) (j:Jb):List D:=[.int .u64 j.id,.str j.x.path,.int .u64 j.x.gx.a,.int .u64 j.x.gx.b,.int .u64 j.x.gx.c,.int .u64 j.x.gx.d,.int .i64 j.x.count,.int .i64 j.x.prio,.int .i64 j.x.fH,.sl (t _ fun _=>j.x.cE.map Term.cells),.bool j.runs,.int .i64 j.left]
def Wx (t:Th) (j:Jb):AV:=.agg [aC j.id,ST j.x.path,aC j.x.gx.a,aC j.x.gx.b,aC j.x.gx.c,aC j.x.gx.d,bG j.x.count,bG j.x.prio,bG j.x.fH,SL (t _ fun _=>j.x.cE.map Term.cells),BL j.runs,bG j.left]
def Ce (t:Th) (r:Jb×Bool):AV:=.eA [Wx t r.1,BL r.2]
theorem HD (ht:TT t) (id:Int) {l:List (Jb)} {es:List (List D)} (aE:es=l.map Jb.cells) (f:Nat) (p:Jb→Bool) (hl:l.length<9223372036854775807)
 (hf:∀x∈l,FC f [.agg [aC x.id,ST x.x.path,aC x.x.gx.a,aC x.x.gx.b,aC x.x.gx.c,aC x.x.gx.d,bG x.x.count,bG x.x.prio,bG x.x.fH,SL (x.x.cE.map Term.cells),BL x.runs,bG x.left],.ptr 0 0] [.var [aC id]] (.ret (BL (p x))) [.var [aC id]]) {r:Int} (hr:r=idxOf p l):FC 70 [SL es,.fn f [.ptr 0 0]] [.var [aC id]] (.ret (bG r)) [.var [aC id]]:=by
 have hel:es.length=l.length:=by rw [aE,lgM]
 obtain ⟨J,hJ⟩:∃J:Nat→Nat→Prop,∀n v,J n v↔(v+n=l.length∧∀i<v,∀x,l[i]?=some x→p x=false):=⟨fun n v=>v+n=l.length∧∀i<v,∀x,l[i]?=some x→p x=false,fun _ _=>Iff.rfl⟩
 refine bP ht (aQ:=[.var [aC id]]) Tryz.func70 rfl rfl (N:=19) rfl rfl (n:=1) rfl rfl ?_
 cbv
 refine bH ⟨[0,1,7,8],[],[]⟩ (σ:=Nat) (fun k=>[(8,bG (t _ fun _=>(k:Int)))]) (fun _=>[]) J ?_
 cbv
 refine aH ⟨l.length,0,(hJ _ _).2 ⟨by omega,by intro i hi;simp at hi⟩,by simp only [ht];rfl,?_⟩
 rintro n k hj
 obtain ⟨h2,h3⟩:=(hJ _ _).1 hj
 clear hj
 cbv
 refine av (fun h=>?_) (fun h=>?_)
 ·simp only [ht,ah,decide_eq_true_eq] at h
  have hk:k<l.length:=by omega
  obtain ⟨x,hx⟩:∃x,l[k]?=some x:=⟨l[k],by simp⟩
  have pG:x∈l:=List.mem_of_getElem? hx
  have ix:=hf x pG
  obtain ⟨px,hpx⟩:∃b,b=p x:=⟨_,rfl⟩
  rw [←hpx] at ix
  obtain ⟨id',⟨p',⟨a',b',c',d'⟩,n',Wy,Ld,sj⟩,Wz,WA⟩:=x;obtain ⟨Hr,mH⟩:∃lr:List (List D),lr=sj.map Term.cells:=⟨_,rfl⟩;simp only [←mH] at ix
  cbv
  refine jG [.int .u64 id',.str p',.int .u64 a',.int .u64 b',.int .u64 c',.int .u64 d',.int .i64 n',.int .i64 Wy,.int .i64 Ld,.sl Hr,.bool Wz,.int .i64 WA] ?_ ?_ ?_
  ·simp only [ht,ah];refine ⟨by omega,h,?_⟩;rw [aE];intro r hr;obtain ⟨y,_,rfl⟩:=List.mem_map.1 hr;rfl
  ·simp [ht,ah,aE,hx,mH,Jb.cells]
  cbv
  refine eG trv ix ?_
  cbv
  refine av (fun hb=>?_) (fun hb=>?_)
  ·cbv
   refine az trv trv rfl rfl rfl ?_
   have e:=dD hx (hpx▸hb) h3
   simp only [ht,ah,hr,idxOf,e]
  cbv
  refine aH ⟨n-1,k+1,⟨by omega,(hJ _ _).2 ⟨by omega,?_⟩⟩,?_⟩
  ·intro i hi y hy
   by_cases hik:i<k
   ·exact h3 i hik y hy
   have:i=k:=by omega
   subst this;rw [hx] at hy;cases hy;rw [←hpx];exact hb
  simp only [ht,ah,aG (show k<9223372036854775807 by omega)];rfl
 simp only [ht,ah,decide_eq_false_iff_not] at h
 have hk:¬k<l.length:=by omega
 clear h
 cbv
 refine az trv trv rfl rfl rfl ?_
 rw [hr,idxOf,dQ]
 intro i y hy
 have:i<l.length:=by
  rcases Nat.lt_or_ge i l.length with h'|h';· exact h'
  simp [List.getElem?_eq_none h'] at hy
 exact h3 i (by omega) y hy
theorem M6 (ht:TT t) (id i n k l a b c d:Int) (p:aK) (sr:List (List D)) (rn:Bool) (lf:Int):FC 99 [.agg [aC i,ST p,aC a,aC b,aC c,aC d,bG n,bG k,bG l,SL sr,BL rn,bG lf],.ptr 0 0] [.var [aC id]] (.ret (BL (decide (i=id)))) [.var [aC id]]:=by
 refine bP ht (aQ:=[.var [aC id]]) Tryz.func99 rfl rfl (N:=8) rfl rfl (n:=1) rfl rfl ?_
 cbv
 refine az trv trv rfl rfl rfl ?_
 simp [ht]
theorem rV (ht:TT t) (id rd nx ef af:Int) (ns ps ts qs el al:List (List D)) {l:List Jb} {es:List (List D)} (aE:es=l.map Jb.cells) (hl:l.length<1000000000):
 FC 43 [.agg [aC rd,aC nx,SL ns,SL ps,SL ts,SL es,SL qs,aC ef,SL el,aC af,SL al],aC id] [] (.ret (gF (t _ fun _=>Eu l id))) []:=by
 obtain ⟨r,hr⟩:∃r,r=Eu l id:=⟨_,rfl⟩
 refine bP ht (aQ:=[]) Tryz.func43 rfl rfl (N:=9) rfl rfl (n:=0) rfl rfl ?_
 cbv
 refine dP [1] trv rfl rfl (HD ht id aE 99 (fun x=>decide (x.id=id)) (by omega) (fun x _=>M6 ht id _ _ _ _ _ _ _ _ _ _ _ _) (r:=r) hr) (cK ?_)
 cbv
 exact az trv trv rfl rfl rfl (by simp [ht,hr])
theorem oa (ht:TT t) (id rd nx ef af:Int) (ns ps ts qs el al:List (List D)) {l:List Jb} {es:List (List D)} (aE:es=l.map Jb.cells) (hl:l.length<1000000000):
 FC 17 [.agg [aC rd,aC nx,SL ns,SL ps,SL ts,SL es,SL qs,aC ef,SL el,aC af,SL al],aC id] [] (.ret (Ce t (t _ fun _=>bB l id))) []:=by
 refine bP ht (aQ:=[]) Tryz.func17 rfl rfl (N:=18) rfl rfl (n:=0) rfl rfl ?_
 cbv
 have aD:es.length=l.length:=by rw [aE,lgM]
 refine bc trv (rV ht _ _ _ _ _ _ _ _ _ _ _ ‹_› ‹_›) trv rfl rfl (fun r0 dj=>?_)
 simp only [ht] at dj
 have ec:=cJ dj
 clear dj
 rcases ec with ⟨e1,e2,e3⟩|⟨i,x,hi,hil,e1,e2,e3,e4⟩
 ·cbv
  refine av (fun h1=>?_) (fun h1=>?_)
  ·simp [ht] at h1
   cbv
   refine az trv trv rfl rfl rfl ?_
   (simp [ht,bB,e3,Jb.zero,Ask.zero,bM.zero];done)
  simp [ht] at h1
  omega
 cbv
 refine av (fun h2=>?_) (fun h2=>?_)
 ·simp [ht] at h2
  (simp only [ah] at*;omega)
 simp [ht] at h2
 cbv
 refine so ht aE (cT:=Jb.aZ t) e1 ‹_› (fun _=>rfl) (fun _=>(by (simp only [ht,Jb.aZ];rfl))) ?_
 cbv
 refine az trv trv rfl rfl rfl ?_
 (simp [ht,bB,e4];done)
theorem M7 (ht:TT t) (ts:List (List D)) {l:List (aK)} {es:List (List D)} (aE:es=l.map bE) (f:Nat) (p:aK→Bool) (hl:l.length<9223372036854775807)
 (hf:∀x∈l,FC f [.d (.str x),.ptr 0 0] [.var [SL ts]] (.ret (BL (p x))) [.var [SL ts]]) {r:Int} (hr:r=idxOf p l):FC 199 [SL es,.fn f [.ptr 0 0]] [.var [SL ts]] (.ret (bG r)) [.var [SL ts]]:=by
 have hel:es.length=l.length:=by rw [aE,lgM]
 obtain ⟨J,hJ⟩:∃J:Nat→Nat→Prop,∀n v,J n v↔(v+n=l.length∧∀i<v,∀x,l[i]?=some x→p x=false):=⟨fun n v=>v+n=l.length∧∀i<v,∀x,l[i]?=some x→p x=false,fun _ _=>Iff.rfl⟩
 refine bP ht (aQ:=[.var [SL ts]]) Tryz.func199 rfl rfl (N:=19) rfl rfl (n:=1) rfl rfl ?_
 cbv
 refine bH ⟨[0,1,7,8],[],[]⟩ (σ:=Nat) (fun k=>[(8,bG (t _ fun _=>(k:Int)))]) (fun _=>[]) J ?_
 cbv
 refine aH ⟨l.length,0,(hJ _ _).2 ⟨by omega,by intro i hi;simp at hi⟩,by simp only [ht];rfl,?_⟩
 rintro n k hj
 obtain ⟨h2,h3⟩:=(hJ _ _).1 hj
 clear hj
 cbv
 refine av (fun h=>?_) (fun h=>?_)
 ·simp only [ht,ah,decide_eq_true_eq] at h
  have hk:k<l.length:=by omega
  obtain ⟨x,hx⟩:∃x,l[k]?=some x:=⟨l[k],by simp⟩
  have pG:x∈l:=List.mem_of_getElem? hx
  have ix:=hf x pG
  obtain ⟨px,hpx⟩:∃b,b=p x:=⟨_,rfl⟩
  rw [←hpx] at ix
  skip
  cbv
  refine jG [.str x] ?_ ?_ ?_
  ·simp only [ht,ah];refine ⟨by omega,h,?_⟩;rw [aE];intro r hr;obtain ⟨y,_,rfl⟩:=List.mem_map.1 hr;rfl
  ·simp [ht,ah,aE,hx]
  cbv
  refine eG trv ix ?_
  cbv
  refine av (fun hb=>?_) (fun hb=>?_)
  ·cbv
   refine az trv trv rfl rfl rfl ?_
   have e:=dD hx (hpx▸hb) h3
   simp only [ht,ah,hr,idxOf,e]
  cbv
  refine aH ⟨n-1,k+1,⟨by omega,(hJ _ _).2 ⟨by omega,?_⟩⟩,?_⟩
  ·intro i hi y hy
   by_cases hik:i<k
   ·exact h3 i hik y hy
   have:i=k:=by omega
   subst this;rw [hx] at hy;cases hy;rw [←hpx];exact hb
  simp only [ht,ah,aG (show k<9223372036854775807 by omega)];rfl
 simp only [ht,ah,decide_eq_false_iff_not] at h
 have hk:¬k<l.length:=by omega
 clear h
 cbv
 refine az trv trv rfl rfl rfl ?_
 rw [hr,idxOf,dQ]
 intro i y hy
 have:i<l.length:=by
  rcases Nat.lt_or_ge i l.length with h'|h';· exact h'
  simp [List.getElem?_eq_none h'] at hy
 exact h3 i (by omega) y hy
theorem M8 (ht:TT t) (ts:List (List D)) {l:List (aK)} {es:List (List D)} (aE:es=l.map bE) (f:Nat) (p:aK→Bool) (hl:l.length<9223372036854775807)
 (hf:∀x∈l,FC f [.d (.str x),.ptr 0 0] [.var [SL ts]] (.ret (BL (p x))) [.var [SL ts]]) {r:Bool} (hr:r=l.any p):FC 156 [SL es,.fn f [.ptr 0 0]] [.var [SL ts]] (.ret (BL r)) [.var [SL ts]]:=by
 obtain ⟨k,hk⟩:∃k,k=idxOf p l:=⟨_,rfl⟩
 refine bP ht (aQ:=[.var [SL ts]]) Tryz.func156 rfl rfl (N:=9) rfl rfl (n:=1) rfl rfl ?_
 cbv
 refine eG trv (M7 ht ts aE f p hl hf hk) ?_
 cbv
 refine az trv trv rfl rfl rfl ?_
 simp only [ht,hr,iQ,hk]
theorem Qi (ht:TT t) (q:aK) {l:List bg} {es:List (List D)} (aE:es=l.map bg.cells) (hl:l.length<1000000000) {r:Bool} (hr:r=!(qD l q).2):
 FC 179 [ST q,.ptr 0 0] [.var [SL es]] (.ret (BL r)) [.var [SL es]]:=by
 refine bP ht (aQ:=[.var [SL es]]) Tryz.func179 rfl rfl (N:=14) rfl rfl (n:=1) rfl rfl ?_
 cbv
 have aD:es.length=l.length:=by rw [aE,lgM]
 refine bc trv (Qh ht _ ‹_› ‹_›) trv rfl rfl (fun r0 dj=>?_)
 simp only [ht] at dj
 cbv
 refine az trv trv rfl rfl rfl ?_
 (simp [*];done)
theorem Dj (ht:TT t) (p:aK) {l:List bg} {es:List (List D)} (aE:es=l.map bg.cells) (hl:l.length<1000000000) (hp:p.length<1000000000000):
 FC 133 [SL es,ST p] [] (.ret (dh (t _ fun _=>jJ l p))) []:=by
 have h1:=kq p
 have h2:=iu p
 obtain ⟨ws,Z8⟩:∃ws,ws=mC p++[[]]:=⟨_,rfl⟩
 obtain ⟨r9,jU⟩:∃r,r=ws.any (fun q=>!(qD l q).2):=⟨_,rfl⟩
 refine bP ht (aQ:=[]) Tryz.func133 rfl rfl (N:=12) rfl rfl (n:=0) rfl rfl ?_
 cbv
 have aD:es.length=l.length:=by rw [aE,lgM]
 refine jY trv (LS ht p ‹_›) trv rfl (.inr rfl) ?_
 cbv
 refine ⟨?_,?_⟩
 ·(simp only [ht];grind)
 cbv
 (refine Uj (v:=BL r9) trv rfl (by simp [ht]) (by exact dK [0] rfl rfl rfl rfl (M8 ht es (l:=ws) (by simp only [ht,Z8];simp) 179 (fun q=>!(qD l q).2) (by rw [Z8];simp;omega) (fun x _=>Qi ht x aE hl rfl) jU)) ?_)
 cbv
 refine az trv trv rfl rfl rfl ?_
 (simp only [ht,jJ,←Z8,←jU];done)
theorem A6 (ht:TT t) {es:List (List D)} (aE:∀r∈es,r.length=9) (hs:es.length*80≤140737488355328) {m:Nat} (hm:m=es.length):
 FC 106 [SL es] [] (.ret (.ow 0 9 m)) [.row 9 es]:=by
 refine bP ht (aQ:=[]) Tryz.func106 rfl rfl (N:=8) rfl rfl (n:=0) rfl rfl ?_
 cbv
 refine ⟨fun b hb=>?_⟩
 simp only [ht] at hb
 cbv
 refine av (fun h=>?_) (fun h=>?_)
 ·have he:=hb h
  subst he
  cbv
  exact GK trv rfl rfl (by rw [hm];rfl) rfl
 clear hb h
 cbv
 refine ⟨?_,?_⟩
 ·simp only [ht];simp;exact ⟨hs,aE⟩
 refine B5 trv rfl rfl rfl rfl ?_ ?_
 ·simp only [ht];rw [hm];simp
 simp only [ht];rfl
theorem EM (ht:TT t) {es:List (List D)} {x:D} {row:List D} {i n c:Nat} (hn:n=es.length) (hi:i≤n) (hc:n≤c) (hc0:n=0→c=0) (aE:∀r∈es,r.length=9) (hrow:(x::row).length=9) (hs:n<1000000) {r:List (List D)} (hr:r=es.take i++(x::row)::es.drop i):
 FC 144 [.vw 0 9 0 n c true,bG (i:Int),SL [x::row]] [.row 9 es] (.ret (SL r)) [.dead]:=by
 obtain ⟨n1,BU⟩:∃n1,n1=n+1:=⟨_,rfl⟩
 obtain ⟨i1,hi1⟩:∃i1,i1=i+1:=⟨_,rfl⟩
 obtain ⟨ni,hni⟩:∃ni,ni=n-i:=⟨_,rfl⟩
 obtain ⟨ci,pJ⟩:∃ci,ci=c-i:=⟨_,rfl⟩
 obtain ⟨wL,JK⟩:∃wL,wL=c-i1:=⟨_,rfl⟩
 obtain ⟨oW,tN⟩:∃oW,oW=n1-i:=⟨_,rfl⟩
 have hW:∀P:Prop,((IntKind.i64.wrap ((n:Int)+1)=(n1:Int))→(IntKind.i64.wrap ((n1:Int)-(i:Int))=(oW:Int))→(IntKind.i64.wrap ((i:Int)+1)=(i1:Int))→P)→P:=
  fun P h=>h (by rw [wrap64 (by omega) (by omega)];omega) (by rw [wrap64 (by omega) (by omega)];omega) (by rw [wrap64 (by omega) (by omega)];omega)
 have hrl:r.length=n1:=by rw [hr,List.length_append,List.length_cons,List.length_take,List.length_drop];omega
 have Vp:n≠0→FC 186 [SL [x::row],.vw 0 9 i1 ni wL true] [.row 9 es] (.ret (BL false)) [.row 9 es]:=fun h0=>
  iC Ul Tryz.func186 rfl rfl rfl rfl (tS:=29) (tR:=4) rfl rfl (by intro h;rw [h] at hn;exact h0 hn)
 refine bP ht (aQ:=[.row 9 es]) Tryz.func144 rfl rfl (N:=95) rfl rfl (n:=1) rfl rfl ?_
 cbv
 refine bL (.vw 0 9 i ni ci true) [.row 9 es] ?_ ?_ rfl ?_
 ·simp [ht,dS,bS];omega
 ·simp [ht,aW,aS,hni,pJ]
 cbv
 refine pp (by simp [ht]) ?_
 cbv
 refine av (fun h=>?_) (fun h=>?_)
 ·have hin:i=n:=by simp [ht,ah] at h;omega
  clear h
  cbv
  refine bL (.ow 1 9 n1) [.dead,.row 9 r] ?_ ?_ ?_ ?_
  ·simp only [ht]
   refine ⟨⟨hn,by simp;omega,?_⟩,rfl,hn,fun h=>⟨hc0 (by rw [hn,h];rfl),rfl⟩⟩
   intro r hr
   rcases List.mem_append.1 hr with hr|hr
   ·exact aE r hr
   simp at hr;subst hr;exact hrow
  ·simp [ht,BU,hn]
  ·simp only [ht];rw [hr]
   have:i=es.length:=by omega
   subst this;simp
  cbv
  refine az trv ?_ rfl rfl rfl rfl
  simp only [ht];exact hrl.symm
 have hin:i<n:=by simp [ht,ah] at h;omega
 clear h
 have AY:r=(r.drop 0).take n1:=by rw [List.drop_zero,List.take_of_length_le (by omega)]
 cbv
 refine av (fun h2=>?_) (fun h2=>?_)
 ·have Vq:c=n:=by
   refine hW _ fun e1 e2 e3=>?_
   simp [ht,ah,e1] at h2;omega
  clear h2
  obtain ⟨L,hL⟩:∃L:List (List D),L=es.take i++List.replicate (es.length+1-i) [D.str [],D.int IntKind.u64 0,D.int IntKind.u64 0,D.int IntKind.u64 0,D.int IntKind.u64 0,D.int IntKind.u64 0,D.int IntKind.u64 0,D.int IntKind.u64 0,D.int IntKind.u64 0]:=⟨_,rfl⟩
  have Iv:L.length=n1:=by rw [hL];simp;omega
  obtain ⟨L1,tO⟩:∃L1,L1=wrote L i [x::row]:=⟨_,rfl⟩
  have mG:L1.length=n1:=by rw [tO];simp [wrote,Iv];omega
  have ph:r=wrote L1 i1 (es.drop i):=by rw [hi1,tO,hL,vA (by omega),hr]
  cbv
  refine bL (.vw 0 9 0 i c true) [.row 9 es] ?_ ?_ rfl ?_
  ·simp [ht,dS,bS];omega
  ·simp [ht,aW,aS]
  cbv
  refine bL (.vw 1 9 0 n1 n1 false) [.row 9 es,.row 9 L] ?_ ?_ ?_ ?_
  ·refine hW _ fun e1 e2 e3=>?_
   simp [ht,ah,e1,e2];omega
  ·refine hW _ fun e1 e2 e3=>?_
   simp [ht,ah,e1,e2];omega
  ·refine hW _ fun e1 e2 e3=>?_
   simp [ht,ah,e1,e2,hL];omega
  cbv
  refine bL (.vw 1 9 i oW oW false) [.row 9 es,.row 9 L] ?_ ?_ rfl ?_
  ·simp [ht,dS,bS];omega
  ·simp [ht,aW,aS,tN]
  cbv
  refine bL (bG 1) [.row 9 es,.row 9 L1] ?_ ?_ ?_ ?_
  ·simp only [ht,eP]
   refine ⟨⟨by omega,?_⟩,?_⟩
   ·intro h;rw [h] at Iv;simp at Iv;omega
   intro r hr;have:=List.mem_of_mem_take hr;simp at this;rw [this];exact hrow
  ·simp [ht,ah];omega
  ·simp [ht,tO,show min 1 oW=1 by omega]
  cbv
  refine dO [false,false,false,false,false,false,false,false,true] (by kernel_rfl) (by kernel_rfl) ?_
  cbv
  repeat (refine gI (by (simp;done)) ?_)
  refine iq (.vw 1 9 i1 ni ni false) (fun _=>⟨?_,?_⟩) ?_
  ·refine hW _ fun e1 e2 e3=>?_
   simp [ht,ah,e3,dS,bS];omega
  ·refine hW _ fun e1 e2 e3=>?_
   simp [ht,ah,e3,aW,aS];omega
  cbv
  repeat (refine gI (by (simp;done)) ?_)
  refine iq (.vw 0 9 i ni ci true) (fun _=>⟨?_,?_⟩) ?_
  ·simp [ht,dS,bS];omega
  ·simp [ht,aW,aS,hni,pJ]
  cbv
  refine bL (bG (ni:Nat)) [.row 9 es,.row 9 r,.bw] ?_ ?_ ?_ ?_
  ·simp only [ht,eP]
   refine ⟨by omega,⟨by omega,?_⟩,?_⟩
   ·intro h;rw [h] at mG;simp at mG;omega
   intro r hr;exact aE r (List.mem_of_mem_drop (List.mem_of_mem_take hr))
  ·simp [ht,ah]
  ·simp only [ht,ph]
   rw [List.take_of_length_le (by simp;omega)]
  cbv
  refine yM [true] trv ?_ rfl rfl rfl ?_
  ·simp only [ht];omega
  simp only [ht];rw [←AY]
 have Vq:n<c:=by
  refine hW _ fun e1 e2 e3=>?_
  simp [ht,ah,e1] at h2;omega
 clear h2
 obtain ⟨L1,tO⟩:∃L1,L1=wrote es i1 (es.drop i):=⟨_,rfl⟩
 have ph:r=wrote L1 i [x::row]:=by rw [tO,hi1,EC (by omega),hr]
 have mG:L1.length=n1:=by rw [tO];simp [wrote];omega
 cbv
 refine bL (.vw 0 9 0 n1 c true) [.row 9 es] ?_ ?_ rfl ?_
 ·refine hW _ fun e1 e2 e3=>?_
  simp [ht,ah,e1,dS,bS];omega
 ·refine hW _ fun e1 e2 e3=>?_
  simp [ht,ah,e1,aW,aS]
 cbv
 refine bL (.vw 0 9 i1 ni wL true) [.row 9 es] ?_ ?_ rfl ?_
 ·refine hW _ fun e1 e2 e3=>?_
  simp [ht,ah,e3,dS,bS];omega
 ·refine hW _ fun e1 e2 e3=>?_
  simp [ht,ah,e3,aW,aS];omega
 cbv
 refine eG trv (Vp (by omega)) ?_
 cbv
 refine lp (by simp [ht]) ?_
 cbv
 refine dO [false,false,false,false,false,false,false,false,true] (by kernel_rfl) (by kernel_rfl) ?_
 cbv
 repeat (refine gI (by (simp;done)) ?_)
 refine iq (.vw 0 9 i1 ni wL true) (fun _=>⟨?_,?_⟩) ?_
 ·refine hW _ fun e1 e2 e3=>?_
  simp [ht,ah,e3,dS,bS];omega
 ·refine hW _ fun e1 e2 e3=>?_
  simp [ht,ah,e3,aW,aS];omega
 cbv
 repeat (refine gI (by (simp;done)) ?_)
 refine iq (.vw 0 9 i oW ci true) (fun _=>⟨?_,?_⟩) ?_
 ·simp [ht,dS,bS];omega
 ·simp [ht,aW,aS,tN,pJ]
 cbv
 refine bL (bG (ni:Nat)) [.row 9 L1,.bw] ?_ ?_ ?_ ?_
 ·simp only [ht,eP]
  refine ⟨by omega,⟨by omega,?_⟩,?_⟩
  ·intro h;rw [h] at hn;simp at hn;omega
  intro r hr;exact aE r (List.mem_of_mem_drop (List.mem_of_mem_take hr))
 ·simp [ht,ah];omega
 ·simp only [ht,tO]
  rw [List.take_of_length_le (by simp;omega)]
 cbv
 refine bL (.vw 0 9 i oW ci true) [.row 9 L1,.bw] ?_ ?_ rfl ?_
 ·simp [ht,dS,bS];omega
 ·simp [ht,aW,aS,tN,pJ]
 cbv
 refine bL (bG 1) [.row 9 r,.bw] ?_ ?_ ?_ ?_
 ·simp only [ht,eP]
  refine ⟨⟨by omega,?_⟩,?_⟩
  ·intro h;rw [h] at mG;simp at mG;omega
  intro r hr;have:=List.mem_of_mem_take hr;simp at this;rw [this];exact hrow
 ·simp [ht,ah];omega
 ·simp [ht,ph,show min 1 oW=1 by omega]
 cbv
 refine yM [true] trv ?_ rfl rfl rfl ?_
 ·simp only [ht];omega
 simp only [ht];rw [←AY]
theorem HE (ht:TT t) {es:List (List D)} {x:D} {row:List D} {i n:Nat} (hn:n=es.length) (hi:i≤n) (aE:∀r∈es,r.length=9) (hrow:(x::row).length=9) (hs:n<1000000) {r:List (List D)} (hr:r=es.take i++(x::row)::es.drop i):
 FC 144 [.ow 0 9 n,bG (i:Int),SL [x::row]] [.row 9 es] (.ret (SL r)) [.dead]:=
 dZ fun c hc hc0=>EM ht hn hi hc hc0 aE hrow hs hr
theorem Qj (ht:TT t) (q:aK) {l:List (bg)} {es:List (List D)} (aE:es=l.map bg.cells) (f:Nat) (p:bg→Bool) (hl:l.length<9223372036854775807)
 (hf:∀x∈l,FC f [.agg [ST x.path,aC x.eZ.a,aC x.eZ.b,aC x.eZ.c,aC x.eZ.d,aC x.used.a,aC x.used.b,aC x.used.c,aC x.used.d],.ptr 0 0] [.var [ST q]] (.ret (BL (p x))) [.var [ST q]]) {r:Int} (hr:r=idxOf p l):FC 135 [SL es,.fn f [.ptr 0 0]] [.var [ST q]] (.ret (bG r)) [.var [ST q]]:=by
 have hel:es.length=l.length:=by rw [aE,lgM]
 obtain ⟨J,hJ⟩:∃J:Nat→Nat→Prop,∀n v,J n v↔(v+n=l.length∧∀i<v,∀x,l[i]?=some x→p x=false):=⟨fun n v=>v+n=l.length∧∀i<v,∀x,l[i]?=some x→p x=false,fun _ _=>Iff.rfl⟩
 refine bP ht (aQ:=[.var [ST q]]) Tryz.func135 rfl rfl (N:=19) rfl rfl (n:=1) rfl rfl ?_
 cbv
 refine bH ⟨[0,1,7,8],[],[]⟩ (σ:=Nat) (fun k=>[(8,bG (t _ fun _=>(k:Int)))]) (fun _=>[]) J ?_
 cbv
 refine aH ⟨l.length,0,(hJ _ _).2 ⟨by omega,by intro i hi;simp at hi⟩,by simp only [ht];rfl,?_⟩
 rintro n k hj
 obtain ⟨h2,h3⟩:=(hJ _ _).1 hj
 clear hj
 cbv
 refine av (fun h=>?_) (fun h=>?_)
 ·simp only [ht,ah,decide_eq_true_eq] at h
  have hk:k<l.length:=by omega
  obtain ⟨x,hx⟩:∃x,l[k]?=some x:=⟨l[k],by simp⟩
  have pG:x∈l:=List.mem_of_getElem? hx
  have ix:=hf x pG
  obtain ⟨px,hpx⟩:∃b,b=p x:=⟨_,rfl⟩
  rw [←hpx] at ix
  obtain ⟨nm,⟨a,b,c,d⟩,⟨e,g,u,v⟩⟩:=x
  cbv
  refine jG [.str nm,.int .u64 a,.int .u64 b,.int .u64 c,.int .u64 d,.int .u64 e,.int .u64 g,.int .u64 u,.int .u64 v] ?_ ?_ ?_
  ·simp only [ht,ah];refine ⟨by omega,h,?_⟩;rw [aE];intro r hr;obtain ⟨y,_,rfl⟩:=List.mem_map.1 hr;rfl
  ·simp [ht,ah,aE,hx]
  cbv
  refine eG trv ix ?_
  cbv
  refine av (fun hb=>?_) (fun hb=>?_)
  ·cbv
   refine az trv trv rfl rfl rfl ?_
   have e:=dD hx (hpx▸hb) h3
   simp only [ht,ah,hr,idxOf,e]
  cbv
  refine aH ⟨n-1,k+1,⟨by omega,(hJ _ _).2 ⟨by omega,?_⟩⟩,?_⟩
  ·intro i hi y hy
   by_cases hik:i<k
   ·exact h3 i hik y hy
   have:i=k:=by omega
   subst this;rw [hx] at hy;cases hy;rw [←hpx];exact hb
  simp only [ht,ah,aG (show k<9223372036854775807 by omega)];rfl
 simp only [ht,ah,decide_eq_false_iff_not] at h
 have hk:¬k<l.length:=by omega
 clear h
 cbv
 refine az trv trv rfl rfl rfl ?_
 rw [hr,idxOf,dQ]
 intro i y hy
 have:i<l.length:=by
  rcases Nat.lt_or_ge i l.length with h'|h';· exact h'
  simp [List.getElem?_eq_none h'] at hy
 exact h3 i (by omega) y hy
theorem VA (ht:TT t) (q:aK) (x:bg) {r:Bool} (hr:r=!Op.bytesLess x.path q):FC 143 [.agg [ST x.path,aC x.eZ.a,aC x.eZ.b,aC x.eZ.c,aC x.eZ.d,aC x.used.a,aC x.used.b,aC x.used.c,aC x.used.d],.ptr 0 0] [.var [ST q]] (.ret (BL r)) [.var [ST q]]:=by
 obtain ⟨nm,⟨a,b,c,d⟩,⟨e,g,u,v⟩⟩:=x
 refine bP ht (aQ:=[.var [ST q]]) Tryz.func143 rfl rfl (N:=8) rfl rfl (n:=1) rfl rfl ?_
 cbv
 refine az trv trv rfl rfl rfl ?_
 simp only [ht,hr]
theorem yj (ht:TT t) {l:List bg} {es:List (List D)} (aE:es=l.map bg.cells) (hs:l.length<1000000000):
 FC 106 [SL es] [] (.ret (.ow 0 9 (t _ fun _=>(l.map bg.cells).length))) [.row 9 (t _ fun _=>l.map bg.cells)]:=by
 simp only [ht];subst aE
 refine A6 ht ?_ ?_ (by simp)
 ·intro r hr;obtain ⟨y,_,rfl⟩:=List.mem_map.1 hr;rfl
 simp;omega
theorem vF (ht:TT t) {l:List bg} {x:bg} {k:Nat} {i:Int} (hi:i=k) (hk:k≤l.length) (hl:l.length<1000000):
 FC 144 [.ow 0 9 (t _ fun _=>(l.map bg.cells).length),bG i,.cl [bg.cells x]] [.row 9 (t _ fun _=>l.map bg.cells)] (.ret (SL (t _ fun _=>(l.take k++x::l.drop k).map bg.cells))) [.dead]:=by
 simp only [ht];subst hi
 refine oN (args':=[.ow 0 9 (l.map bg.cells).length,bG k,SL [bg.cells x]]) ?_ (HE ht (by simp) (by simpa using hk) ?_ rfl (by simpa using hl) (by simp))
 ·intro β w ok vs h
  simp only [an] at h ⊢
  obtain ⟨u1,YP,rfl,h1,u2,Ot,rfl,h2,u3,Vw,rfl,h3,h4⟩:=h
  exact ⟨u1,_,rfl,h1,u2,_,rfl,h2,u3,Vw,rfl,Lw h3,h4⟩
 intro r hr;obtain ⟨y,_,rfl⟩:=List.mem_map.1 hr;rfl
theorem Uu {t:Th} (ht:TT t) {α:Type} {l:List α} {cells cT:α→List D} {es:List (List D)} {g:Bool} {c:Prop} (aE:es=l.map cells) {z:Int} {n:Nat} (i:Nat) (x:α) {K:List D→Prop} (hi:g=true→z=i∧l[i]?=some x) (hn:∀x,(cells x).length=n) (hT:∀x,cells x=cT x)
 (hc:g=true→c) (hK:K (cT x)):nI g (c∧(t Prop fun _=>0≤z∧z<es.length∧∀r∈es,r.length=n)) (t _ fun _=>es.getD z.toNat []) K:=by
 refine Sv (cT x) (fun hg=>?_) hK
 obtain ⟨h1,h2⟩:=hi hg
 obtain ⟨ds,h,hk⟩:=so (K:=fun ds=>ds=cT x) ht aE h2 h1 hn hT rfl
 obtain ⟨h3,h4⟩:=h rfl
 exact ⟨⟨hc hg,h3⟩,h4.trans hk⟩
theorem qM {l:List bg} {q:aK} {r:Int} (h:r=cm l q):(r=-1∧cm l q=-1∧l.findIdx? (fun e=>decide (e.path=q))=none)∨∃(k:Nat) (x:bg),r=k∧cm l q=k∧k<l.length∧l[k]?=some x∧l.findIdx? (fun e=>decide (e.path=q))=some k:=by
 rcases cJ (p:=fun e:bg=>decide (e.path=q)) (l:=l) (r:=r) h with ⟨e1,e2,e3⟩|⟨i,x,hi,hil,e1,e2,e3,e4⟩
 ·exact .inl ⟨e1,by rw [←h,e1],e2⟩
 exact .inr ⟨i,x,hi,by rw [←h,hi],hil,e1,e3⟩
def S6 (l:List bg) (q:aK):Nat:=match l.findIdx? (fun e=>!Op.bytesLess e.path q) with
 |some k=>k
 |none=>l.length
theorem Dk {l:List bg} {q:aK} {v:bM} (h:l.findIdx? (fun e=>decide (e.path=q))=none) (h1:named q=true) (h2:¬q=[]→0≤cm l (parent q)) (h3:cm l q<0→(l.length:Int)<16):
 vc l q v=(l.take (S6 l q)++⟨q,v,bM.zero⟩::l.drop (S6 l q),0):=by
 have e0:cm l q=-1:=by unfold cm idxOf;rw [h]
 have h3:=h3 (by omega)
 unfold vc S6
 rw [if_neg (by simp [h1]),if_neg (by simp;exact fun g=>by have:=h2 g;omega),if_neg (by simp;omega)]
 simp only [h]
 cases l.findIdx? (fun e=>!Op.bytesLess e.path q)<;>simp
theorem M9 {l:List bg} {q:aK} {v:bM} (h1:named q=true) (h2:¬q=[]→0≤cm l (parent q)) (h3:cm l q<0) (h4:(16:Int)≤l.length):vc l q v=(l,9):=by
 unfold vc
 rw [if_neg (by simp [h1]),if_neg (by simp;exact fun g=>by have:=h2 g;omega),if_pos (by simp;omega)]
theorem Dl {l:List bg} {q:aK} {v:bM} {k:Nat} {x:bg} (h:l.findIdx? (fun e=>decide (e.path=q))=some k) (hx:l[k]?=some x) (h1:named q=true) (h2:¬q=[]→0≤cm l (parent q)):
 vc l q v=if lq x.used v then (l.set k {x with eZ:=v},0) else (l,10):=by
 have e0:cm l q=k:=by unfold cm idxOf;rw [h]
 unfold vc
 rw [if_neg (by simp [h1]),if_neg (by simp;exact fun g=>by have:=h2 g;omega),if_neg (by simp;omega)]
 simp only [h,List.getD_eq_getElem?_getD,hx,Option.getD_some]
 cases lq x.used v<;>simp
theorem zk (ht:TT t) (q:aK) (a b c d:Int) {l:List bg} {es:List (List D)} (aE:es=l.map bg.cells) (hl:l.length<100000) (hq:q.length<1000000000000) (hpq:(parent q).length<1000000000000):
 FC 92 [SL es,ST q,V4 a b c d] [] (.ret (A5 t (t _ fun _=>vc l q ⟨a,b,c,d⟩))) []:=by
 obtain ⟨pq,Na⟩:∃p,p=parent q:=⟨_,rfl⟩
 obtain ⟨nq,Fg⟩:∃p,p=named q:=⟨_,rfl⟩
 refine bP ht (aQ:=[]) Tryz.func92 rfl rfl (N:=77) rfl rfl (n:=0) rfl rfl ?_
 cbv
 have aD:es.length=l.length:=by rw [aE,lgM]
 refine bc trv (lU ht _ ‹_› (by omega)) trv rfl rfl (fun r0 dj=>?_)
 simp only [ht] at dj
 (rcases qM (q:=q) dj with ⟨e1,e0,e2⟩|⟨i,x,e1,e0,hil,e3,e2⟩)
 ·cbv
  refine bc trv (A4 ht _ ‹_›) trv rfl rfl (fun r1 cF=>?_)
  simp only [ht] at cF
  rw [←Fg] at cF
  subst r1
  cbv
  refine av (fun h2=>?_) (fun h2=>?_)
  ·simp [ht] at h2
   cbv
   refine az trv trv rfl rfl rfl ?_
   (subst Na Fg;simp_all [vc];done)
  simp [ht] at h2
  cbv
  iterate 2 refine gI (by simp [ht]) ?_
  refine eY (fun g3=>⟨by simp [ht] at g3 ⊢;exact g3,trv,Di ht _ ‹_›⟩) rfl rfl (fun r4 k9=>?_)
  simp only [ht] at k9
  rw [←Na] at k9
  subst r4
  cbv
  refine eY (fun g5=>⟨by simp [ht] at g5 ⊢;exact g5,trv,lU ht _ ‹_› (by omega)⟩) rfl rfl (fun r6 ol=>?_)
  simp only [ht] at ol
  skip
  cbv
  refine gI (by simp [ht]) ?_
  refine pI (by simp [ht]) ?_
  refine av (fun h7=>?_) (fun h7=>?_)
  ·simp [ht] at h7
   cbv
   refine az trv trv rfl rfl rfl ?_
   (subst Na Fg;simp_all [vc];done)
  simp [ht] at h7
  cbv
  iterate 3 refine gI (by simp [ht]) ?_
  refine pI (by simp [ht]) ?_
  refine av (fun h8=>?_) (fun h8=>?_)
  ·simp [ht,ah,aD] at h8
   cbv
   refine az trv trv rfl rfl rfl ?_
   (simp only [ht];rw [M9 (by rw [←Fg];assumption) (fun g=>by rw [←Na,←ol];exact h7 g) (by omega) h8.2];simp [aE];done)
  simp [ht,ah,aD] at h8
  cbv
  refine dO [true,true,true,false,false,false,false,false,false,true,true,true,true] (by kernel_rfl) (by kernel_rfl) ?_
  cbv
  iterate 2 refine gI (by simp [ht]) ?_
  (refine Uu ht aE (cT:=bg.aZ t) 0 default (fun g=>absurd g (by simp [ht,e1])) (fun _=>rfl) (fun _=>by simp only [bg.aZ]) (fun g=>by exact ⟨g,g,trv⟩) ?_)
  cbv
  iterate 3 refine gI (by simp [ht]) ?_
  refine eY (fun g9=>⟨by simp [ht] at g9 ⊢;exact g9,trv,vC ht _ _ _ _ _ _ _ _⟩) rfl rfl (fun r10 Z9=>?_)
  simp only [ht] at Z9
  cbv
  refine gI (by simp [ht]) ?_
  refine pI (by simp [ht]) ?_
  refine av (fun h11=>?_) (fun h11=>?_)
  ·simp [ht] at h11
   omega
  simp [ht] at h11
  cbv
  refine jY trv (yj ht ‹_› (by omega)) trv rfl (.inr rfl) ?_
  cbv
  refine av (fun h12=>?_) (fun h12=>?_)
  ·simp [ht] at h12
   omega
  simp [ht] at h12
  cbv
  (obtain ⟨r9,jU⟩:∃r,r=idxOf (fun o:bg=>!Op.bytesLess o.path q) l:=⟨_,rfl⟩;refine dP [0] trv rfl rfl (Qj ht q aE 143 (fun o:bg=>!Op.bytesLess o.path q) (by omega) (fun x _=>VA ht q x rfl) jU) (cK ?_);have ec:=cJ jU;clear jU;rcases ec with ⟨f1,f2,f3⟩|⟨z,y,f0,fz,f1,f2,f3,f4⟩)
  ·cbv
   refine av (fun Qk=>?_) (fun Qk=>?_)
   ·simp [ht] at Qk
    cbv
    refine dP [3] trv rfl rfl (vF ht (l:=l) (x:=⟨q,⟨a,b,c,d⟩,bM.zero⟩) (k:=S6 l q) (by (simp [ht,S6,f2,aD];done)) (by (simp [S6,f2];done)) (by simp only [ah] at*;omega)) (cK ?_)
    cbv
    refine az trv trv rfl rfl rfl ?_
    (simp only [ht];rw [Dk e2 (by rw [←Fg];assumption) (fun g=>by rw [←Na,←ol];exact h7 g) (fun g=>h8 (by omega))])
   simp [ht] at Qk
   omega
  cbv
  refine av (fun Nb=>?_) (fun Nb=>?_)
  ·simp [ht] at Nb
   (simp only [ah] at*;omega)
  simp [ht] at Nb
  cbv
  refine dP [3] trv rfl rfl (vF ht (l:=l) (x:=⟨q,⟨a,b,c,d⟩,bM.zero⟩) (k:=S6 l q) (by (simp only [S6,f3];exact f0)) (by (simp only [S6,f3];omega)) (by simp only [ah] at*;omega)) (cK ?_)
  cbv
  refine az trv trv rfl rfl rfl ?_
  (simp only [ht];rw [Dk e2 (by rw [←Fg];assumption) (fun g=>by rw [←Na,←ol];exact h7 g) (fun g=>h8 (by omega))])
 cbv
 refine bc trv (A4 ht _ ‹_›) trv rfl rfl (fun r15 X4=>?_)
 simp only [ht] at X4
 rw [←Fg] at X4
 subst r15
 cbv
 refine av (fun Ql=>?_) (fun Ql=>?_)
 ·simp [ht] at Ql
  cbv
  refine az trv trv rfl rfl rfl ?_
  (subst Na Fg;simp_all [vc];done)
 simp [ht] at Ql
 cbv
 iterate 2 refine gI (by simp [ht]) ?_
 refine eY (fun g17=>⟨by simp [ht] at g17 ⊢;exact g17,trv,Di ht _ ‹_›⟩) rfl rfl (fun r18 X5=>?_)
 simp only [ht] at X5
 rw [←Na] at X5
 subst r18
 cbv
 refine eY (fun g19=>⟨by simp [ht] at g19 ⊢;exact g19,trv,lU ht _ ‹_› (by omega)⟩) rfl rfl (fun r20 VB=>?_)
 simp only [ht] at VB
 skip
 cbv
 refine gI (by simp [ht]) ?_
 refine pI (by simp [ht]) ?_
 refine av (fun X6=>?_) (fun X6=>?_)
 ·simp [ht] at X6
  cbv
  refine az trv trv rfl rfl rfl ?_
  (subst Na Fg;simp_all [vc];done)
 simp [ht] at X6
 cbv
 iterate 3 refine gI (by simp [ht]) ?_
 refine pI (by simp [ht]) ?_
 refine av (fun h22=>?_) (fun h22=>?_)
 ·simp [ht,ah,aD] at h22
  (simp only [ah] at*;omega)
 simp [ht,ah,aD] at h22
 cbv
 refine dO [true,true,true,false,false,false,false,false,false,true,true,true,true] (by kernel_rfl) (by kernel_rfl) ?_
 cbv
 iterate 2 refine gI (by simp [ht]) ?_
 (refine Uu ht aE (cT:=bg.aZ t) i x (fun g=>⟨e1,e3⟩) (fun _=>rfl) (fun _=>by simp only [bg.aZ]) (fun g=>by exact ⟨g,g,trv⟩) ?_)
 cbv
 iterate 3 refine gI (by simp [ht]) ?_
 refine eY (fun g23=>⟨by simp [ht] at g23 ⊢;exact g23,trv,vC ht _ _ _ _ _ _ _ _⟩) rfl rfl (fun r24 aab=>?_)
 simp only [ht] at aab
 cbv
 refine gI (by simp [ht]) ?_
 refine pI (by simp [ht]) ?_
 refine av (fun h25=>?_) (fun h25=>?_)
 ·simp [ht] at h25
  cbv
  refine az trv trv rfl rfl rfl ?_
  (have ts:=Dl (v:=⟨a,b,c,d⟩) e2 e3 (by rw [←Fg];assumption) (fun g=>by rw [←Na,←VB];exact X6 g);simp only [ht];rw [ts];simp_all;done)
 simp [ht] at h25
 cbv
 refine jY trv (yj ht ‹_› (by omega)) trv rfl (.inr rfl) ?_
 cbv
 refine av (fun h26=>?_) (fun h26=>?_)
 ·simp [ht] at h26
  cbv
  refine ⟨?_,?_⟩
  ·(subst Na Fg;simp_all;done)
  refine ⟨?_,?_⟩
  ·(subst Na Fg;simp_all;done)
  cbv
  refine az trv (by simp [ht]) rfl rfl rfl ?_
  (have ts:=Dl (v:=⟨a,b,c,d⟩) e2 e3 (by rw [←Fg];assumption) (fun g=>by rw [←Na,←VB];exact X6 g);simp only [ht];rw [ts];simp_all [List.map_set,be];done)
 simp [ht] at h26
 (simp only [ah] at*;omega)
end Dem
end
