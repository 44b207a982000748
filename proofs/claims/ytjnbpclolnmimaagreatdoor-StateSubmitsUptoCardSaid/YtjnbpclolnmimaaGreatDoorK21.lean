/- Parts of a proof, joined. -/
import Derived.Test.YtjnbpclolnmimaaGreatDoorK20
import Derived.Lib.Mul64
set_option linter.all false
set_option maxRecDepth 100000
set_option maxHeartbeats 4000000
section
open Go Dem Go.Proofs
namespace Dem
variable {t:Th}
theorem TG (x y:Nat) (hx:x<18446744073709551616) (hy:y<18446744073709551616):MY x y=if (x*y / 18446744073709551616=0) then (((x*y:Nat):Int),true) else (0,false):=by
 unfold MY
 simp only [Int.toNat_natCast]
 by_cases h:x*y<18446744073709551616
 ·rw [if_pos h,if_pos (Nat.div_eq_of_lt h)]
 rw [if_neg h,if_neg (by have:=Nat.div_le_div_right (c:=18446744073709551616) (Nat.le_of_not_lt h);simp at this;omega)]
theorem TH (x:Nat):x &&& 4294967295=x%4294967296:=by
 have:=Nat.and_two_pow_sub_one_eq_mod x 32
 simpa using this
theorem QW (x:Nat) (hx:x<18446744073709551616):IntKind.u64.wrap ((BitVec.ofInt IntKind.u64.bits (x:Int) &&& BitVec.ofInt IntKind.u64.bits 4294967295).toNat:Int)=((x%4294967296:Nat):Int):=by
 have e1:BitVec.ofInt IntKind.u64.bits (x:Int)=BitVec.ofNat 64 x:=by simp [IntKind.bits]
 have e2:BitVec.ofInt IntKind.u64.bits 4294967295=BitVec.ofNat 64 4294967295:=by rfl
 rw [e1,e2]
 have:(BitVec.ofNat 64 x &&& BitVec.ofNat 64 4294967295).toNat=x%4294967296:=by
  rw [BitVec.toNat_and,BitVec.toNat_ofNat,BitVec.toNat_ofNat,Nat.mod_eq_of_lt (a:=x) (by simpa using hx),Nat.mod_eq_of_lt (a:=4294967295) (by decide),TH]
 have h2:x%4294967296<18446744073709551616:=by omega
 rw [bI]
 show (((BitVec.ofNat 64 x &&& BitVec.ofNat 64 4294967295).toNat:Nat):Int)%18446744073709551616=_
 rw [this];omega
theorem Ml (x:Nat):(x:Int).fdiv (2^(min (32:Int).toNat IntKind.u64.bits))=((x / 4294967296:Nat):Int):=by
 show (x:Int).fdiv (2^32)=_
 rw [Int.fdiv_eq_ediv_of_nonneg _ (by decide)];norm_cast
theorem Fh {n:Nat} (h:n<18446744073709551616):IntKind.u64.wrap (n:Int)=n:=by rw [bI];omega
theorem TJ (ht:TT t) (x y:Nat) (hx:x<18446744073709551616) (hy:y<18446744073709551616) {a b:Int} (ha:a=x) (hb:b=y):
 FC 204 [ax a,ax b] [] (.ret (.dA [ax (t _ fun _=>((x*y / 18446744073709551616:Nat):Int)),ax (t _ fun _=>IntKind.u64.wrap ((x*y:Nat):Int))])) []:=by
 obtain ⟨k1,k2,k3,k4⟩:=Lib.mul64_hi x y hx hy
 refine bA ht (aB:=[]) Tryz.func204 rfl rfl (N:=51) rfl rfl (n:=0) rfl rfl ?_
 cbv
 refine ⟨by simp [ht],by simp [ht],by simp [ht],by simp [ht],by simp [ht],?_⟩
 refine ak trv trv rfl rfl rfl ?_
 simp only [ht,aa]
 subst ha hb
 have b1:x / 4294967296≤4294967295:=by omega
 have b2:y / 4294967296≤4294967295:=by omega
 have b3:x%4294967296≤4294967295:=by omega
 have b4:y%4294967296≤4294967295:=by omega
 have m1:=Lib.half_mul_le b1 b2
 have m2:=Lib.half_mul_le b1 b4
 have m3:=Lib.half_mul_le b3 b2
 have m4:=Lib.half_mul_le b3 b4
 have k5:x / 4294967296*(y / 4294967296)+(x / 4294967296*(y%4294967296)+x%4294967296*(y%4294967296) / 4294967296) / 4294967296<18446744073709551616:=by omega
 have k6:x*y / 18446744073709551616<18446744073709551616:=by
  rw [Nat.div_lt_iff_lt_mul (by decide)]
  exact Nat.mul_lt_mul'' hx hy
 simp only [Ml,QW x hx,QW y hy,←Int.natCast_mul]
 rw [Fh k1,Fh (n:=x / 4294967296*(y%4294967296)) (by omega),Fh (n:=x%4294967296*(y / 4294967296)) (by omega),Fh (n:=x / 4294967296*(y / 4294967296)) (by omega)]
 simp only [Ml,←Int.natCast_add]
 rw [Fh k2,QW _ k2]
 simp only [Ml,←Int.natCast_add]
 rw [Fh k5,Fh k3]
 simp only [Ml,←Int.natCast_add]
 rw [k4,Fh k6]
theorem NM (ht:TT t) (x y:Int) (hx:0≤x∧x<18446744073709551616) (hy:0≤y∧y<18446744073709551616) {r:Int} {ok:Bool} (h:(r,ok)=MY x y):
 FC 169 [ax x,ax y] [] (.ret (.dA [ax r,BL ok])) []:=by
 obtain ⟨a,rfl⟩:=Int.eq_ofNat_of_zero_le hx.1
 obtain ⟨b,rfl⟩:=Int.eq_ofNat_of_zero_le hy.1
 have ha:a<18446744073709551616:=by omega
 have hb:b<18446744073709551616:=by omega
 rw [TG a b ha hb] at h
 have hw:a*b / 18446744073709551616=0→IntKind.u64.wrap ((a*b:Nat):Int)=((a*b:Nat):Int):=fun e=>by
  refine Fh ?_
  rcases Nat.lt_or_ge (a*b) 18446744073709551616 with h1|h1
  ·exact h1
  have:=Nat.div_le_div_right (c:=18446744073709551616) h1;simp at this;omega
 obtain ⟨w,YD⟩:∃w,w=IntKind.u64.wrap ((a*b:Nat):Int):=⟨_,rfl⟩
 obtain ⟨z,hz⟩:∃z,z=a*b / 18446744073709551616:=⟨_,rfl⟩
 have hc:=TJ ht a b ha hb rfl rfl
 rw [←YD,←hz] at hc
 rw [←YD,←hz] at hw
 rw [←hz] at h
 obtain ⟨x,hx0⟩:∃x:Int,x=a:=⟨_,rfl⟩
 obtain ⟨y,hy0⟩:∃y:Int,y=b:=⟨_,rfl⟩
 rw [←hx0,←hy0] at hc ⊢
 refine bA ht (aB:=[]) Tryz.func169 rfl rfl (N:=17) rfl rfl (n:=0) rfl rfl ?_
 cbv
 refine gV trv hc trv rfl rfl ?_
 cbv
 refine ai (fun hc=>?_) (fun hc=>?_)
 ·cbv
  refine ak trv trv rfl rfl rfl ?_
  simp only [ht,aa,Bool.not_eq_true',decide_eq_false_iff_not] at hc
  rw [if_neg (by omega)] at h
  cases h;rfl
 cbv
 refine ak trv trv rfl rfl rfl ?_
 simp only [ht,aa,Bool.not_eq_false',decide_eq_true_eq] at hc
 have W4:z=0:=by omega
 rw [if_pos W4] at h
 cases h
 simp only [ht,hw W4]
theorem QX (ht:TT t) (m x y:Int) (hx:0≤x∧x<18446744073709551616) (hm:0≤m∧m<18446744073709551616) {r:Int} {ok:Bool} (h:(r,ok)=MY x m):
 FC 168 [ax x,ax y,.ptr 0 0] [.var [ax m]] (.ret (.dA [ax r,BL ok])) [.var [ax m]]:=by
 refine bA ht (aB:=[.var [ax m]]) Tryz.func168 rfl rfl (N:=12) rfl rfl (n:=1) rfl rfl ?_
 cbv
 refine gV trv (NM ht x m hx hm h) trv rfl rfl ?_
 cbv
 exact ak trv trv rfl rfl rfl rfl
theorem TK (ht:TT t) (m:Int) (a0 a1 a2 a3 b0 b1 b2 b3:Int) (op:Int→Int→Int×Bool) (F:Nat) (hop:∀(x y r:Int) (ok:Bool),(r,ok)=op x y→0≤x∧x<18446744073709551616→FC F [.d (.int .u64 x),.d (.int .u64 y),.ptr 0 0] [.var [ax m]] (.ret (.dA [.d (.int .u64 r),.d (.bool ok)])) [.var [ax m]])
 (u0:0≤a0∧a0<18446744073709551616) (u1:0≤a1∧a1<18446744073709551616) (u2:0≤a2∧a2<18446744073709551616) (u3:0≤a3∧a3<18446744073709551616)
 {r0 r1 r2 r3:Int} {ok:Bool} (h:(⟨r0,r1,r2,r3⟩,ok)=both op ⟨a0,a1,a2,a3⟩ ⟨b0,b1,b2,b3⟩):
 FC 79 [.agg [.d (.int .u64 a0),.d (.int .u64 a1),.d (.int .u64 a2),.d (.int .u64 a3)],.agg [.d (.int .u64 b0),.d (.int .u64 b1),.d (.int .u64 b2),.d (.int .u64 b3)],.fn F [.ptr 0 0]] [.var [ax m]]
  (.ret (.dA [.agg [.d (.int .u64 r0),.d (.int .u64 r1),.d (.int .u64 r2),.d (.int .u64 r3)],.d (.bool ok)])) [.var [ax m]]:=by
 obtain ⟨⟨s0,k0⟩,e0⟩:∃s,s=op a0 b0:=⟨_,rfl⟩
 obtain ⟨⟨s1,k1⟩,e1⟩:∃s,s=op a1 b1:=⟨_,rfl⟩
 obtain ⟨⟨s2,k2⟩,e2⟩:∃s,s=op a2 b2:=⟨_,rfl⟩
 obtain ⟨⟨s3,k3⟩,e3⟩:∃s,s=op a3 b3:=⟨_,rfl⟩
 have h0:(k0&&k1&&k2&&k3)=false→r0=0∧r1=0∧r2=0∧r3=0∧ok=false:=by
  intro hk;simp only [both,←e0,←e1,←e2,←e3] at h;rw [if_neg (by rw [hk];simp)] at h;cases h;exact ⟨rfl,rfl,rfl,rfl,rfl⟩
 have h1:(k0&&k1&&k2&&k3)=true→r0=s0∧r1=s1∧r2=s2∧r3=s3∧ok=true:=by
  intro hk;simp only [both,←e0,←e1,←e2,←e3] at h;rw [if_pos hk] at h;cases h;exact ⟨rfl,rfl,rfl,rfl,rfl⟩
 clear h
 have fin:∀{B:List ar},(k0&&k1&&k2&&k3)=false→AN 1 True (AV.dA [.agg [.d (.int .u64 0),.d (.int .u64 0),.d (.int .u64 0),.d (.int .u64 0)],.d (.bool false)]) (.var [ax m]::B) (some (True,AV.dA [.agg [.d (.int .u64 0),.d (.int .u64 0),.d (.int .u64 0),.d (.int .u64 0)],.d (.bool false)]))
  (.ret (.dA [.agg [.d (.int .u64 r0),.d (.int .u64 r1),.d (.int .u64 r2),.d (.int .u64 r3)],.d (.bool ok)])) [.var [ax m]]:=by
  intro bx hk
  obtain ⟨rfl,rfl,rfl,rfl,rfl⟩:=h0 hk
  exact ak trv trv rfl rfl rfl rfl
 refine bA ht (aB:=[.var [ax m]]) Tryz.func79 rfl rfl (N:=34) rfl rfl (n:=1) rfl rfl ?_
 cbv
 refine bg ⟨[2,3,4,6,12,13],[],[]⟩ (σ:=Nat) (fun j=>[(13,.d (.int .i64 j))]) (fun j=>[(1,.var [.d (.int .u64 (bif Nat.blt 0 j then s0 else a0)),.d (.int .u64 (bif Nat.blt 1 j then s1 else a1)),.d (.int .u64 (bif Nat.blt 2 j then s2 else a2)),.d (.int .u64 (bif Nat.blt 3 j then s3 else a3))])])
  (fun n j=>n+j=4∧(0<j→k0=true)∧(1<j→k1=true)∧(2<j→k2=true)∧(3<j→k3=true)) ?_
 cbv
 refine aC ⟨4,0,⟨rfl,by omega,by omega,by omega,by omega⟩,rfl,?_⟩
 rintro n j ⟨hn,g0,g1,g2,g3⟩
 have hj:j=0∨j=1∨j=2∨j=3∨j=4:=by omega
 rcases hj with rfl|rfl|rfl|rfl|rfl
 ·cbv
  refine mJ (by simp [ht]) ?_
  cbv
  refine ⟨by simp [ht],by simp [ht],cD [0] trv rfl rfl (hop _ _ _ _ e0 u0) (bK ?_)⟩
  cbv
  refine ai (fun hc=>?_) (fun hc=>?_)
  ·simp only [ht,Bool.not_eq_true'] at hc
   cbv
   exact fin (by simp [hc])
  simp only [ht,Bool.not_eq_false'] at hc
  cbv
  refine ⟨by simp [ht],?_⟩
  refine aC ⟨3-0,0+1,⟨⟨by omega,by omega,by simp_all,by simp_all,by simp_all,by simp_all⟩,?_⟩⟩
  simp only [ht];rfl
 ·cbv
  refine mJ (by simp [ht]) ?_
  cbv
  refine ⟨by simp [ht],by simp [ht],cD [0] trv rfl rfl (hop _ _ _ _ e1 u1) (bK ?_)⟩
  cbv
  refine ai (fun hc=>?_) (fun hc=>?_)
  ·simp only [ht,Bool.not_eq_true'] at hc
   cbv
   exact fin (by simp [hc])
  simp only [ht,Bool.not_eq_false'] at hc
  cbv
  refine ⟨by simp [ht],?_⟩
  refine aC ⟨3-1,1+1,⟨⟨by omega,by omega,by simp_all,by simp_all,by simp_all,by simp_all⟩,?_⟩⟩
  simp only [ht];rfl
 ·cbv
  refine mJ (by simp [ht]) ?_
  cbv
  refine ⟨by simp [ht],by simp [ht],cD [0] trv rfl rfl (hop _ _ _ _ e2 u2) (bK ?_)⟩
  cbv
  refine ai (fun hc=>?_) (fun hc=>?_)
  ·simp only [ht,Bool.not_eq_true'] at hc
   cbv
   exact fin (by simp [hc])
  simp only [ht,Bool.not_eq_false'] at hc
  cbv
  refine ⟨by simp [ht],?_⟩
  refine aC ⟨3-2,2+1,⟨⟨by omega,by omega,by simp_all,by simp_all,by simp_all,by simp_all⟩,?_⟩⟩
  simp only [ht];rfl
 ·cbv
  refine mJ (by simp [ht]) ?_
  cbv
  refine ⟨by simp [ht],by simp [ht],cD [0] trv rfl rfl (hop _ _ _ _ e3 u3) (bK ?_)⟩
  cbv
  refine ai (fun hc=>?_) (fun hc=>?_)
  ·simp only [ht,Bool.not_eq_true'] at hc
   cbv
   exact fin (by simp [hc])
  simp only [ht,Bool.not_eq_false'] at hc
  cbv
  refine ⟨by simp [ht],?_⟩
  refine aC ⟨3-3,3+1,⟨⟨by omega,by omega,by simp_all,by simp_all,by simp_all,by simp_all⟩,?_⟩⟩
  simp only [ht];rfl
 cbv
 refine pP (by simp [ht]) ?_
 cbv
 obtain ⟨rfl,rfl,rfl,rfl,rfl⟩:=h1 (by simp [g0,g1,g2,g3])
 exact ak trv trv rfl rfl rfl rfl
theorem NN (ht:TT t) (a0 a1 a2 a3 n:Int) (hu:(⟨a0,a1,a2,a3⟩:bz).u') (hn:0≤n∧n<18446744073709551616):
 FC 117 [V4 a0 a1 a2 a3,ax n] [] (.ret (Yp (t _ fun _=>JN ⟨a0,a1,a2,a3⟩ n))) []:=by
 obtain ⟨⟨⟨r0,r1,r2,r3⟩,ok⟩,h⟩:∃r,r=JN ⟨a0,a1,a2,a3⟩ n:=⟨_,rfl⟩
 rw [←h]
 obtain ⟨u0,u1,u2,u3⟩:=hu
 refine bA ht (aB:=[]) Tryz.func117 rfl rfl (N:=12) rfl rfl (n:=0) rfl rfl ?_
 cbv
 refine cD [1] trv rfl rfl (TK ht n a0 a1 a2 a3 0 0 0 0 (fun x _=>MY x n) 168 (fun x y r ok e hx=>QX ht n x y hx hn e) u0 u1 u2 u3 h) (bK ?_)
 cbv
 refine ak trv trv rfl rfl rfl ?_
 simp only [ht]
def Ask.sm (x:Ask):Prop:=x.path.length<1000000000000∧x.fZ.u'∧x.bX.length<1000000000∧∀m∈x.bX,m.sm
theorem Wd {x y:Ask}:x=y↔x.path=y.path∧x.fZ=y.fZ∧x.count=y.count∧x.prio=y.prio∧x.dO=y.dO∧x.bX=y.bX:=by cases x;cases y;simp
theorem sB (ht:TT t) (p:aA) (a b c d n pr tk:Int) {sl:List Term} (sr:List (List D)) (hu:(⟨a,b,c,d⟩:bz).u'):
 FC 58 [.agg [ST p,ax a,ax b,ax c,ax d,bc n,bc pr,bc tk,SL sr]] [] (.ret (Yp (t _ fun _=>dG ⟨p,⟨a,b,c,d⟩,n,pr,tk,sl⟩))) []:=by
 refine bA ht (aB:=[]) Tryz.func58 rfl rfl (N:=12) rfl rfl (n:=0) rfl rfl ?_
 cbv
 (refine ay trv (NN ht a b c d _ hu (by simp only [ht];rw [bI];omega)) trv rfl rfl (fun r9 dz=>?_);simp only [ht,bI] at dz)
 cbv
 refine ak trv trv rfl rfl rfl ?_
 (simp [dG, *];done)
theorem KQ (ht:TT t) (n a b:Int):FC 57 [bc n,bc a,bc b] [] (.ret (cu (t _ fun _=>Ou n a b))) []:=by
 refine bA ht (aB:=[]) Tryz.func57 rfl rfl (N:=15) rfl rfl (n:=0) rfl rfl ?_
 cbv
 iterate 3 refine gI (by simp [ht]) ?_
 refine pI (by simp [ht]) ?_
 refine ak trv trv rfl rfl rfl ?_
 (simp [ht,Ou];done)
theorem j9 (ht:TT t) (p:aA) (a b c d n pr tk:Int) {sl:List Term} {sr:List (List D)} (US:sr=sl.map Term.cells) (gD:(⟨p,⟨a,b,c,d⟩,n,pr,tk,sl⟩:Ask).sm):
 FC 18 [.agg [ST p,ax a,ax b,ax c,ax d,bc n,bc pr,bc tk,SL sr]] [] (.ret (mR (t _ fun _=>cI ⟨p,⟨a,b,c,d⟩,n,pr,tk,sl⟩))) []:=by
 obtain ⟨h1,h2,h3,h4⟩:=gD
 simp only at h1 h2 h3 h4
 refine bA ht (aB:=[]) Tryz.func18 rfl rfl (N:=46) rfl rfl (n:=0) rfl rfl ?_
 cbv
 have eE:sr.length=sl.length:=by rw [US,lgM]
 (refine ay trv (sB ht p a b c d n pr tk (sl:=sl) sr h2) trv rfl rfl (fun r9 dz=>?_);simp only [ht] at dz)
 cbv
 refine ay trv (BE ht _ _ ‹_›) trv rfl rfl (fun r0 bF=>?_)
 simp only [ht] at bF
 cbv
 refine ai (fun h1=>?_) (fun h1=>?_)
 ·simp [ht] at h1
  cbv
  refine ak trv trv rfl rfl rfl ?_
  (simp only [ht,cI];grind)
 simp [ht] at h1
 cbv
 refine ay trv (KQ ht _ _ _) trv rfl rfl (fun r2 cU=>?_)
 simp only [ht] at cU
 cbv
 iterate 3 refine gI (by simp [ht]) ?_
 refine aJ (fun g3=>⟨by simp [ht] at g3 ⊢;exact g3,trv,KQ ht _ _ _⟩) rfl rfl (fun r4 dV=>?_)
 simp only [ht] at dV
 cbv
 refine gI (by simp [ht]) ?_
 refine pI (by simp [ht]) ?_
 iterate 3 refine gI (by simp [ht]) ?_
 refine aJ (fun g5=>⟨by simp [ht] at g5 ⊢;exact g5,trv,KQ ht _ _ _⟩) rfl rfl (fun r6 gk=>?_)
 simp only [ht] at gk
 cbv
 refine gI (by simp [ht]) ?_
 refine pI (by simp [ht]) ?_
 refine ai (fun h7=>?_) (fun h7=>?_)
 ·simp [ht] at h7
  cbv
  refine ak trv trv rfl rfl rfl ?_
  (simp only [ht,cI];grind)
 simp [ht] at h7
 cbv
 refine ay trv (wZ ht ‹_› ‹_› ‹_›) trv rfl rfl (fun r8 sO=>?_)
 simp only [ht] at sO
 cbv
 refine ai (fun h9=>?_) (fun h9=>?_)
 ·simp [ht] at h9
  cbv
  refine ak trv trv rfl rfl rfl ?_
  (simp only [ht,cI];grind)
 simp [ht] at h9
 cbv
 refine ai (fun h10=>?_) (fun h10=>?_)
 ·simp [ht] at h10
  cbv
  refine ak trv trv rfl rfl rfl ?_
  (simp only [ht,cI];grind)
 simp [ht] at h10
 cbv
 refine ak trv trv rfl rfl rfl ?_
 (simp only [ht,cI];grind)
theorem Io (ht:TT t) (p p':aA) (a b c d n pr tk a' b' c' d' n' Zr Oq:Int) {sl qc:List Term} {sr sr':List (List D)} (US:sr=sl.map Term.cells) (aaU:sr'=qc.map Term.cells)
 (hl:sl.length<1000000000) (hl':qc.length<1000000000) (hs:∀x∈sl,x.fw.length<1000000000) (hs':∀x∈qc,x.fw.length<1000000000):
 FC 20 [.agg [ST p,ax a,ax b,ax c,ax d,bc n,bc pr,bc tk,SL sr],.agg [ST p',ax a',ax b',ax c',ax d',bc n',bc Zr,bc Oq,SL sr']] [] (.ret (cu (t _ fun _=>decide ((⟨p,⟨a,b,c,d⟩,n,pr,tk,sl⟩:Ask)=⟨p',⟨a',b',c',d'⟩,n',Zr,Oq,qc⟩)))) []:=by
 refine bA ht (aB:=[]) Tryz.func20 rfl rfl (N:=47) rfl rfl (n:=0) rfl rfl ?_
 cbv
 have eE:sr.length=sl.length:=by rw [US,lgM]
 have Zs:sr'.length=qc.length:=by rw [aaU,lgM]
 iterate 5 refine gI (by simp [ht]) ?_
 refine pI (by simp [ht]) ?_
 iterate 5 refine gI (by simp [ht]) ?_
 refine pI (by simp [ht]) ?_
 iterate 5 refine gI (by simp [ht]) ?_
 refine pI (by simp [ht]) ?_
 iterate 5 refine gI (by simp [ht]) ?_
 refine pI (by simp [ht]) ?_
 iterate 4 refine gI (by simp [ht]) ?_
 refine aJ (fun g0=>⟨by simp [ht] at g0 ⊢;exact g0,trv,Qy ht ‹_› ‹_› ‹_› ‹_› ‹_› ‹_›⟩) rfl rfl (fun r1 eb=>?_)
 simp only [ht] at eb
 cbv
 refine pI (by simp [ht]) ?_
 refine ak trv trv rfl rfl rfl ?_
 (simp [*];grind)
def Jb.aK (t:Th) (j:Jb):List D:=[.int .u64 j.id,.str j.x.path,.int .u64 j.x.fZ.a,.int .u64 j.x.fZ.b,.int .u64 j.x.fZ.c,.int .u64 j.x.fZ.d,.int .i64 j.x.count,.int .i64 j.x.prio,.int .i64 j.x.dO,.sl (t _ fun _=>j.x.bX.map Term.cells),.bool j.runs,.int .i64 j.left]
def EJb (t:Th) (j:Jb):AV:=.agg [ax j.id,ST j.x.path,ax j.x.fZ.a,ax j.x.fZ.b,ax j.x.fZ.c,ax j.x.fZ.d,bc j.x.count,bc j.x.prio,bc j.x.dO,SL (t _ fun _=>j.x.bX.map Term.cells),BL j.runs,bc j.left]
def aaV (t:Th) (r:Jb×Bool):AV:=.dA [EJb t r.1,BL r.2]
theorem QY (ht:TT t) (id:Int) {l:List (Jb)} {es:List (List D)} (aD:es=l.map Jb.cells) (f:Nat) (p:Jb→Bool) (hl:l.length<9223372036854775807)
 (hf:∀x∈l,FC f [.agg [ax x.id,ST x.x.path,ax x.x.fZ.a,ax x.x.fZ.b,ax x.x.fZ.c,ax x.x.fZ.d,bc x.x.count,bc x.x.prio,bc x.x.dO,SL (x.x.bX.map Term.cells),BL x.runs,bc x.left],.ptr 0 0] [.var [ax id]] (.ret (BL (p x))) [.var [ax id]]) {r:Int} (hr:r=idxOf p l):FC 122 [SL es,.fn f [.ptr 0 0]] [.var [ax id]] (.ret (bc r)) [.var [ax id]]:=by
 have hel:es.length=l.length:=by rw [aD,lgM]
 obtain ⟨J,hJ⟩:∃J:Nat→Nat→Prop,∀n v,J n v↔(v+n=l.length∧∀i<v,∀x,l[i]?=some x→p x=false):=⟨fun n v=>v+n=l.length∧∀i<v,∀x,l[i]?=some x→p x=false,fun _ _=>Iff.rfl⟩
 refine bA ht (aB:=[.var [ax id]]) Tryz.func122 rfl rfl (N:=19) rfl rfl (n:=1) rfl rfl ?_
 cbv
 refine bg ⟨[0,1,7,8],[],[]⟩ (σ:=Nat) (fun k=>[(8,bc (t _ fun _=>(k:Int)))]) (fun _=>[]) J ?_
 cbv
 refine aC ⟨l.length,0,(hJ _ _).2 ⟨by omega,by intro i hi;simp at hi⟩,by simp only [ht];rfl,?_⟩
 rintro n k hj
 obtain ⟨h2,h3⟩:=(hJ _ _).1 hj
 clear hj
 cbv
 refine ai (fun h=>?_) (fun h=>?_)
 ·simp only [ht,aa,decide_eq_true_eq] at h
  have hk:k<l.length:=by omega
  obtain ⟨x,hx⟩:∃x,l[k]?=some x:=⟨l[k],by simp⟩
  have nO:x∈l:=List.mem_of_getElem? hx
  have gS:=hf x nO
  obtain ⟨px,hpx⟩:∃b,b=p x:=⟨_,rfl⟩
  rw [←hpx] at gS
  obtain ⟨id',⟨p',⟨a',b',c',d'⟩,n',Zr,Oq,qc⟩,rn',lf'⟩:=x;obtain ⟨IV,pF⟩:∃lr:List (List D),lr=qc.map Term.cells:=⟨_,rfl⟩;simp only [←pF] at gS
  cbv
  refine iq [.int .u64 id',.str p',.int .u64 a',.int .u64 b',.int .u64 c',.int .u64 d',.int .i64 n',.int .i64 Zr,.int .i64 Oq,.sl IV,.bool rn',.int .i64 lf'] ?_ ?_ ?_
  ·simp only [ht,aa];refine ⟨by omega,h,?_⟩;rw [aD];intro r hr;obtain ⟨y,_,rfl⟩:=List.mem_map.1 hr;rfl
  ·simp [ht,aa,aD,hx,pF,Jb.cells]
  cbv
  refine de trv gS ?_
  cbv
  refine ai (fun hb=>?_) (fun hb=>?_)
  ·cbv
   refine ak trv trv rfl rfl rfl ?_
   have e:=cO hx (hpx▸hb) h3
   simp only [ht,aa,hr,idxOf,e]
  cbv
  refine aC ⟨n-1,k+1,⟨by omega,(hJ _ _).2 ⟨by omega,?_⟩⟩,?_⟩
  ·intro i hi y hy
   by_cases hik:i<k
   ·exact h3 i hik y hy
   have:i=k:=by omega
   subst this;rw [hx] at hy;cases hy;rw [←hpx];exact hb
  simp only [ht,aa,aE (show k<9223372036854775807 by omega)];rfl
 simp only [ht,aa,decide_eq_false_iff_not] at h
 have hk:¬k<l.length:=by omega
 clear h
 cbv
 refine ak trv trv rfl rfl rfl ?_
 rw [hr,idxOf,cR]
 intro i y hy
 have:i<l.length:=by
  rcases Nat.lt_or_ge i l.length with h'|h';· exact h'
  simp [List.getElem?_eq_none h'] at hy
 exact h3 i (by omega) y hy
theorem NO (ht:TT t) (id i n k l a b c d:Int) (p:aA) (sr:List (List D)) (rn:Bool) (lf:Int):FC 123 [.agg [ax i,ST p,ax a,ax b,ax c,ax d,bc n,bc k,bc l,SL sr,BL rn,bc lf],.ptr 0 0] [.var [ax id]] (.ret (BL (decide (i=id)))) [.var [ax id]]:=by
 refine bA ht (aB:=[.var [ax id]]) Tryz.func123 rfl rfl (N:=8) rfl rfl (n:=1) rfl rfl ?_
 cbv
 refine ak trv trv rfl rfl rfl ?_
 simp [ht]
theorem sC (ht:TT t) (id rd nx ef af:Int) (ns ps ts qs el al:List (List D)) {l:List Jb} {es:List (List D)} (aD:es=l.map Jb.cells) (hl:l.length<1000000000):
 FC 61 [.agg [ax rd,ax nx,SL ns,SL ps,SL ts,SL es,SL qs,ax ef,SL el,ax af,SL al],ax id] [] (.ret (mR (t _ fun _=>JV l id))) []:=by
 obtain ⟨r,hr⟩:∃r,r=JV l id:=⟨_,rfl⟩
 refine bA ht (aB:=[]) Tryz.func61 rfl rfl (N:=9) rfl rfl (n:=0) rfl rfl ?_
 cbv
 refine cD [1] trv rfl rfl (QY ht id aD 123 (fun x=>decide (x.id=id)) (by omega) (fun x _=>NO ht id _ _ _ _ _ _ _ _ _ _ _ _) (r:=r) hr) (bK ?_)
 cbv
 exact ak trv trv rfl rfl rfl (by simp [ht,hr])
theorem rB (ht:TT t) (id rd nx ef af:Int) (ns ps ts qs el al:List (List D)) {l:List Jb} {es:List (List D)} (aD:es=l.map Jb.cells) (hl:l.length<1000000000):
 FC 19 [.agg [ax rd,ax nx,SL ns,SL ps,SL ts,SL es,SL qs,ax ef,SL el,ax af,SL al],ax id] [] (.ret (aaV t (t _ fun _=>dZ l id))) []:=by
 refine bA ht (aB:=[]) Tryz.func19 rfl rfl (N:=18) rfl rfl (n:=0) rfl rfl ?_
 cbv
 have av:es.length=l.length:=by rw [aD,lgM]
 refine ay trv (sC ht _ _ _ _ _ _ _ _ _ _ _ ‹_› ‹_›) trv rfl rfl (fun r0 bF=>?_)
 simp only [ht] at bF
 have ec:=cS bF
 clear bF
 rcases ec with ⟨e1,e2,e3⟩|⟨i,x,hi,hil,e1,e2,e3,e4⟩
 ·cbv
  refine ai (fun h1=>?_) (fun h1=>?_)
  ·simp [ht] at h1
   cbv
   refine ak trv trv rfl rfl rfl ?_
   (simp [ht,dZ,e3,Jb.zero,Ask.zero,bz.zero];done)
  simp [ht] at h1
  omega
 cbv
 refine ai (fun h2=>?_) (fun h2=>?_)
 ·simp [ht] at h2
  (simp only [aa] at*;omega)
 simp [ht] at h2
 cbv
 refine Cs ht aD (cT:=Jb.aK t) e1 ‹_› (fun _=>rfl) (fun _=>(by (simp only [ht,Jb.aK];rfl))) ?_
 cbv
 refine ak trv trv rfl rfl rfl ?_
 (simp [ht,dZ,e4];done)
theorem NP (ht:TT t) (ts:List (List D)) {l:List (aA)} {es:List (List D)} (aD:es=l.map aV) (f:Nat) (p:aA→Bool) (hl:l.length<9223372036854775807)
 (hf:∀x∈l,FC f [.d (.str x),.ptr 0 0] [.var [SL ts]] (.ret (BL (p x))) [.var [SL ts]]) {r:Int} (hr:r=idxOf p l):FC 163 [SL es,.fn f [.ptr 0 0]] [.var [SL ts]] (.ret (bc r)) [.var [SL ts]]:=by
 have hel:es.length=l.length:=by rw [aD,lgM]
 obtain ⟨J,hJ⟩:∃J:Nat→Nat→Prop,∀n v,J n v↔(v+n=l.length∧∀i<v,∀x,l[i]?=some x→p x=false):=⟨fun n v=>v+n=l.length∧∀i<v,∀x,l[i]?=some x→p x=false,fun _ _=>Iff.rfl⟩
 refine bA ht (aB:=[.var [SL ts]]) Tryz.func163 rfl rfl (N:=19) rfl rfl (n:=1) rfl rfl ?_
 cbv
 refine bg ⟨[0,1,7,8],[],[]⟩ (σ:=Nat) (fun k=>[(8,bc (t _ fun _=>(k:Int)))]) (fun _=>[]) J ?_
 cbv
 refine aC ⟨l.length,0,(hJ _ _).2 ⟨by omega,by intro i hi;simp at hi⟩,by simp only [ht];rfl,?_⟩
 rintro n k hj
 obtain ⟨h2,h3⟩:=(hJ _ _).1 hj
 clear hj
 cbv
 refine ai (fun h=>?_) (fun h=>?_)
 ·simp only [ht,aa,decide_eq_true_eq] at h
  have hk:k<l.length:=by omega
  obtain ⟨x,hx⟩:∃x,l[k]?=some x:=⟨l[k],by simp⟩
  have nO:x∈l:=List.mem_of_getElem? hx
  have gS:=hf x nO
  obtain ⟨px,hpx⟩:∃b,b=p x:=⟨_,rfl⟩
  rw [←hpx] at gS
  skip
  cbv
  refine iq [.str x] ?_ ?_ ?_
  ·simp only [ht,aa];refine ⟨by omega,h,?_⟩;rw [aD];intro r hr;obtain ⟨y,_,rfl⟩:=List.mem_map.1 hr;rfl
  ·simp [ht,aa,aD,hx]
  cbv
  refine de trv gS ?_
  cbv
  refine ai (fun hb=>?_) (fun hb=>?_)
  ·cbv
   refine ak trv trv rfl rfl rfl ?_
   have e:=cO hx (hpx▸hb) h3
   simp only [ht,aa,hr,idxOf,e]
  cbv
  refine aC ⟨n-1,k+1,⟨by omega,(hJ _ _).2 ⟨by omega,?_⟩⟩,?_⟩
  ·intro i hi y hy
   by_cases hik:i<k
   ·exact h3 i hik y hy
   have:i=k:=by omega
   subst this;rw [hx] at hy;cases hy;rw [←hpx];exact hb
  simp only [ht,aa,aE (show k<9223372036854775807 by omega)];rfl
 simp only [ht,aa,decide_eq_false_iff_not] at h
 have hk:¬k<l.length:=by omega
 clear h
 cbv
 refine ak trv trv rfl rfl rfl ?_
 rw [hr,idxOf,cR]
 intro i y hy
 have:i<l.length:=by
  rcases Nat.lt_or_ge i l.length with h'|h';· exact h'
  simp [List.getElem?_eq_none h'] at hy
 exact h3 i (by omega) y hy
theorem NQ (ht:TT t) (ts:List (List D)) {l:List (aA)} {es:List (List D)} (aD:es=l.map aV) (f:Nat) (p:aA→Bool) (hl:l.length<9223372036854775807)
 (hf:∀x∈l,FC f [.d (.str x),.ptr 0 0] [.var [SL ts]] (.ret (BL (p x))) [.var [SL ts]]) {r:Bool} (hr:r=l.any p):FC 110 [SL es,.fn f [.ptr 0 0]] [.var [SL ts]] (.ret (BL r)) [.var [SL ts]]:=by
 obtain ⟨k,hk⟩:∃k,k=idxOf p l:=⟨_,rfl⟩
 refine bA ht (aB:=[.var [SL ts]]) Tryz.func110 rfl rfl (N:=9) rfl rfl (n:=1) rfl rfl ?_
 cbv
 refine de trv (NP ht ts aD f p hl hf hk) ?_
 cbv
 refine ak trv trv rfl rfl rfl ?_
 simp only [ht,hr,eP,hk]
theorem QZ (ht:TT t) (q:aA) {l:List aQ} {es:List (List D)} (aD:es=l.map aQ.cells) (hl:l.length<1000000000) {r:Bool} (hr:r=!(om l q).2):
 FC 112 [ST q,.ptr 0 0] [.var [SL es]] (.ret (BL r)) [.var [SL es]]:=by
 refine bA ht (aB:=[.var [SL es]]) Tryz.func112 rfl rfl (N:=14) rfl rfl (n:=1) rfl rfl ?_
 cbv
 have av:es.length=l.length:=by rw [aD,lgM]
 refine ay trv (Ii ht _ ‹_› ‹_›) trv rfl rfl (fun r0 bF=>?_)
 simp only [ht] at bF
 cbv
 refine ak trv trv rfl rfl rfl ?_
 (simp [*];done)
theorem xe (ht:TT t) (p:aA) {l:List aQ} {es:List (List D)} (aD:es=l.map aQ.cells) (hl:l.length<1000000000) (hp:p.length<1000000000000):
 FC 48 [SL es,ST p] [] (.ret (cu (t _ fun _=>gz l p))) []:=by
 have h1:=jR p
 have h2:=gX p
 obtain ⟨ws,hws⟩:∃ws,ws=mL p++[[]]:=⟨_,rfl⟩
 obtain ⟨r9,dz⟩:∃r,r=ws.any (fun q=>!(om l q).2):=⟨_,rfl⟩
 refine bA ht (aB:=[]) Tryz.func48 rfl rfl (N:=12) rfl rfl (n:=0) rfl rfl ?_
 cbv
 have av:es.length=l.length:=by rw [aD,lgM]
 refine pQ trv (Mg ht p ‹_›) trv rfl (.inr rfl) ?_
 cbv
 refine ⟨?_,?_⟩
 ·(simp only [ht];grind)
 cbv
 (refine XN (v:=BL r9) trv rfl (by simp [ht]) (by exact fE [0] rfl rfl rfl rfl (NQ ht es (l:=ws) (by simp only [ht,hws];simp) 112 (fun q=>!(om l q).2) (by rw [hws];simp;omega) (fun x _=>QZ ht x aD hl rfl) dz)) ?_)
 cbv
 refine ak trv trv rfl rfl rfl ?_
 (simp only [ht,gz,←hws,←dz];done)
theorem NR (q:aA):(above q).length≤4:=by
 have h1:=gX q
 have h2:=jR q
 simp only [above,List.length_cons];omega
theorem We {l:List aQ} {qs:List aA} {k:Nat} {x:aA} (h:qs.any (fun q=>decide (bM l q<0))=false) (hx:qs[k]?=some x):∃(i:Nat) (y:aQ),bM l x=i∧l[i]?=some y∧i<l.length:=by
 have h1:¬bM l x<0:=by
  intro h2
  have:qs.any (fun q=>decide (bM l q<0))=true:=List.any_eq_true.2 ⟨x,List.mem_of_getElem? hx,by simpa using h2⟩
  rw [h] at this;cases this
 rcases rA (q:=x) (r:=bM l x) rfl with ⟨e1,_,_⟩|⟨i,y,e1,_,e2,e3,_⟩
 ·omega
 exact ⟨i,y,e1,e3,e2⟩
theorem Mm (ht:TT t) (f:Nat) (g:aQ→aQ×Int) (v1 v2 v3 v4:Int) (q:aA) {l:List aQ} {es:List (List D)} (aD:es=l.map aQ.cells) (hl:l.length<100000) (hq:q.length<1000000000000)
 (hf:∀(p:aA) (a b c d e z g0 h:Int),FC f [V4 v1 v2 v3 v4,.agg [ST p,ax a,ax b,ax c,ax d,ax e,ax z,ax g0,ax h]] [] (.ret (QM (t _ fun _=>g ⟨p,⟨a,b,c,d⟩,⟨e,z,g0,h⟩⟩))) []):
 FC 142 [SL es,ST q,.fn f [.dA [V4 v1 v2 v3 v4]]] [] (.ret (E8 t (t _ fun _=>pS g l q))) []:=by
 have hal:=NR q
 obtain ⟨nq,FE⟩:∃p,p=named q:=⟨_,rfl⟩
 obtain ⟨aq,YE⟩:∃p,p=above q:=⟨_,rfl⟩
 rw [←YE] at hal
 refine bA ht (aB:=[]) Tryz.func142 rfl rfl (N:=55) rfl rfl (n:=0) rfl rfl ?_
 cbv
 have av:es.length=l.length:=by rw [aD,lgM]
 refine ay trv (vS ht _ ‹_›) trv rfl rfl (fun r0 bF=>?_)
 simp only [ht] at bF
 rw [←FE] at bF
 subst r0
 cbv
 refine ai (fun h1=>?_) (fun h1=>?_)
 ·simp [ht] at h1
  cbv
  refine ak trv trv rfl rfl rfl ?_
  (simp only [ht,pS,←FE,←YE];simp_all;done)
 simp [ht] at h1
 cbv
 refine aU trv (Ih ht _ ‹_›) trv rfl rfl rfl (fun r2 cU=>?_)
 simp only [ht] at cU
 rw [←YE] at cU
 subst r2
 cbv
 (obtain ⟨r9,dz⟩:∃r,r=aq.any (fun q=>decide (bM l q<0)):=⟨_,rfl⟩;refine cD [0] trv rfl rfl (NJ ht aD (qs:=aq) (by simp only [ht]) (by omega) (by omega) dz) (bK ?_))
 cbv
 refine ai (fun h3=>?_) (fun h3=>?_)
 ·cbv
  refine ak trv trv rfl rfl rfl ?_
  (simp only [ht,pS,←FE,←YE];simp_all;done)
 cbv
 refine pQ trv (Fb ht ‹_› (by omega)) trv rfl (.inr rfl) ?_
 cbv
 obtain ⟨J4,FB⟩:∃J4:Nat→Int×List (List D)→Prop,∀n i u,J4 n (i,u)↔(∃(k:Nat) (o:List aQ),i=k∧k+n=aq.length∧u=o.map aQ.cells∧o.length=l.length∧pS g l q=jS g l (aq.drop k) o):=⟨fun n v=>match v with|(i,u)=>(∃(k:Nat) (o:List aQ),i=k∧k+n=aq.length∧u=o.map aQ.cells∧o.length=l.length∧pS g l q=jS g l (aq.drop k) o),fun _ _ _=>Iff.rfl⟩
 refine bg ⟨[2,3,9,27,28,29],[],[]⟩ (σ:=Int×List (List D)) (fun v=>[(29,.d (.int .i64 (t _ fun _=>v.1)))]) (fun v=>[(1,.row 9 (t _ fun _=>v.2))]) J4 ?_
 cbv
 refine aC ⟨aq.length,(_,_),(FB _ _ _).2 ?_,by simp only [ht];rfl,?_⟩
 ·exact ⟨0,l,rfl,by simp,rfl,rfl,by rw [pS,←FE,←YE,←dz];simp_all⟩
 rintro n ⟨i,u⟩ hj
 replace hj:=(FB _ _ _).1 hj
 obtain ⟨k,o,rfl,j1,j2,j3,j4⟩:=hj
 have Mb:u.length=o.length:=by rw [j2,lgM]
 cbv
 refine ai (fun h5=>?_) (fun h5=>?_)
 ·simp [ht,aa] at h5
  cbv
  (refine dS ht (l:=aq) (cells:=aV) (cT:=eR t) (by simp only [ht];done) (by simp only [ht,aa];omega) (by simp only [ht,aa];omega) (fun _=>rfl) (fun _=>rfl) (fun xn Q0=>?_);simp only [ht] at Q0;replace Q0:aq[k]?=some xn:=Q0;rw [bV Q0,jS] at j4;obtain ⟨zz,y,e1,e2,e3⟩:=We (dz.symm.trans ‹_›) Q0;rw [e1] at j4;simp only [Int.toNat_natCast,List.getD_eq_getElem?_getD,e2,Option.getD_some] at j4)
  cbv
  refine ay trv (jZ ht _ ‹_› (by omega)) trv rfl rfl (fun r6 gk=>?_)
  simp only [ht] at gk
  rw [e1] at gk
  cbv
  refine Cs ht aD (cT:=aQ.aK t) e2 ‹_› (fun _=>rfl) (fun _=>rfl) ?_
  cbv
  (refine ay trv (hf _ _ _ _ _ _ _ _ _) trv rfl rfl (fun rg Zt=>?_);simp only [ht] at Zt;obtain ⟨⟨gp,⟨ga,gb,gc,gd⟩,⟨ge,gf,gg,gh⟩⟩,ge0⟩:=rg;replace Zt:_=g y:=Zt;rw [←Zt] at j4;simp only at j4)
  cbv
  refine ai (fun h8=>?_) (fun h8=>?_)
  ·simp [ht] at h8
   cbv
   refine ak trv trv rfl rfl rfl ?_
   (simp [*];done)
  simp [ht] at h8
  cbv
  refine ⟨?_,?_⟩
  ·(simp only [ht];simp_all;done)
  refine ⟨?_,?_⟩
  ·(simp only [ht];simp_all;done)
  cbv
  refine bu (_,_) (by simp only [ht];rfl) (n-1) ?_ ((FB _ _ _).2 ?_)
  ·omega
  simp only [aa]
  (refine ⟨k+1,o.set zz ⟨gp,⟨ga,gb,gc,gd⟩,⟨ge,gf,gg,gh⟩⟩,aE (by omega),by omega,?_,by simp [j3],?_⟩<;>simp_all [bG,List.map_set])
 simp [ht,aa] at h5
 cbv
 (refine ak trv (by simp only [ht];simp [Mb,j3]) rfl rfl rfl ?_;rw [List.drop_eq_nil_of_le (by omega),jS] at j4;simp only [ht,j4,j2];done)
theorem KR (ht:TT t) (q:aA) (v1 v2 v3 v4:Int) {l:List aQ} {es:List (List D)} (aD:es=l.map aQ.cells) (hl:l.length<100000) (hq:q.length<1000000000000):
 FC 82 [SL es,ST q,V4 v1 v2 v3 v4] [] (.ret (E8 t (t _ fun _=>ic l q ⟨v1,v2,v3,v4⟩))) []:=by
 have hc:=Mm ht 143 (fW ⟨v1,v2,v3,v4⟩) v1 v2 v3 v4 q aD hl hq (fun p a b c d e z g0 h=>KM ht v1 v2 v3 v4 p a b c d e z g0 h)
 refine bA ht (aB:=[]) Tryz.func82 rfl rfl (N:=16) rfl rfl (n:=0) rfl rfl ?_
 cbv
 have av:es.length=l.length:=by rw [aD,lgM]
 (refine aU trv hc trv rfl rfl rfl (fun r9 dz=>?_);simp only [ht] at dz)
 cbv
 refine ak trv trv rfl rfl rfl ?_
 (simp [ic, *];done)
theorem KT (ht:TT t) (q:aA) (v1 v2 v3 v4:Int) {l:List aQ} {es:List (List D)} (aD:es=l.map aQ.cells) (hl:l.length<100000) (hq:q.length<1000000000000):
 FC 126 [SL es,ST q,V4 v1 v2 v3 v4] [] (.ret (E8 t (t _ fun _=>sn l q ⟨v1,v2,v3,v4⟩))) []:=by
 have hc:=Mm ht 173 (ej ⟨v1,v2,v3,v4⟩) v1 v2 v3 v4 q aD hl hq (fun p a b c d e z g0 h=>KN ht v1 v2 v3 v4 p a b c d e z g0 h)
 refine bA ht (aB:=[]) Tryz.func126 rfl rfl (N:=16) rfl rfl (n:=0) rfl rfl ?_
 cbv
 have av:es.length=l.length:=by rw [aD,lgM]
 (refine aU trv hc trv rfl rfl rfl (fun r9 dz=>?_);simp only [ht] at dz)
 cbv
 refine ak trv trv rfl rfl rfl ?_
 (simp [sn, *];done)
def bZ.aK (_:Th) (q:bZ):List D:=[.int .u64 q.id,.int .i64 q.prio]
theorem KU {x y:bZ}:x=y↔x.id=y.id∧x.prio=y.prio:=by cases x;cases y;simp
def YF (t:Th) (r:List bZ×Int):AV:=.dA [SL (t _ fun _=>r.1.map bZ.cells),bc r.2]
def YH (t:Th) (r:List bZ×Bool):AV:=.dA [SL (t _ fun _=>r.1.map bZ.cells),BL r.2]
theorem Q3 (ht:TT t) (id:Int) {l:List (bZ)} {es:List (List D)} (aD:es=l.map bZ.cells) (f:Nat) (p:bZ→Bool) (hl:l.length<9223372036854775807)
 (hf:∀x∈l,FC f [.agg [ax x.id,bc x.prio],.ptr 0 0] [.var [ax id]] (.ret (BL (p x))) [.var [ax id]]) {r:Int} (hr:r=idxOf p l):FC 63 [SL es,.fn f [.ptr 0 0]] [.var [ax id]] (.ret (bc r)) [.var [ax id]]:=by
 have hel:es.length=l.length:=by rw [aD,lgM]
 obtain ⟨J,hJ⟩:∃J:Nat→Nat→Prop,∀n v,J n v↔(v+n=l.length∧∀i<v,∀x,l[i]?=some x→p x=false):=⟨fun n v=>v+n=l.length∧∀i<v,∀x,l[i]?=some x→p x=false,fun _ _=>Iff.rfl⟩
 refine bA ht (aB:=[.var [ax id]]) Tryz.func63 rfl rfl (N:=19) rfl rfl (n:=1) rfl rfl ?_
 cbv
 refine bg ⟨[0,1,7,8],[],[]⟩ (σ:=Nat) (fun k=>[(8,bc (t _ fun _=>(k:Int)))]) (fun _=>[]) J ?_
 cbv
 refine aC ⟨l.length,0,(hJ _ _).2 ⟨by omega,by intro i hi;simp at hi⟩,by simp only [ht];rfl,?_⟩
 rintro n k hj
 obtain ⟨h2,h3⟩:=(hJ _ _).1 hj
 clear hj
 cbv
 refine ai (fun h=>?_) (fun h=>?_)
 ·simp only [ht,aa,decide_eq_true_eq] at h
  have hk:k<l.length:=by omega
  obtain ⟨x,hx⟩:∃x,l[k]?=some x:=⟨l[k],by simp⟩
  have nO:x∈l:=List.mem_of_getElem? hx
  have gS:=hf x nO
  obtain ⟨px,hpx⟩:∃b,b=p x:=⟨_,rfl⟩
  rw [←hpx] at gS
  obtain ⟨a,b⟩:=x
  cbv
  refine iq [.int .u64 a,.int .i64 b] ?_ ?_ ?_
  ·simp only [ht,aa];refine ⟨by omega,h,?_⟩;rw [aD];intro r hr;obtain ⟨y,_,rfl⟩:=List.mem_map.1 hr;rfl
  ·simp [ht,aa,aD,hx,bZ.cells]
  cbv
  refine de trv gS ?_
  cbv
  refine ai (fun hb=>?_) (fun hb=>?_)
  ·cbv
   refine ak trv trv rfl rfl rfl ?_
   have e:=cO hx (hpx▸hb) h3
   simp only [ht,aa,hr,idxOf,e]
  cbv
  refine aC ⟨n-1,k+1,⟨by omega,(hJ _ _).2 ⟨by omega,?_⟩⟩,?_⟩
  ·intro i hi y hy
   by_cases hik:i<k
   ·exact h3 i hik y hy
   have:i=k:=by omega
   subst this;rw [hx] at hy;cases hy;rw [←hpx];exact hb
  simp only [ht,aa,aE (show k<9223372036854775807 by omega)];rfl
 simp only [ht,aa,decide_eq_false_iff_not] at h
 have hk:¬k<l.length:=by omega
 clear h
 cbv
 refine ak trv trv rfl rfl rfl ?_
 rw [hr,idxOf,cR]
 intro i y hy
 have:i<l.length:=by
  rcases Nat.lt_or_ge i l.length with h'|h';· exact h'
  simp [List.getElem?_eq_none h'] at hy
 exact h3 i (by omega) y hy
theorem NS (ht:TT t) (id:Int) (x:bZ):FC 64 [.agg [ax x.id,bc x.prio],.ptr 0 0] [.var [ax id]] (.ret (BL (decide (x.id=id)))) [.var [ax id]]:=by
 obtain ⟨a,b⟩:=x
 refine bA ht (aB:=[.var [ax id]]) Tryz.func64 rfl rfl (N:=8) rfl rfl (n:=1) rfl rfl ?_
 cbv
 refine ak trv trv rfl rfl rfl ?_
 simp [ht]
theorem sD (ht:TT t) (id:Int) {l:List bZ} {es:List (List D)} (aD:es=l.map bZ.cells) (hl:l.length<1000000000):
 FC 21 [SL es,ax id] [] (.ret (mR (t _ fun _=>fQ l id))) []:=by
 obtain ⟨r,hr⟩:∃r,r=fQ l id:=⟨_,rfl⟩
 refine bA ht (aB:=[]) Tryz.func21 rfl rfl (N:=8) rfl rfl (n:=0) rfl rfl ?_
 cbv
 refine de trv (Q3 ht id aD 64 (fun x=>decide (x.id=id)) (by omega) (fun x _=>NS ht id x) (r:=r) hr) ?_
 cbv
 exact ak trv trv rfl rfl rfl (by simp [ht,hr])
theorem DJ (ht:TT t) (a b:Int):FC 107 [.agg [ax a,bc b]] [] (.ret (cu (t _ fun _=>gw ⟨a,b⟩))) []:=by
 refine bA ht (aB:=[]) Tryz.func107 rfl rfl (N:=11) rfl rfl (n:=0) rfl rfl ?_
 cbv
 iterate 3 refine gI (by simp [ht]) ?_
 refine pI (by simp [ht]) ?_
 refine ak trv trv rfl rfl rfl ?_
 (simp [ht,gw];done)
theorem DK (ht:TT t) (a b c d:Int):FC 108 [.agg [ax a,bc b],.agg [ax c,bc d]] [] (.ret (cu (t _ fun _=>cV ⟨a,b⟩ ⟨c,d⟩))) []:=by
 refine bA ht (aB:=[]) Tryz.func108 rfl rfl (N:=24) rfl rfl (n:=0) rfl rfl ?_
 cbv
 iterate 11 refine gI (by simp [ht]) ?_
 refine gI (by simp [ht,bq];intros;simp_all) ?_
 refine pI (by simp [ht]) ?_
 refine ak trv trv rfl rfl rfl ?_
 (simp [ht,cV];done)
theorem Wf {l:List bZ} {e x:bZ} {k:Nat} (hx:l[k]?=some x) (h:cV e x=true) (h3:∀i<k,∀y,l[i]?=some y→cV e y=false):tZ l e=k:=by
 simp only [tZ];rw [cO hx h h3]
theorem Wg {l:List bZ} {e:bZ} {k:Nat} (hk:l.length≤k) (h3:∀i<k,∀y,l[i]?=some y→cV e y=false):tZ l e=l.length:=by
 simp only [tZ]
 rw [cR]
 intro i y hy
 have:i<l.length:=(List.getElem?_eq_some_iff.1 hy).1
 exact h3 i (by omega) y hy
theorem Q4 {l:List bZ} {e x:bZ} {k:Nat} (h3:∀i<k,∀y,l[i]?=some y→cV e y=false) (hx:l[k]?=some x) (h:cV e x=false):∀i<k+1,∀y,l[i]?=some y→cV e y=false:=by
 intro i hi y hy
 rcases Nat.lt_or_ge i k with h1|h1
 ·exact h3 i h1 y hy
 have:i=k:=by omega
 subst this;rw [hx] at hy;cases hy;exact h
theorem Wh (ht:TT t) (a b:Int) {l:List bZ} {es:List (List D)} (aD:es=l.map bZ.cells) (hl:l.length<1000000000):
 FC 115 [.agg [.fn 108 []],SL es,.agg [ax a,bc b]] [] (.ret (mR (t _ fun _=>(tZ l ⟨a,b⟩:Int)))) []:=by
 refine bA ht (aB:=[]) Tryz.func115 rfl rfl (N:=25) rfl rfl (n:=0) rfl rfl ?_
 cbv
 have av:es.length=l.length:=by rw [aD,lgM]
 obtain ⟨J0,ee⟩:∃J0:Nat→Int→Prop,∀n i,J0 n i↔(∃k:Nat,i=k∧k+n=l.length∧∀i<k,∀y,l[i]?=some y→cV ⟨a,b⟩ y=false):=⟨fun n v=>match v with|i=>(∃k:Nat,i=k∧k+n=l.length∧∀i<k,∀y,l[i]?=some y→cV ⟨a,b⟩ y=false),fun _ _=>Iff.rfl⟩
 refine bg ⟨[1,3,5,9,10,11],[],[]⟩ (σ:=Int) (fun v=>[(11,.d (.int .i64 (t _ fun _=>v)))]) (fun v=>[]) J0 ?_
 cbv
 refine aC ⟨l.length,_,(ee _ _).2 ?_,by simp only [ht];rfl,?_⟩
 ·exact ⟨0,rfl,by simp,fun i hi=>by omega⟩
 rintro n i hj
 replace hj:=(ee _ _).1 hj
 obtain ⟨k,rfl,j1,j4⟩:=hj
 cbv
 refine ai (fun h1=>?_) (fun h1=>?_)
 ·simp [ht,aa,av] at h1
  cbv
  refine dS ht aD (cT:=bZ.aK t) (by (simp only [ht,aa];omega)) (by (simp only [ht,aa];omega)) (fun _=>rfl) (fun _=>rfl) (fun x2 iC=>?_)
  simp [ht,aa] at iC
  cbv
  refine ay trv (DK ht _ _ _ _) trv rfl rfl (fun r3 gQ=>?_)
  simp only [ht] at gQ
  cbv
  refine ai (fun h4=>?_) (fun h4=>?_)
  ·cbv
   refine ak trv trv rfl rfl rfl ?_
   (simp only [ht];rw [Wf iC (by rw [h4] at gQ;exact gQ.symm) j4])
  cbv
  refine bu _ (by simp only [ht];rfl) (n-1) ?_ ((ee _ _).2 ?_)
  ·omega
  simp only [aa]
  exact ⟨k+1,aE (by omega),by omega,Q4 j4 ‹_› (by simp_all)⟩
 simp [ht,aa,av] at h1
 cbv
 refine ak trv trv rfl rfl rfl ?_
 (simp only [ht];rw [Wg (by omega) j4];simp [aD];done)
theorem KV (ht:TT t) {es:List (List D)} (aD:∀r∈es,r.length=2) (hs:es.length*16≤140737488355328) {m:Nat} (hm:m=es.length):
 FC 114 [SL es] [] (.ret (.ow 0 2 m)) [.row 2 es]:=by
 refine bA ht (aB:=[]) Tryz.func114 rfl rfl (N:=8) rfl rfl (n:=0) rfl rfl ?_
 cbv
 refine ⟨fun b hb=>?_⟩
 simp only [ht] at hb
 cbv
 refine ai (fun h=>?_) (fun h=>?_)
 ·have he:=hb h
  subst he
  cbv
  exact JE trv rfl rfl (by rw [hm];rfl) rfl
 clear hb h
 cbv
 refine ⟨?_,?_⟩
 ·simp only [ht];simp;exact ⟨hs,aD⟩
 refine EB trv rfl rfl rfl rfl ?_ ?_
 ·simp only [ht];rw [hm];simp
 simp only [ht];rfl
theorem Fi (ht:TT t) {es:List (List D)} {x:D} {row:List D} {i n c:Nat} (hn:n=es.length) (hi:i≤n) (hc:n≤c) (hc0:n=0→c=0) (aD:∀r∈es,r.length=2) (hrow:(x::row).length=2) (hs:n<1000000) {r:List (List D)} (hr:r=es.take i++(x::row)::es.drop i):
 FC 113 [.vw 0 2 0 n c true,bc (i:Int),SL [x::row]] [.row 2 es] (.ret (SL r)) [.dead]:=by
 obtain ⟨n1,Jh⟩:∃n1,n1=n+1:=⟨_,rfl⟩
 obtain ⟨i1,hi1⟩:∃i1,i1=i+1:=⟨_,rfl⟩
 obtain ⟨ni,hni⟩:∃ni,ni=n-i:=⟨_,rfl⟩
 obtain ⟨ci,uo⟩:∃ci,ci=c-i:=⟨_,rfl⟩
 obtain ⟨ze,Qo⟩:∃ze,ze=c-i1:=⟨_,rfl⟩
 obtain ⟨pE,uq⟩:∃pE,pE=n1-i:=⟨_,rfl⟩
 have hW:∀P:Prop,((IntKind.i64.wrap ((n:Int)+1)=(n1:Int))→(IntKind.i64.wrap ((n1:Int)-(i:Int))=(pE:Int))→(IntKind.i64.wrap ((i:Int)+1)=(i1:Int))→P)→P:=
  fun P h=>h (by rw [wrap64 (by omega) (by omega)];omega) (by rw [wrap64 (by omega) (by omega)];omega) (by rw [wrap64 (by omega) (by omega)];omega)
 have hrl:r.length=n1:=by rw [hr,List.length_append,List.length_cons,List.length_take,List.length_drop];omega
 have VT:n≠0→FC 166 [SL [x::row],.vw 0 2 i1 ni ze true] [.row 2 es] (.ret (BL false)) [.row 2 es]:=fun h0=>
  ia JF Tryz.func166 rfl rfl rfl rfl (tS:=40) (tR:=4) rfl rfl (by intro h;rw [h] at hn;exact h0 hn)
 refine bA ht (aB:=[.row 2 es]) Tryz.func113 rfl rfl (N:=95) rfl rfl (n:=1) rfl rfl ?_
 cbv
 refine bP (.vw 0 2 i ni ci true) [.row 2 es] ?_ ?_ rfl ?_
 ·simp [ht,dX,bQ];omega
 ·simp [ht,aT,aS,hni,uo]
 cbv
 refine pP (by simp [ht]) ?_
 cbv
 refine ai (fun h=>?_) (fun h=>?_)
 ·have hin:i=n:=by simp [ht,aa] at h;omega
  clear h
  cbv
  refine bP (.ow 1 2 n1) [.dead,.row 2 r] ?_ ?_ ?_ ?_
  ·simp only [ht]
   refine ⟨⟨hn,by simp;omega,?_⟩,rfl,hn,fun h=>⟨hc0 (by rw [hn,h];rfl),rfl⟩⟩
   intro r hr
   rcases List.mem_append.1 hr with hr|hr
   ·exact aD r hr
   simp at hr;subst hr;exact hrow
  ·simp [ht,Jh,hn]
  ·simp only [ht];rw [hr]
   have:i=es.length:=by omega
   subst this;simp
  cbv
  refine ak trv ?_ rfl rfl rfl rfl
  simp only [ht];exact hrl.symm
 have hin:i<n:=by simp [ht,aa] at h;omega
 clear h
 have wY:r=(r.drop 0).take n1:=by rw [List.drop_zero,List.take_of_length_le (by omega)]
 cbv
 refine ai (fun h2=>?_) (fun h2=>?_)
 ·have VU:c=n:=by
   refine hW _ fun e1 e2 e3=>?_
   simp [ht,aa,e1] at h2;omega
  clear h2
  obtain ⟨L,hL⟩:∃L:List (List D),L=es.take i++List.replicate (es.length+1-i) [D.int IntKind.u64 0,D.int IntKind.i64 0]:=⟨_,rfl⟩
  have IU:L.length=n1:=by rw [hL];simp;omega
  obtain ⟨L1,ur⟩:∃L1,L1=wrote L i [x::row]:=⟨_,rfl⟩
  have mQ:L1.length=n1:=by rw [ur];simp [wrote,IU];omega
  have pY:r=wrote L1 i1 (es.drop i):=by rw [hi1,ur,hL,vN (by omega),hr]
  cbv
  refine bP (.vw 0 2 0 i c true) [.row 2 es] ?_ ?_ rfl ?_
  ·simp [ht,dX,bQ];omega
  ·simp [ht,aT,aS]
  cbv
  refine bP (.vw 1 2 0 n1 n1 false) [.row 2 es,.row 2 L] ?_ ?_ ?_ ?_
  ·refine hW _ fun e1 e2 e3=>?_
   simp [ht,aa,e1,e2];omega
  ·refine hW _ fun e1 e2 e3=>?_
   simp [ht,aa,e1,e2];omega
  ·refine hW _ fun e1 e2 e3=>?_
   simp [ht,aa,e1,e2,hL];omega
  cbv
  refine bP (.vw 1 2 i pE pE false) [.row 2 es,.row 2 L] ?_ ?_ rfl ?_
  ·simp [ht,dX,bQ];omega
  ·simp [ht,aT,aS,uq]
  cbv
  refine bP (bc 1) [.row 2 es,.row 2 L1] ?_ ?_ ?_ ?_
  ·simp only [ht,fe]
   refine ⟨⟨by omega,?_⟩,?_⟩
   ·intro h;rw [h] at IU;simp at IU;omega
   intro r hr;have:=List.mem_of_mem_take hr;simp at this;rw [this];exact hrow
  ·simp [ht,aa];omega
  ·simp [ht,ur,show min 1 pE=1 by omega]
  cbv
  refine bS [false,false,false,false,false,false,false,false,true] (by kernel_rfl) (by kernel_rfl) ?_
  cbv
  repeat (refine gI (by (simp;done)) ?_)
  refine iR (.vw 1 2 i1 ni ni false) (fun _=>⟨?_,?_⟩) ?_
  ·refine hW _ fun e1 e2 e3=>?_
   simp [ht,aa,e3,dX,bQ];omega
  ·refine hW _ fun e1 e2 e3=>?_
   simp [ht,aa,e3,aT,aS];omega
  cbv
  repeat (refine gI (by (simp;done)) ?_)
  refine iR (.vw 0 2 i ni ci true) (fun _=>⟨?_,?_⟩) ?_
  ·simp [ht,dX,bQ];omega
  ·simp [ht,aT,aS,hni,uo]
  cbv
  refine bP (bc (ni:Nat)) [.row 2 es,.row 2 r,.bt] ?_ ?_ ?_ ?_
  ·simp only [ht,fe]
   refine ⟨by omega,⟨by omega,?_⟩,?_⟩
   ·intro h;rw [h] at mQ;simp at mQ;omega
   intro r hr;exact aD r (List.mem_of_mem_drop (List.mem_of_mem_take hr))
  ·simp [ht,aa]
  ·simp only [ht,pY]
   rw [List.take_of_length_le (by simp;omega)]
  cbv
  refine AQ [true] trv ?_ rfl rfl rfl ?_
  ·simp only [ht];omega
  simp only [ht];rw [←wY]
 have VU:n<c:=by
  refine hW _ fun e1 e2 e3=>?_
  simp [ht,aa,e1] at h2;omega
 clear h2
 obtain ⟨L1,ur⟩:∃L1,L1=wrote es i1 (es.drop i):=⟨_,rfl⟩
 have pY:r=wrote L1 i [x::row]:=by rw [ur,hi1,EU (by omega),hr]
 have mQ:L1.length=n1:=by rw [ur];simp [wrote];omega
 cbv
 refine bP (.vw 0 2 0 n1 c true) [.row 2 es] ?_ ?_ rfl ?_
 ·refine hW _ fun e1 e2 e3=>?_
  simp [ht,aa,e1,dX,bQ];omega
 ·refine hW _ fun e1 e2 e3=>?_
  simp [ht,aa,e1,aT,aS]
 cbv
 refine bP (.vw 0 2 i1 ni ze true) [.row 2 es] ?_ ?_ rfl ?_
 ·refine hW _ fun e1 e2 e3=>?_
  simp [ht,aa,e3,dX,bQ];omega
 ·refine hW _ fun e1 e2 e3=>?_
  simp [ht,aa,e3,aT,aS];omega
 cbv
 refine de trv (VT (by omega)) ?_
 cbv
 refine mJ (by simp [ht]) ?_
 cbv
 refine bS [false,false,false,false,false,false,false,false,true] (by kernel_rfl) (by kernel_rfl) ?_
 cbv
 repeat (refine gI (by (simp;done)) ?_)
 refine iR (.vw 0 2 i1 ni ze true) (fun _=>⟨?_,?_⟩) ?_
 ·refine hW _ fun e1 e2 e3=>?_
  simp [ht,aa,e3,dX,bQ];omega
 ·refine hW _ fun e1 e2 e3=>?_
  simp [ht,aa,e3,aT,aS];omega
 cbv
 repeat (refine gI (by (simp;done)) ?_)
 refine iR (.vw 0 2 i pE ci true) (fun _=>⟨?_,?_⟩) ?_
 ·simp [ht,dX,bQ];omega
 ·simp [ht,aT,aS,uq,uo]
 cbv
 refine bP (bc (ni:Nat)) [.row 2 L1,.bt] ?_ ?_ ?_ ?_
 ·simp only [ht,fe]
  refine ⟨by omega,⟨by omega,?_⟩,?_⟩
  ·intro h;rw [h] at hn;simp at hn;omega
  intro r hr;exact aD r (List.mem_of_mem_drop (List.mem_of_mem_take hr))
 ·simp [ht,aa];omega
 ·simp only [ht,ur]
  rw [List.take_of_length_le (by simp;omega)]
 cbv
 refine bP (.vw 0 2 i pE ci true) [.row 2 L1,.bt] ?_ ?_ rfl ?_
 ·simp [ht,dX,bQ];omega
 ·simp [ht,aT,aS,uq,uo]
 cbv
 refine bP (bc 1) [.row 2 r,.bt] ?_ ?_ ?_ ?_
 ·simp only [ht,fe]
  refine ⟨⟨by omega,?_⟩,?_⟩
  ·intro h;rw [h] at mQ;simp at mQ;omega
  intro r hr;have:=List.mem_of_mem_take hr;simp at this;rw [this];exact hrow
 ·simp [ht,aa];omega
 ·simp [ht,pY,show min 1 pE=1 by omega]
 cbv
 refine AQ [true] trv ?_ rfl rfl rfl ?_
 ·simp only [ht];omega
 simp only [ht];rw [←wY]
theorem Ip (ht:TT t) {es:List (List D)} {x:D} {row:List D} {i n:Nat} (hn:n=es.length) (hi:i≤n) (aD:∀r∈es,r.length=2) (hrow:(x::row).length=2) (hs:n<1000000) {r:List (List D)} (hr:r=es.take i++(x::row)::es.drop i):
 FC 113 [.ow 0 2 n,bc (i:Int),SL [x::row]] [.row 2 es] (.ret (SL r)) [.dead]:=
 fF fun c hc hc0=>Fi ht hn hi hc hc0 aD hrow hs hr
theorem Iq (ht:TT t) {l:List bZ} {es:List (List D)} (aD:es=l.map bZ.cells) (hs:l.length<1000000000):
 FC 114 [SL es] [] (.ret (.ow 0 2 (t _ fun _=>(l.map bZ.cells).length))) [.row 2 (t _ fun _=>l.map bZ.cells)]:=by
 simp only [ht];subst aD
 refine KV ht ?_ ?_ (by simp)
 ·intro r hr;obtain ⟨y,_,rfl⟩:=List.mem_map.1 hr;rfl
 simp;omega
theorem Fj (ht:TT t) {l:List bZ} {x:bZ} {k:Nat} {i:Int} (hi:i=k) (hk:k≤l.length) (hl:l.length<1000000):
 FC 113 [.ow 0 2 (t _ fun _=>(l.map bZ.cells).length),bc i,.cl [bZ.cells x]] [.row 2 (t _ fun _=>l.map bZ.cells)] (.ret (SL (t _ fun _=>(l.take k++x::l.drop k).map bZ.cells))) [.dead]:=by
 simp only [ht];subst hi
 refine oZ (args':=[.ow 0 2 (l.map bZ.cells).length,bc k,SL [bZ.cells x]]) ?_ (Ip ht (by simp) (by simpa using hk) ?_ rfl (by simpa using hl) (by simp [bZ.cells]))
 ·intro β w ok vs h
  simp only [aj] at h ⊢
  obtain ⟨u1,Zg,rfl,h1,u2,OR,rfl,h2,u3,V1,rfl,h3,h4⟩:=h
  exact ⟨u1,_,rfl,h1,u2,_,rfl,h2,u3,V1,rfl,LU h3,h4⟩
 intro r hr;obtain ⟨y,_,rfl⟩:=List.mem_map.1 hr;rfl
theorem Wi (l:List bZ) (e:bZ):tZ l e≤l.length:=by
 unfold tZ
 cases h:l.findIdx? (fun x=>cV e x) with
 |none=>exact Nat.le_refl _
 |some k=>exact Nat.le_of_lt (List.findIdx?_eq_some_iff_getElem.1 h).1
theorem BJ (ht:TT t) (a b:Int) {l:List bZ} {es:List (List D)} (aD:es=l.map bZ.cells) (hl:l.length<1000000):
 FC 49 [SL es,.agg [ax a,bc b]] [] (.ret (YF t (t _ fun _=>jF l ⟨a,b⟩))) []:=by
 have hq:=Wi l ⟨a,b⟩
 obtain ⟨qa,hqa⟩:∃n,n=tZ l ⟨a,b⟩:=⟨_,rfl⟩
 refine bA ht (aB:=[]) Tryz.func49 rfl rfl (N:=31) rfl rfl (n:=0) rfl rfl ?_
 cbv
 have av:es.length=l.length:=by rw [aD,lgM]
 refine ay trv (DJ ht _ _) trv rfl rfl (fun r0 bF=>?_)
 simp only [ht] at bF
 cbv
 refine ai (fun h1=>?_) (fun h1=>?_)
 ·cbv
  refine ak trv trv rfl rfl rfl ?_
  (simp only [ht];simp_all [jF];done)
 cbv
 refine ay trv (sD ht _ ‹_› (by omega)) trv rfl rfl (fun r2 cU=>?_)
 simp only [ht] at cU
 cbv
 refine ai (fun h3=>?_) (fun h3=>?_)
 ·simp [ht] at h3
  cbv
  refine ak trv trv rfl rfl rfl ?_
  (simp only [ht];simp_all [jF];done)
 simp [ht] at h3
 cbv
 refine ai (fun h4=>?_) (fun h4=>?_)
 ·simp [ht,aa,av] at h4
  cbv
  refine ak trv trv rfl rfl rfl ?_
  (simp only [ht,jF];grind)
 simp [ht,aa,av] at h4
 cbv
 refine bS [false,false,false,false,false,false,false,false,true,true,true] (by kernel_rfl) (by kernel_rfl) ?_
 cbv
 refine gI (by simp) ?_
 refine .inr (LP trv (Iq ht ‹_› (by omega)) trv rfl (.inr rfl) rfl ?_)
 cbv
 iterate 3 refine gI (by simp) ?_
 refine .inl ?_
 refine aJ (fun g5=>⟨trv,trv,Wh ht _ _ ‹_› (by omega)⟩) rfl rfl (fun r6 gk=>?_)
 simp only [ht] at gk
 rw [←hqa] at gk
 cbv
 iterate 2 refine gI (by simp) ?_
 refine cD [1] trv rfl rfl (Fj ht (l:=l) (x:=⟨a,b⟩) (k:=qa) ‹_› (by omega) (by omega)) (bK ?_)
 cbv
 refine ak trv trv rfl rfl rfl ?_
 (simp only [ht,jF];grind)
def ny (l:List bZ) (k:Nat):Option bZ:=match k with
 |0=>none
 |k+1=>l[k]?
theorem DL {l:List bZ} {k:Nat} {x:bZ}:MZ (ny l k) x=(decide (k=0)||match l[k-1]? with|none=>true|some y=>cV y x):=by
 cases k with
 |zero=>rfl
 |succ k=>simp only [ny,MZ];cases h:l[k]?<;>simp [h]
theorem NT {l:List bZ} {k:Nat} {x y:bZ} {r3 r7:Bool} {r5:Int} {rest:Bool} (j4:iX l none 0 l=(!gw x&&decide (fQ l x.id=(k:Int))&&MZ (ny l k) x&&rest)) (e3:r3=gw x) (e5:r5=fQ l x.id) (e7:r7=cV y x)
 (my:r3=false→r5=(k:Int)→0<k→l[k-1]?=some y) (h:(r3=true∨¬r5=(k:Int))∨0<k∧r7=false):nK l=false:=by
 subst e3 e5 e7
 unfold nK
 rw [j4,DL]
 by_cases h3:gw x=true
 ·simp [h3]
 by_cases h5:fQ l x.id=(k:Int)
 ·rcases h with (h|h)|⟨h,h7⟩
  ·exact absurd h h3
  ·exact absurd h5 h
  rw [my (by simpa using h3) h5 h]
  have:k≠0:=by omega
  simp [this,h7]
 simp [h5]
theorem Ir {l:List bZ} {k:Nat} {x y:bZ} {r3 r7:Bool} {r5:Int} {rest:Bool} (e3:r3=gw x) (e5:r5=fQ l x.id) (e7:r7=cV y x)
 (my:r3=false→r5=(k:Int)→0<k→l[k-1]?=some y) (h:(r3=false∧r5=(k:Int))∧(0<k→r7=true)):(!gw x&&decide (fQ l x.id=(k:Int))&&MZ (ny l k) x&&rest)=rest:=by
 subst e3 e5 e7
 obtain ⟨⟨h3,h5⟩,h7⟩:=h
 rw [DL]
 by_cases k0:k=0
 ·subst k0;simp [h3,h5]
 rw [my h3 h5 (by omega)]
 simp [h3,h5,h7 (by omega)]
theorem NU (ht:TT t) {l:List bZ} {es:List (List D)} (aD:es=l.map bZ.cells) (hl:l.length<1000000):
 FC 41 [SL es] [] (.ret (cu (t _ fun _=>nK l))) []:=by
 refine bA ht (aB:=[]) Tryz.func41 rfl rfl (N:=40) rfl rfl (n:=0) rfl rfl ?_
 cbv
 have av:es.length=l.length:=by rw [aD,lgM]
 obtain ⟨J0,ee⟩:∃J0:Nat→Int→Prop,∀n i,J0 n i↔(∃k:Nat,i=k∧k+n=l.length∧iX l none 0 l=iX l (ny l k) k (l.drop k)):=⟨fun n v=>match v with|i=>(∃k:Nat,i=k∧k+n=l.length∧iX l none 0 l=iX l (ny l k) k (l.drop k)),fun _ _=>Iff.rfl⟩
 refine bg ⟨[0,5,6,7],[],[]⟩ (σ:=Int) (fun v=>[(7,.d (.int .i64 (t _ fun _=>v)))]) (fun v=>[]) J0 ?_
 cbv
 refine aC ⟨l.length,_,(ee _ _).2 ?_,by simp only [ht];rfl,?_⟩
 ·exact ⟨0,rfl,by simp,by simp [ny]⟩
 rintro n i hj
 replace hj:=(ee _ _).1 hj
 obtain ⟨k,rfl,j1,j4⟩:=hj
 cbv
 refine ai (fun h1=>?_) (fun h1=>?_)
 ·simp [ht,aa,av] at h1
  cbv
  refine dS ht aD (cT:=bZ.aK t) (by (simp only [ht,aa];omega)) (by (simp only [ht,aa];omega)) (fun _=>rfl) (fun _=>rfl) (fun x2 iC=>?_)
  simp [ht,aa] at iC
  simp only [bV iC,iX] at j4
  cbv
  refine bS [true,true,true,false,false,false,false,false,true,true,true,true,true,true,false,false,false,false,false,false,true,true,true,true] (by kernel_rfl) (by kernel_rfl) ?_
  cbv
  refine ay trv (DJ ht _ _) trv rfl rfl (fun r3 gQ=>?_)
  simp only [ht] at gQ
  cbv
  iterate 3 refine gI (by simp [ht]) ?_
  refine aJ (fun g4=>⟨by simp [ht] at g4 ⊢;exact g4,trv,sD ht _ ‹_› (by omega)⟩) rfl rfl (fun r5 jh=>?_)
  simp only [ht] at jh
  cbv
  iterate 2 refine gI (by simp [ht]) ?_
  refine pI (by simp [ht]) ?_
  iterate 6 refine gI (by simp [ht]) ?_
  (refine Hh ht aD (cT:=bZ.aK t) (k-1) (fun g=>by simp [ht,aa] at g ⊢;simp [g]) (fun g=>by simp [ht,aa] at g;simp only [ht,aa];exact ⟨vv (by omega) (by omega),by omega⟩) (fun _=>rfl) (fun _=>rfl) (fun y my=>?_);simp [ht,aa] at my)
  cbv
  iterate 2 refine gI (by simp [ht]) ?_
  refine aJ (fun g6=>⟨by simp [ht] at g6 ⊢;exact g6,trv,DK ht _ _ _ _⟩) rfl rfl (fun r7 gE=>?_)
  simp only [ht] at gE
  cbv
  refine gI (by simp [ht]) ?_
  refine gI (by simp [ht,bq];intros;simp_all) ?_
  refine pI (by simp [ht]) ?_
  refine ai (fun h8=>?_) (fun h8=>?_)
  ·simp [ht,aa] at h8
   cbv
   refine ak trv trv rfl rfl rfl ?_
   (simp only [ht];rw [NT j4 gQ jh gE my h8])
  simp [ht,aa] at h8
  cbv
  refine bu _ (by simp only [ht];rfl) (n-1) ?_ ((ee _ _).2 ?_)
  ·omega
  simp only [aa]
  refine ⟨k+1,aE (by omega),by omega,?_⟩
  (simp only [ny];rw [iC,j4];exact Ir gQ jh gE my h8)
 simp [ht,aa,av] at h1
 cbv
 refine ak trv trv rfl rfl rfl ?_
 (rw [List.drop_eq_nil_of_le (by omega),iX] at j4;have e:decide ((l.length:Int)≤32)=decide (l.length≤32):=(by rw [decide_eq_decide];omega);simp [ht,aa,nK,j4,av,e];done)
def Fk (t:Th) (s:cJ):AV:=.agg [ax s.round,ax s.next,SL (t _ fun _=>s.bC.nodes.map Node.cells),SL (t _ fun _=>s.bC.places.map Place.cells),SL (t _ fun _=>s.tree.map aQ.cells),SL (t _ fun _=>s.aL.map Jb.cells),SL (t _ fun _=>s.queue.map bZ.cells),ax s.ev.first,SL (t _ fun _=>s.ev.l.map cF.cells),ax s.au.first,SL (t _ fun _=>s.au.l.map cF.cells)]
def Q5 (t:Th) (r:cJ×Int):AV:=.dA [Fk t r.1,bc r.2]
def Q6 (t:Th) (r:cJ×Int×Int):AV:=.dA [Fk t r.1,ax r.2.1,bc r.2.2]
theorem oy (ht:TT t) (rd nx ef af id kd:Int) {nl:List Node} {pl:List Place} {tl:List aQ} {jl:List Jb} {ql:List bZ} {el al:List cF} {ns ps ts js qs es dm:List (List D)}
 (gR:ns=nl.map Node.cells) (hps:ps=pl.map Place.cells) (hts:ts=tl.map aQ.cells) (fU:js=jl.map Jb.cells) (fG:qs=ql.map bZ.cells) (aD:es=el.map cF.cells) (has:dm=al.map cF.cells) (hel:el.length<1000000):
 FC 51 [.agg [ax rd,ax nx,SL ns,SL ps,SL ts,SL js,SL qs,ax ef,SL es,ax af,SL dm],ax id,bc kd] [] (.ret (Fk t (t _ fun _=>fR ⟨rd,nx,⟨nl,pl⟩,tl,jl,ql,⟨ef,el⟩,⟨af,al⟩⟩ id kd))) []:=by
 obtain ⟨⟨f9,l9⟩,h9⟩:∃r,r=tell ⟨ef,el⟩ ⟨rd,id,kd⟩:=⟨_,rfl⟩
 refine bA ht (aB:=[]) Tryz.func51 rfl rfl (N:=17) rfl rfl (n:=0) rfl rfl ?_
 cbv
 have fc:ns.length=nl.length:=by rw [gR,lgM]
 have fA:ps.length=pl.length:=by rw [hps,lgM]
 have fT:ts.length=tl.length:=by rw [hts,lgM]
 have dj:js.length=jl.length:=by rw [fU,lgM]
 have dL:qs.length=ql.length:=by rw [fG,lgM]
 have av:es.length=el.length:=by rw [aD,lgM]
 have dP:dm.length=al.length:=by rw [has,lgM]
 refine aU trv (TF ht _ _ _ _ ‹_› ‹_›) trv rfl rfl rfl (fun r0 bF=>?_)
 simp only [ht] at bF
 rw [←h9] at bF
 subst r0
 cbv
 refine ak trv trv rfl rfl rfl ?_
 (simp only [ht,fR];grind)
theorem Mn (ht:TT t):FC 32 [] [] (.ret (Fk t (t _ fun _=>S1))) []:=by
 refine bA ht (aB:=[]) Tryz.func32 rfl rfl (N:=4) rfl rfl (n:=0) rfl rfl ?_
 cbv
 refine aU trv (Tt ht _ _ _ _) trv rfl rfl rfl (fun r0 bF=>?_)
 simp only [ht] at bF
 cbv
 refine ak trv trv rfl rfl rfl ?_
 (simp [S1,cJ.zero,bz.zero, *];done)
theorem KW (ht:TT t) {es:List (List D)} (aD:∀r∈es,r.length=12) (hs:es.length*120≤140737488355328) {m:Nat} (hm:m=es.length):
 FC 68 [SL es] [] (.ret (.ow 0 12 m)) [.row 12 es]:=by
 refine bA ht (aB:=[]) Tryz.func68 rfl rfl (N:=8) rfl rfl (n:=0) rfl rfl ?_
 cbv
 refine ⟨fun b hb=>?_⟩
 simp only [ht] at hb
 cbv
 refine ai (fun h=>?_) (fun h=>?_)
 ·have he:=hb h
  subst he
  cbv
  exact JE trv rfl rfl (by rw [hm];rfl) rfl
 clear hb h
 cbv
 refine ⟨?_,?_⟩
 ·simp only [ht];simp;exact ⟨hs,aD⟩
 refine EB trv rfl rfl rfl rfl ?_ ?_
 ·simp only [ht];rw [hm];simp
 simp only [ht];rfl
theorem rC (ht:TT t) {l:List Jb} {es:List (List D)} (aD:es=l.map Jb.cells) (hs:l.length<1000000):
 FC 68 [SL es] [] (.ret (.ow 0 12 (t _ fun _=>(l.map Jb.cells).length))) [.row 12 (t _ fun _=>l.map Jb.cells)]:=by
 simp only [ht];subst aD
 refine KW ht ?_ ?_ (by simp)
 ·intro r hr;obtain ⟨y,_,rfl⟩:=List.mem_map.1 hr;rfl
 simp;omega
end Dem
end
