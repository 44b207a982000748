/- Parts of a proof, joined. -/
import Derived.Test.YtihohjnkkalgiaaGreatDoorM15
import Derived.Laws.Externs
set_option linter.all false
set_option maxRecDepth 100000
set_option maxHeartbeats 4000000
section
open Go Dem Go.Proofs
namespace Dem
variable {t:Th}
theorem Tr (x y:Int) {r s:Int} (hr:r=(((x.toNat+y.toNat)%18446744073709551616:Nat):Int)) (hs:s=(((x.toNat+y.toNat) / 18446744073709551616:Nat):Int)):
 FC 212 [.d (.int .u64 x),.d (.int .u64 y),.d (.int .u64 0)] [] (.ret (.eE [.d (.int .u64 r),.d (.int .u64 s)])) []:=by
 refine Zy Tryz.func212 (by kernel_rfl) (by kernel_rfl) (by kernel_rfl) (e:=add64Entry) (by kernel_rfl) ?_
 intro β w vs ok h
 simp only [ak,aj,aK] at h
 obtain ⟨_,_,rfl,rfl,_,_,rfl,rfl,_,_,rfl,rfl,rfl⟩:=h
 refine ⟨.tuple #[.int .u64 r,.int .u64 s],?_,?_⟩
 ·subst hr hs;rfl
 simp only [aj,ak,aK];exact ⟨_,rfl,_,_,rfl,rfl,_,_,rfl,rfl,rfl⟩
def V0:Array Value→Sem Value:=fun args=>do
 let (x,y,b) ←Extern.MathBitsCarry.three "Sub64" args
 pure (Extern.MathBitsCarry.pair ((x+Extern.MathBitsCarry.m64-y-b)%Extern.MathBitsCarry.m64) (if x<y+b then 1 else 0))
theorem Ts (x y:Int) {r s:Int} (hr:r=(((x.toNat+18446744073709551616-y.toNat)%18446744073709551616:Nat):Int)) (hs:s=((if x.toNat<y.toNat then 1 else 0:Nat):Int)):
 FC 224 [.d (.int .u64 x),.d (.int .u64 y),.d (.int .u64 0)] [] (.ret (.eE [.d (.int .u64 r),.d (.int .u64 s)])) []:=by
 refine Zy Tryz.func224 (by kernel_rfl) (by kernel_rfl) (by kernel_rfl) (e:=V0) (by kernel_rfl) ?_
 intro β w vs ok h
 simp only [ak,aj,aK] at h
 obtain ⟨_,_,rfl,rfl,_,_,rfl,rfl,_,_,rfl,rfl,rfl⟩:=h
 refine ⟨.tuple #[.int .u64 r,.int .u64 s],?_,?_⟩
 ·subst hr hs;rfl
 simp only [aj,ak,aK];exact ⟨_,rfl,_,_,rfl,rfl,_,_,rfl,rfl,rfl⟩
theorem Nl (ht:TT t) (x y:Int) {r:Int} {ok:Bool} (h:(r,ok)=GU x y):
 FC 183 [.d (.int .u64 x),.d (.int .u64 y)] [] (.ret (.eE [.d (.int .u64 r),.d (.bool ok)])) []:=by
 obtain ⟨a,ha⟩:∃a:Int,a=(((x.toNat+y.toNat)%18446744073709551616:Nat):Int):=⟨_,rfl⟩
 obtain ⟨b,hb⟩:∃b:Int,b=(((x.toNat+y.toNat) / 18446744073709551616:Nat):Int):=⟨_,rfl⟩
 refine bH ht (aF:=[]) Tryz.func183 rfl rfl (N:=17) rfl rfl (n:=0) rfl rfl ?_
 cbv
 refine fU trv (Tr x y ha hb) trv rfl rfl ?_
 cbv
 refine an (fun hc=>?_) (fun hc=>?_)
 ·cbv
  refine av trv trv rfl rfl rfl ?_
  simp only [ht,aa,Bool.not_eq_true',decide_eq_false_iff_not] at hc ha hb
  simp only [GU] at h
  rw [if_neg (by omega)] at h
  cases h;rfl
 cbv
 refine av trv trv rfl rfl rfl ?_
 simp only [ht,aa,Bool.not_eq_false',decide_eq_true_eq] at hc ha hb
 simp only [GU] at h
 rw [if_pos (by omega)] at h
 cases h
 rw [ha,Nat.mod_eq_of_lt (by omega)]
theorem Nn (ht:TT t) (x y:Int) {r:Int} {ok:Bool} (h:(r,ok)=GV x y):
 FC 203 [.d (.int .u64 x),.d (.int .u64 y)] [] (.ret (.eE [.d (.int .u64 r),.d (.bool ok)])) []:=by
 obtain ⟨a,ha⟩:∃a:Int,a=(((x.toNat+18446744073709551616-y.toNat)%18446744073709551616:Nat):Int):=⟨_,rfl⟩
 obtain ⟨b,hb⟩:∃b:Int,b=((if x.toNat<y.toNat then 1 else 0:Nat):Int):=⟨_,rfl⟩
 refine bH ht (aF:=[]) Tryz.func203 rfl rfl (N:=17) rfl rfl (n:=0) rfl rfl ?_
 cbv
 refine fU trv (Ts x y ha hb) trv rfl rfl ?_
 cbv
 refine an (fun hc=>?_) (fun hc=>?_)
 ·cbv
  refine av trv trv rfl rfl rfl ?_
  simp only [ht,aa,Bool.not_eq_true',decide_eq_false_iff_not] at hc ha hb
  simp only [GV] at h
  by_cases hlt:x.toNat<y.toNat
  ·rw [if_pos hlt] at h;cases h;rfl
  rw [if_neg hlt] at hb;exact absurd (by rw [hb];rfl) hc
 cbv
 refine av trv trv rfl rfl rfl ?_
 simp only [ht,aa,Bool.not_eq_false',decide_eq_true_eq] at hc ha hb
 simp only [GV] at h
 by_cases hlt:x.toNat<y.toNat
 ·rw [if_pos hlt] at hb;rw [hb] at hc;exact absurd hc (by decide)
 rw [if_neg hlt] at h;cases h
 have e:(x.toNat+18446744073709551616-y.toNat)%18446744073709551616=(x.toNat-y.toNat)%18446744073709551616:=by omega
 rw [ha,e]
theorem QB (ht:TT t) (a0 a1 a2 a3 b0 b1 b2 b3:Int) (op:Int→Int→Int×Bool) (F:Nat) (hop:∀(x y r:Int) (ok:Bool),(r,ok)=op x y→FC F [.d (.int .u64 x),.d (.int .u64 y)] [] (.ret (.eE [.d (.int .u64 r),.d (.bool ok)])) [])
 {r0 r1 r2 r3:Int} {ok:Bool} (h:(⟨r0,r1,r2,r3⟩,ok)=both op ⟨a0,a1,a2,a3⟩ ⟨b0,b1,b2,b3⟩):
 FC 167 [.agg [.d (.int .u64 a0),.d (.int .u64 a1),.d (.int .u64 a2),.d (.int .u64 a3)],.agg [.d (.int .u64 b0),.d (.int .u64 b1),.d (.int .u64 b2),.d (.int .u64 b3)],.fn F []] []
  (.ret (.eE [.agg [.d (.int .u64 r0),.d (.int .u64 r1),.d (.int .u64 r2),.d (.int .u64 r3)],.d (.bool ok)])) []:=by
 obtain ⟨⟨s0,k0⟩,e0⟩:∃s,s=op a0 b0:=⟨_,rfl⟩
 obtain ⟨⟨s1,k1⟩,e1⟩:∃s,s=op a1 b1:=⟨_,rfl⟩
 obtain ⟨⟨s2,k2⟩,e2⟩:∃s,s=op a2 b2:=⟨_,rfl⟩
 obtain ⟨⟨s3,k3⟩,e3⟩:∃s,s=op a3 b3:=⟨_,rfl⟩
 have h0:(k0&&k1&&k2&&k3)=false→r0=0∧r1=0∧r2=0∧r3=0∧ok=false:=by
  intro hk;simp only [both,←e0,←e1,←e2,←e3] at h;rw [if_neg (by rw [hk];simp)] at h;cases h;exact ⟨rfl,rfl,rfl,rfl,rfl⟩
 have h1:(k0&&k1&&k2&&k3)=true→r0=s0∧r1=s1∧r2=s2∧r3=s3∧ok=true:=by
  intro hk;simp only [both,←e0,←e1,←e2,←e3] at h;rw [if_pos hk] at h;cases h;exact ⟨rfl,rfl,rfl,rfl,rfl⟩
 clear h
 have fin:∀{bx:List az},(k0&&k1&&k2&&k3)=false→GK 0 True (AV.eE [.agg [.d (.int .u64 0),.d (.int .u64 0),.d (.int .u64 0),.d (.int .u64 0)],.d (.bool false)]) bx (some (True,AV.eE [.agg [.d (.int .u64 0),.d (.int .u64 0),.d (.int .u64 0),.d (.int .u64 0)],.d (.bool false)]))
  (.ret (.eE [.agg [.d (.int .u64 r0),.d (.int .u64 r1),.d (.int .u64 r2),.d (.int .u64 r3)],.d (.bool ok)])) []:=by
  intro bx hk
  obtain ⟨rfl,rfl,rfl,rfl,rfl⟩:=h0 hk
  exact av trv trv rfl rfl rfl rfl
 refine bH ht (aF:=[]) Tryz.func167 rfl rfl (N:=34) rfl rfl (n:=0) rfl rfl ?_
 cbv
 refine bF ⟨[2,3,4,6,12,13],[],[]⟩ (σ:=Nat) (fun j=>[(13,.d (.int .i64 j))]) (fun j=>[(0,.var [.d (.int .u64 (bif Nat.blt 0 j then s0 else a0)),.d (.int .u64 (bif Nat.blt 1 j then s1 else a1)),.d (.int .u64 (bif Nat.blt 2 j then s2 else a2)),.d (.int .u64 (bif Nat.blt 3 j then s3 else a3))])])
  (fun n j=>n+j=4∧(0<j→k0=true)∧(1<j→k1=true)∧(2<j→k2=true)∧(3<j→k3=true)) ?_
 cbv
 refine aD ⟨4,0,⟨rfl,by omega,by omega,by omega,by omega⟩,rfl,?_⟩
 rintro n j ⟨hn,g0,g1,g2,g3⟩
 have hj:j=0∨j=1∨j=2∨j=3∨j=4:=by omega
 rcases hj with rfl|rfl|rfl|rfl|rfl
 ·cbv
  refine kM (by simp [ht]) ?_
  cbv
  refine ⟨by simp [ht],by simp [ht],fU trv (hop _ _ _ _ e0) trv rfl rfl ?_⟩
  cbv
  refine an (fun hc=>?_) (fun hc=>?_)
  ·simp only [ht,Bool.not_eq_true'] at hc
   cbv
   exact fin (by simp [hc])
  simp only [ht,Bool.not_eq_false'] at hc
  cbv
  refine ⟨by simp [ht],?_⟩
  trace_state
  refine aD ⟨3-0,0+1,⟨⟨by omega,by omega,by simp_all,by simp_all,by simp_all,by simp_all⟩,?_⟩⟩
  simp only [ht];rfl
 ·cbv
  refine kM (by simp [ht]) ?_
  cbv
  refine ⟨by simp [ht],by simp [ht],fU trv (hop _ _ _ _ e1) trv rfl rfl ?_⟩
  cbv
  refine an (fun hc=>?_) (fun hc=>?_)
  ·simp only [ht,Bool.not_eq_true'] at hc
   cbv
   exact fin (by simp [hc])
  simp only [ht,Bool.not_eq_false'] at hc
  cbv
  refine ⟨by simp [ht],?_⟩
  trace_state
  refine aD ⟨3-1,1+1,⟨⟨by omega,by omega,by simp_all,by simp_all,by simp_all,by simp_all⟩,?_⟩⟩
  simp only [ht];rfl
 ·cbv
  refine kM (by simp [ht]) ?_
  cbv
  refine ⟨by simp [ht],by simp [ht],fU trv (hop _ _ _ _ e2) trv rfl rfl ?_⟩
  cbv
  refine an (fun hc=>?_) (fun hc=>?_)
  ·simp only [ht,Bool.not_eq_true'] at hc
   cbv
   exact fin (by simp [hc])
  simp only [ht,Bool.not_eq_false'] at hc
  cbv
  refine ⟨by simp [ht],?_⟩
  trace_state
  refine aD ⟨3-2,2+1,⟨⟨by omega,by omega,by simp_all,by simp_all,by simp_all,by simp_all⟩,?_⟩⟩
  simp only [ht];rfl
 ·cbv
  refine kM (by simp [ht]) ?_
  cbv
  refine ⟨by simp [ht],by simp [ht],fU trv (hop _ _ _ _ e3) trv rfl rfl ?_⟩
  cbv
  refine an (fun hc=>?_) (fun hc=>?_)
  ·simp only [ht,Bool.not_eq_true'] at hc
   cbv
   exact fin (by simp [hc])
  simp only [ht,Bool.not_eq_false'] at hc
  cbv
  refine ⟨by simp [ht],?_⟩
  trace_state
  refine aD ⟨3-3,3+1,⟨⟨by omega,by omega,by simp_all,by simp_all,by simp_all,by simp_all⟩,?_⟩⟩
  simp only [ht];rfl
 cbv
 refine nR (by simp [ht]) ?_
 cbv
 obtain ⟨rfl,rfl,rfl,rfl,rfl⟩:=h1 (by simp [g0,g1,g2,g3])
 exact av trv trv rfl rfl rfl rfl
theorem QC (ht:TT t) (a0 a1 a2 a3 b0 b1 b2 b3:Int) {r0 r1 r2 r3:Int} {ok:Bool} (h:(⟨r0,r1,r2,r3⟩,ok)=iT ⟨a0,a1,a2,a3⟩ ⟨b0,b1,b2,b3⟩):
 FC 137 [V4 a0 a1 a2 a3,V4 b0 b1 b2 b3] [] (.ret (.eE [V4 r0 r1 r2 r3,BL ok])) []:=by
 refine bH ht (aF:=[]) Tryz.func137 rfl rfl (N:=11) rfl rfl (n:=0) rfl rfl ?_
 cbv
 refine fU trv (QB ht _ _ _ _ _ _ _ _ GU 183 (fun x y r ok=>Nl ht x y) h) trv rfl rfl ?_
 cbv
 exact av trv trv rfl rfl rfl rfl
theorem EH (ht:TT t) (a0 a1 a2 a3 b0 b1 b2 b3:Int) {r0 r1 r2 r3:Int} {ok:Bool} (h:(⟨r0,r1,r2,r3⟩,ok)=dY ⟨a0,a1,a2,a3⟩ ⟨b0,b1,b2,b3⟩):
 FC 170 [V4 a0 a1 a2 a3,V4 b0 b1 b2 b3] [] (.ret (.eE [V4 r0 r1 r2 r3,BL ok])) []:=by
 refine bH ht (aF:=[]) Tryz.func170 rfl rfl (N:=11) rfl rfl (n:=0) rfl rfl ?_
 cbv
 refine fU trv (QB ht _ _ _ _ _ _ _ _ GV 203 (fun x y r ok=>Nn ht x y) h) trv rfl rfl ?_
 cbv
 exact av trv trv rfl rfl rfl rfl
theorem Tt (ht:TT t) (a0 a1 a2 a3 b0 b1 b2 b3:Int) {ok:Bool} (h:ok=kY ⟨a0,a1,a2,a3⟩ ⟨b0,b1,b2,b3⟩):
 FC 142 [V4 a0 a1 a2 a3,V4 b0 b1 b2 b3] [] (.ret (BL ok)) []:=by
 obtain ⟨⟨⟨r0,r1,r2,r3⟩,k⟩,e⟩:∃s,s=dY ⟨b0,b1,b2,b3⟩ ⟨a0,a1,a2,a3⟩:=⟨_,rfl⟩
 have hk:ok=k:=by rw [h];unfold kY;rw [←e]
 refine bH ht (aF:=[]) Tryz.func142 rfl rfl (N:=14) rfl rfl (n:=0) rfl rfl ?_
 cbv
 refine fU trv (EH ht _ _ _ _ _ _ _ _ e) trv rfl rfl ?_
 cbv
 exact av trv trv rfl rfl rfl (by rw [hk])
theorem V1 (ht:TT t) (name:aH) {l:List Node} {ps:List Place} {es qs:List (List D)} (aB:es=l.map Node.cells) (dV:qs=ps.map Place.cells) (hl:l.length<9223372036854775807) (Ed:ps.length<9223372036854775807) {a b c d:Int} {ok:Bool} (hr:cE name l ps=(⟨a,b,c,d⟩,ok)):
 FC 120 [.agg [SL es,SL qs],ST name] [] (.ret (.eE [V4 a b c d,BL ok])) []:=by
 have hrows:∀r∈qs,r.length=6:=by rw [dV];intro r hr;obtain ⟨y,_,rfl⟩:=List.mem_map.1 hr;rfl
 have hel:qs.length=ps.length:=by rw [dV,lgM]
 obtain ⟨x,YD,hf⟩:∃x YD,eG name l=(x,YD):=⟨_,_,rfl⟩
 obtain ⟨nm,⟨a0,b0,c0,d0⟩,lb,up⟩:=x
 obtain ⟨lr,hlr⟩:∃lr,lr=lb.map dg.cells:=⟨_,rfl⟩
 obtain ⟨J,hJ⟩:∃J:Nat→(bK×Bool)×Nat→Prop,∀n v,J n v↔(v.2+n=ps.length∧(ps.drop v.2).foldl (cJ name) v.1=ps.foldl (cJ name) (⟨a0,b0,c0,d0⟩,YD)):=⟨fun n v=>v.2+n=ps.length∧(ps.drop v.2).foldl (cJ name) v.1=ps.foldl (cJ name) (⟨a0,b0,c0,d0⟩,YD),fun _ _=>Iff.rfl⟩
 refine bH ht (aF:=[]) Tryz.func120 rfl rfl (N:=45) rfl rfl (n:=0) rfl rfl ?_
 cbv
 refine GL trv (QA ht name aB hl hf hlr) trv rfl rfl rfl ?_
 cbv
 refine bF ⟨[1,4,7,8,20,21,22],[],[]⟩ (σ:=(bK×Bool)×Nat) (fun v=>[(7,BL (t _ fun _=>v.1.2)),(22,bI (t _ fun _=>(v.2:Int)))]) (fun v=>[(1,.var [.d (.int .u64 (t _ fun _=>v.1.1.a)),.d (.int .u64 (t _ fun _=>v.1.1.b)),.d (.int .u64 (t _ fun _=>v.1.1.c)),.d (.int .u64 (t _ fun _=>v.1.1.d))])]) J ?_
 cbv
 refine aD ⟨ps.length,((⟨a0,b0,c0,d0⟩,YD),0),(hJ _ _).2 ⟨by simp,by simp⟩,by simp only [ht];rfl,?_⟩
 rintro n ⟨⟨⟨a1,b1,c1,d1⟩,Sc⟩,k⟩ hj
 obtain ⟨j1,j2⟩:=(hJ _ _).1 hj
 clear hj
 simp only at j1 j2
 cbv
 refine an (fun h=>?_) (fun h=>?_)
 ·have hk:k<ps.length:=by simp [ht,aa] at h;omega
  clear h
  obtain ⟨x,hx⟩:∃x,ps[k]?=some x:=⟨ps[k],by simp⟩
  obtain ⟨jb,nd,⟨v1,v2,v3,v4⟩⟩:=x
  have hd:ps.drop k=⟨jb,nd,⟨v1,v2,v3,v4⟩⟩::ps.drop (k+1):=by
   rw [List.drop_eq_getElem_cons hk];congr 1
   rw [List.getElem?_eq_getElem hk] at hx;exact Option.some.inj hx
  rw [hd,List.foldl_cons] at j2
  cbv
  refine ic [.int .u64 jb,.str nd,.int .u64 v1,.int .u64 v2,.int .u64 v3,.int .u64 v4] ?_ ?_ ?_
  ·simp only [ht,aa];exact ⟨by omega,by omega,hrows⟩
  ·simp [ht,aa,dV,hx]
  cbv
  repeat (first|refine gI (by (simp [ht];done)) ?_|refine pI (by (simp [ht];done)) ?_)
  refine an (fun hb=>?_) (fun hb=>?_)
  ·have hb':(Sc&&decide (nd=name))=true:=by simp [ht] at hb ⊢;exact hb
   clear hb
   obtain ⟨⟨⟨r0,r1,r2,r3⟩,okr⟩,hv⟩:∃s,s=dY ⟨a1,b1,c1,d1⟩ ⟨v1,v2,v3,v4⟩:=⟨_,rfl⟩
   have hst:cJ name (⟨a1,b1,c1,d1⟩,Sc) ⟨jb,nd,⟨v1,v2,v3,v4⟩⟩=(⟨r0,r1,r2,r3⟩,okr):=by simp only [cJ,hb',if_true];exact hv.symm
   rw [hst] at j2
   cbv
   refine fU trv (EH ht _ _ _ _ _ _ _ _ (by simp only [ht];exact hv)) trv rfl rfl ?_
   cbv
   refine aD ⟨n-1,((⟨r0,r1,r2,r3⟩,okr),k+1),⟨by omega,(hJ _ _).2 ⟨by show k+1+(n-1)=_;omega,j2⟩⟩,?_⟩
   simp only [ht,aa,aC (show k<9223372036854775807 by omega)];rfl
  have hb':(Sc&&decide (nd=name))=false:=by simp [ht] at hb ⊢;exact hb
  clear hb
  have hst:cJ name (⟨a1,b1,c1,d1⟩,Sc) ⟨jb,nd,⟨v1,v2,v3,v4⟩⟩=(⟨a1,b1,c1,d1⟩,Sc):=by simp [cJ,hb']
  rw [hst] at j2
  cbv
  refine aD ⟨n-1,((⟨a1,b1,c1,d1⟩,Sc),k+1),⟨by omega,(hJ _ _).2 ⟨by show k+1+(n-1)=_;omega,j2⟩⟩,?_⟩
  simp only [ht,aa,aC (show k<9223372036854775807 by omega)];rfl
 have hk:k=ps.length:=by simp [ht,aa] at h;omega
 clear h
 rw [hk,List.drop_length,List.foldl_nil] at j2
 have Su:(if Sc then ((⟨a1,b1,c1,d1⟩:bK),Sc) else (bK.zero,false))=(⟨a,b,c,d⟩,ok):=by rw [←hr,cE,hf,←j2]
 cbv
 refine an (fun hb=>?_) (fun hb=>?_)
 ·have hb':Sc=false:=by simpa [ht] using hb
  clear hb
  subst hb'
  obtain ⟨⟨rfl,rfl,rfl,rfl⟩,rfl⟩:(a=0∧b=0∧c=0∧d=0)∧ok=false:=by simpa [bK.zero,eq_comm] using Su
  cbv
  exact av trv trv rfl rfl rfl rfl
 have hb':Sc=true:=by simpa [ht] using hb
 clear hb
 subst hb'
 obtain ⟨⟨rfl,rfl,rfl,rfl⟩,rfl⟩:(a1=a∧b1=b∧c1=c∧d1=d)∧true=ok:=by simpa using Su
 cbv
 refine av trv trv rfl rfl rfl ?_
 simp only [ht]
theorem Tu (ht:TT t) (name:aH) {l:List Node} {es ps:List (List D)} (aB:es=l.map Node.cells) (hl:l.length<9223372036854775807):
 FC 33 [.agg [SL es,SL ps],ST name] [] (.ret (Qg t (t _ fun _=>eG name l))) []:=by
 simp only [ht]
 generalize hr:eG name l=r
 obtain ⟨⟨nm,⟨a,b,c,d⟩,lb,up⟩,ok⟩:=r
 exact (by simpa only [Qg,UY,ht] using QA ht name aB hl hr rfl)
theorem EI (ht:TT t) (name:aH) {l:List Node} {ps:List Place} {es qs:List (List D)} (aB:es=l.map Node.cells) (dV:qs=ps.map Place.cells) (hl:l.length<9223372036854775807) (Ed:ps.length<9223372036854775807):
 FC 120 [.agg [SL es,SL qs],ST name] [] (.ret (Xe (t _ fun _=>cE name l ps))) []:=by
 simp only [ht]
 generalize hr:cE name l ps=r
 obtain ⟨⟨a,b,c,d⟩,ok⟩:=r
 exact V1 ht name aB dV hl Ed hr
theorem ol (ht:TT t) (a b c d e f g h:Int):FC 142 [V4 a b c d,V4 e f g h] [] (.ret (bX (t _ fun _=>kY ⟨a,b,c,d⟩ ⟨e,f,g,h⟩))) []:=by
 simp only [ht];exact Tt ht _ _ _ _ _ _ _ _ rfl
theorem Tv (ht:TT t) (name:aH) (v0 v1 v2 v3:Int) {l:List Node} {ps:List Place} {es qs:List (List D)} (aB:es=l.map Node.cells) (dV:qs=ps.map Place.cells) (hl:l.length<9223372036854775807) (Ed:ps.length<9223372036854775807):
 FC 119 [.agg [SL es,SL qs],ST name,V4 v0 v1 v2 v3] [] (.ret (gm (t _ fun _=>mW name ⟨v0,v1,v2,v3⟩ l ps))) []:=by
 refine bH ht (aF:=[]) Tryz.func119 rfl rfl (N:=39) rfl rfl (n:=0) rfl rfl ?_
 cbv
 refine aE trv (Tu ht _ ‹_› ‹_›) trv rfl rfl rfl (fun r0 cN=>?_)
 simp only [ht] at cN
 cbv
 refine aM trv (EI ht _ ‹_› ‹_› ‹_› ‹_›) trv rfl rfl (fun r1 dL=>?_)
 simp only [ht] at dL
 cbv
 refine an (fun h2=>?_) (fun h2=>?_)
 ·simp [ht] at h2
  cbv
  refine av trv trv rfl rfl rfl ?_
  (simp only [ht,mW];grind)
 simp [ht] at h2
 cbv
 refine an (fun h3=>?_) (fun h3=>?_)
 ·simp [ht] at h3
  cbv
  refine av trv trv rfl rfl rfl ?_
  (simp only [ht,mW];grind)
 simp [ht] at h3
 cbv
 iterate 2 refine gI (by simp [ht]) ?_
 refine bJ (fun g4=>⟨by simp [ht] at g4 ⊢;exact g4,trv,ol ht _ _ _ _ _ _ _ _⟩) rfl rfl (fun r5 pH=>?_)
 simp only [ht] at pH
 cbv
 refine gI (by simp [ht]) ?_
 refine pI (by simp [ht]) ?_
 refine an (fun h6=>?_) (fun h6=>?_)
 ·simp [ht] at h6
  cbv
  refine av trv trv rfl rfl rfl ?_
  (simp_all [mW];done)
 simp [ht] at h6
 cbv
 refine av trv trv rfl rfl rfl ?_
 (simp_all [mW];done)
theorem Cw (ht:TT t) {ps:List Place} {es:List (List D)} (aB:es=ps.map Place.cells) (hs:ps.length<1000000000):
 FC 118 [SL es] [] (.ret (.ow 0 6 (t _ fun _=>(ps.map Place.cells).length))) [.row 6 (t _ fun _=>ps.map Place.cells)]:=by
 simp only [ht];subst aB
 refine vG ht ?_ ?_ (by simp)
 ·intro r hr;obtain ⟨y,_,rfl⟩:=List.mem_map.1 hr;rfl
 simp;omega
theorem V2 (ht:TT t) (bA:Int) (v0 v1 v2 v3:Int) {l:List Node} {ps:List Place} {names:List aH} {es qs ns:List (List D)} (aB:es=l.map Node.cells) (dV:qs=ps.map Place.cells) (eV:ns=names.map bu) (hl:l.length<1000000000) (Ed:ps.length<100000000) (Ph:names.length<100000000):
 FC 78 [.agg [SL es,SL qs],aA bA,SL ns,V4 v0 v1 v2 v3] [] (.ret (nw t (t _ fun _=>tW ⟨l,ps⟩ bA names ⟨v0,v1,v2,v3⟩))) []:=by
 refine bH ht (aF:=[]) Tryz.func78 rfl rfl (N:=45) rfl rfl (n:=0) rfl rfl ?_
 cbv
 have ap:es.length=l.length:=by rw [aB,lgM]
 have aI:qs.length=ps.length:=by rw [dV,lgM]
 have aX:ns.length=names.length:=by rw [eV,lgM]
 refine cO [false,false,false,false,false,false,false,true] (by kernel_rfl) (by kernel_rfl) ?_
 cbv
 iterate 4 refine gI (by simp) ?_
 refine .inr (GN trv (Cw ht ‹_› (by omega)) trv rfl (.inr rfl) rfl ?_)
 cbv
 refine gI (by simp) ?_
 obtain ⟨J0,dR⟩:∃J0:Nat→Int×List (List D)→Prop,∀n i u,J0 n (i,u)↔(∃(k:Nat) (rs:List Place),i=k∧k+n=names.length∧u=rs.map Place.cells∧rs.length=ps.length+k∧fA l bA ⟨v0,v1,v2,v3⟩ names ps=fA l bA ⟨v0,v1,v2,v3⟩ (names.drop k) rs):=⟨fun n v=>match v with|(i,u)=>(∃(k:Nat) (rs:List Place),i=k∧k+n=names.length∧u=rs.map Place.cells∧rs.length=ps.length+k∧fA l bA ⟨v0,v1,v2,v3⟩ names ps=fA l bA ⟨v0,v1,v2,v3⟩ (names.drop k) rs),fun _ _ _=>Iff.rfl⟩
 refine bF ⟨[1,4,7,8,10,20,21,22],[],[]⟩ (σ:=Int×List (List D)) (fun v=>[(22,.d (.int .i64 (t _ fun _=>v.1)))]) (fun v=>[(2,.var [AV.cl [],AV.cl []]),(4,.row 6 (t _ fun _=>v.2)),(3,.var [AV.d (D.sl es),.ow 4 6 (t _ fun _=>(v.2).length)])]) J0 ?_
 cbv
 refine aD ⟨names.length,(_,_),(dR _ _ _).2 ?_,by simp only [ht];rfl,?_⟩
 ·exact ⟨0,ps,rfl,by simp,by simp,by simp,by simp⟩
 rintro n ⟨i,u⟩ hj
 replace hj:=(dR _ _ _).1 hj
 obtain ⟨k,rs,rfl,j1,j2,j3,j4⟩:=hj
 have vH:u.length=rs.length:=by rw [j2,lgM]
 cbv
 refine an (fun h1=>?_) (fun h1=>?_)
 ·simp [ht,aa,aX] at h1
  cbv
  refine fP ht eV (cT:=eA t) (by (simp only [ht,aa];omega)) (by (simp only [ht,aa];omega)) (fun _=>rfl) (fun _=>rfl) (fun x2 fZ=>?_)
  simp [ht,aa] at fZ
  rw [dU fZ,fA] at j4
  cbv
  refine aM trv (Tv ht _ _ _ _ _ ‹_› (by (simp only [ht];omega)) (by omega) (by omega)) (by simp [ht]) rfl rfl (fun r3 iV=>?_)
  simp only [ht] at iV
  cbv
  refine an (fun h4=>?_) (fun h4=>?_)
  ·simp [ht] at h4
   cbv
   refine av trv trv rfl rfl rfl ?_
   (simp only [ht,tW];grind)
  simp [ht] at h4
  cbv
  refine ⟨?_,?_⟩
  ·(simp only [ht,true_and];exact UZ j2 (fun _=>rfl) rfl (by omega) (by decide))
  cbv
  refine bQ (_,_) (by simp only [ht,←List.length_append];rfl) (n-1) ?_ ((dR _ _ _).2 ?_)
  ·omega
  simp only [aa]
  refine ⟨k+1,rs++[⟨bA,x2,⟨v0,v1,v2,v3⟩⟩],aC (by omega),by omega,?_,by simp;omega,?_⟩
  ·(simp [*];done)
  (simp_all;done)
 simp [ht,aa,aX] at h1
 cbv
 refine av trv (by simp [ht]) rfl rfl rfl ?_
 (rw [List.drop_eq_nil_of_le (by omega),fA] at j4;simp [ht,tW,j4,aB,j2];done)
theorem Bf (ht:TT t) (name:aH) {l:List Node} {es ps:List (List D)} (aB:es=l.map Node.cells) (hl:l.length<9223372036854775807):
 FC 73 [.agg [SL es,SL ps],ST name] [] (.ret (gm (t _ fun _=>idxOf (fun x=>decide (x.name=name)) l))) []:=by
 simp only [ht];exact L7 ht name aB hl rfl
theorem pJ (ht:TT t) {l:List Node} {es:List (List D)} (aB:es=l.map Node.cells) (hs:l.length<1000000000):
 FC 147 [SL es] [] (.ret (.ow 0 7 (t _ fun _=>(l.map Node.cells).length))) [.row 7 (t _ fun _=>l.map Node.cells)]:=by
 simp only [ht];subst aB
 refine Hs ht ?_ ?_ (by simp)
 ·intro r hr;obtain ⟨y,_,rfl⟩:=List.mem_map.1 hr;rfl
 simp;omega
def dg.aU (_:Th) (x:dg):List D:=[.str x.key,.str x.value]
theorem No (ht:TT t) (c:Int) {l:List (Int×Int)} {es:List (List D)} (aB:es=l.map (fun x=>[D.int .i32 x.1,D.int .i32 x.2])) (f:Nat) (p:Int×Int→Bool) (hl:l.length<9223372036854775807)
 (hf:∀x∈l,FC f [.agg [.d (.int .i32 x.1),.d (.int .i32 x.2)],.ptr 0 0] [.var [.d (.int .i32 c)]] (.ret (BL (p x))) [.var [.d (.int .i32 c)]]) {r:Int} (hr:r=idxOf p l):FC 225 [SL es,.fn f [.ptr 0 0]] [.var [.d (.int .i32 c)]] (.ret (bI r)) [.var [.d (.int .i32 c)]]:=by
 have hel:es.length=l.length:=by rw [aB,lgM]
 obtain ⟨J,hJ⟩:∃J:Nat→Nat→Prop,∀n v,J n v↔(v+n=l.length∧∀i<v,∀x,l[i]?=some x→p x=false):=⟨fun n v=>v+n=l.length∧∀i<v,∀x,l[i]?=some x→p x=false,fun _ _=>Iff.rfl⟩
 refine bH ht (aF:=[.var [.d (.int .i32 c)]]) Tryz.func225 rfl rfl (N:=19) rfl rfl (n:=1) rfl rfl ?_
 cbv
 refine bF ⟨[0,1,7,8],[],[]⟩ (σ:=Nat) (fun k=>[(8,bI (t _ fun _=>(k:Int)))]) (fun _=>[]) J ?_
 cbv
 refine aD ⟨l.length,0,(hJ _ _).2 ⟨by omega,by intro i hi;simp at hi⟩,by simp only [ht];rfl,?_⟩
 rintro n k hj
 obtain ⟨h2,h3⟩:=(hJ _ _).1 hj
 clear hj
 cbv
 refine an (fun h=>?_) (fun h=>?_)
 ·simp only [ht,aa,decide_eq_true_eq] at h
  have hk:k<l.length:=by omega
  obtain ⟨x,hx⟩:∃x,l[k]?=some x:=⟨l[k],by simp⟩
  have mE:x∈l:=List.mem_of_getElem? hx
  have gz:=hf x mE
  obtain ⟨px,hpx⟩:∃b,b=p x:=⟨_,rfl⟩
  rw [←hpx] at gz
  obtain ⟨lo,hi⟩:=x
  cbv
  refine ic [.int .i32 lo,.int .i32 hi] ?_ ?_ ?_
  ·simp only [ht,aa];refine ⟨by omega,h,?_⟩;rw [aB];intro r hr;obtain ⟨y,_,rfl⟩:=List.mem_map.1 hr;rfl
  ·simp [ht,aa,aB,hx]
  cbv
  refine dw trv gz ?_
  cbv
  refine an (fun hb=>?_) (fun hb=>?_)
  ·cbv
   refine av trv trv rfl rfl rfl ?_
   have e:=cV hx (hpx▸hb) h3
   simp only [ht,aa,hr,idxOf,e]
  cbv
  refine aD ⟨n-1,k+1,⟨by omega,(hJ _ _).2 ⟨by omega,?_⟩⟩,?_⟩
  ·intro i hi y hy
   by_cases hik:i<k
   ·exact h3 i hik y hy
   have:i=k:=by omega
   subst this;rw [hx] at hy;cases hy;rw [←hpx];exact hb
  simp only [ht,aa,aC (show k<9223372036854775807 by omega)];rfl
 simp only [ht,aa,decide_eq_false_iff_not] at h
 have hk:¬k<l.length:=by omega
 clear h
 cbv
 refine av trv trv rfl rfl rfl ?_
 rw [hr,idxOf,c7]
 intro i y hy
 have:i<l.length:=by
  rcases Nat.lt_or_ge i l.length with h'|h';· exact h'
  simp [List.getElem?_eq_none h'] at hy
 exact h3 i (by omega) y hy
theorem Np (ht:TT t) (c:Int) {l:List (Int×Int)} {es:List (List D)} (aB:es=l.map (fun x=>[D.int .i32 x.1,D.int .i32 x.2])) (f:Nat) (p:Int×Int→Bool) (hl:l.length<9223372036854775807)
 (hf:∀x∈l,FC f [.agg [.d (.int .i32 x.1),.d (.int .i32 x.2)],.ptr 0 0] [.var [.d (.int .i32 c)]] (.ret (BL (p x))) [.var [.d (.int .i32 c)]]) {r:Bool} (hr:r=l.any p):FC 204 [SL es,.fn f [.ptr 0 0]] [.var [.d (.int .i32 c)]] (.ret (BL r)) [.var [.d (.int .i32 c)]]:=by
 obtain ⟨k,hk⟩:∃k,k=idxOf p l:=⟨_,rfl⟩
 refine bH ht (aF:=[.var [.d (.int .i32 c)]]) Tryz.func204 rfl rfl (N:=9) rfl rfl (n:=1) rfl rfl ?_
 cbv
 refine dw trv (No ht c aB f p hl hf hk) ?_
 cbv
 refine av trv trv rfl rfl rfl ?_
 simp only [ht,hr,fe,hk]
theorem QD (ht:TT t) (c lo hi:Int) {r:Bool} (hr:r=(decide (lo≤c)&&decide (c≤hi))):FC 205 [.agg [.d (.int .i32 lo),.d (.int .i32 hi)],.ptr 0 0] [.var [.d (.int .i32 c)]] (.ret (BL r)) [.var [.d (.int .i32 c)]]:=by
 refine bH ht (aF:=[.var [.d (.int .i32 c)]]) Tryz.func205 rfl rfl (N:=14) rfl rfl (n:=1) rfl rfl ?_
 cbv
 repeat (first|refine gI (by (simp [ht];done)) ?_|refine pI (by (simp [ht];done)) ?_)
 refine av trv trv rfl rfl rfl ?_
 simp [ht,hr]
theorem L8 (ht:TT t) (c:Int) (l:List (Int×Int)) {es:List (List D)} (aB:es=l.map (fun x=>[D.int .i32 x.1,D.int .i32 x.2])) (hl:l.length<9223372036854775807) {r:Bool} (hr:r=GZ c l):FC 171 [.d (.int .i32 c),SL es] [] (.ret (BL r)) []:=by
 refine bH ht (aF:=[]) Tryz.func171 rfl rfl (N:=8) rfl rfl (n:=0) rfl rfl ?_
 cbv
 refine dw trv (Np ht c aB 205 (fun x=>decide (x.1≤c)&&decide (c≤x.2)) hl (fun x _=>QD ht c x.1 x.2 rfl) hr) ?_
 cbv
 exact av trv trv rfl rfl rfl rfl
theorem Tw (ht:TT t) (s:aH) (hs:s.length<9223372036854775807) {r:Int} (hr:r=qV s):FC 206 [ST s] [] (.ret (bI r)) []:=by
 obtain ⟨J,hJ⟩:∃J:Nat→Nat×Nat→Prop,∀n v,J n v↔(s.length≤v.1+n∧v.2+(iF s n v.1).length=qV s):=⟨fun n v=>s.length≤v.1+n∧v.2+(iF s n v.1).length=qV s,fun _ _=>Iff.rfl⟩
 have hc:qV s≤s.length:=AN s _ _
 refine bH ht (aF:=[]) Tryz.func206 rfl rfl (N:=10) rfl rfl (n:=0) rfl rfl ?_
 cbv
 refine bF ⟨[2,4],[],[]⟩ (σ:=Nat×Nat) (fun v=>[(2,bI (t _ fun _=>(v.2:Int)))]) (fun v=>[(0,.it s (t _ fun _=>v.1))]) J ?_
 cbv
 refine aD ⟨s.length,(0,0),(hJ _ _).2 ⟨by simp,by simp [qV,C5]⟩,by simp only [ht];rfl,?_⟩
 rintro n ⟨pos,k⟩ hj
 obtain ⟨hf,hj⟩:=(hJ _ _).1 hj
 cbv
 refine ⟨fun hp=>?_,fun hp=>?_⟩
 ·simp only [ht] at hp hj hf
  cases n with
  |zero=>exfalso;omega
  |succ n=>
  rw [iF,if_pos hp] at hj
  cbv
  refine kM rfl ?_
  cbv
  have hd:=LU s pos hp
  refine aD ⟨n,(pos+(dec s pos).2,k+1),⟨by omega,(hJ _ _).2 ⟨?_,?_⟩⟩,?_⟩
  ·show s.length≤pos+_+n;omega
  ·rw [←hj];simp only [List.length_cons];omega
  simp only [ht,aa,aC (show k<9223372036854775807 by simp at hj;omega)];rfl
 simp only [ht] at hp hj
 cbv
 refine nR rfl ?_
 cbv
 refine av trv trv rfl rfl rfl ?_
 have e:iF s n pos=[]:=by cases n with
  |zero=>rfl
  |succ n=>rw [iF,if_neg hp]
 rw [e] at hj
 simp only [ht,aa,hr,←hj];rfl
theorem QE (ht:TT t) (s:aH) (hs:s.length<9223372036854775807) {r:Int} (hr:r=qV s):FC 172 [ST s] [] (.ret (bI r)) []:=by
 refine bH ht (aF:=[]) Tryz.func172 rfl rfl (N:=5) rfl rfl (n:=0) rfl rfl ?_
 cbv
 refine fU trv (Tw ht s hs hr) trv rfl rfl ?_
 cbv
 exact av trv trv rfl rfl rfl rfl
theorem Bg (ht:TT t) (s:aH) (hs:s.length<9223372036854775807) {r:Bool} (hr:r=eC s):FC 121 [ST s] [] (.ret (BL r)) []:=by
 obtain ⟨J,hJ⟩:∃J:Nat→Nat→Prop,∀n v,J n v↔(s.length≤v+n∧(C5 s).all VP=(iF s n v).all VP):=⟨fun n v=>s.length≤v+n∧(C5 s).all VP=(iF s n v).all VP,fun _ _=>Iff.rfl⟩
 refine bH ht (aF:=[]) Tryz.func121 rfl rfl (N:=32) rfl rfl (n:=0) rfl rfl ?_
 cbv
 refine bF ⟨[0,2,6],[],[]⟩ (σ:=Nat) (fun _=>[]) (fun v=>[(0,.it s (t _ fun _=>v))]) J ?_
 cbv
 refine aD ⟨s.length,0,(hJ _ _).2 ⟨by simp,by simp [C5]⟩,by simp only [ht];rfl,?_⟩
 rintro n pos hj
 obtain ⟨hf,hj⟩:=(hJ _ _).1 hj
 cbv
 refine ⟨fun hp=>?_,fun hp=>?_⟩
 ·simp only [ht] at hp hj hf
  cases n with
  |zero=>exfalso;omega
  |succ n=>
  rw [iF,if_pos hp] at hj
  obtain ⟨b1,xQ⟩:∃b,b=GZ (dec s pos).1 En:=⟨_,rfl⟩
  obtain ⟨b2,uS⟩:∃b,b=GZ (dec s pos).1 marks:=⟨_,rfl⟩
  cbv
  refine kM rfl ?_
  cbv
  refine fU trv (L8 ht _ En rfl (by decide) (r:=b1) (by simp only [ht,aa];exact xQ)) trv rfl rfl ?_
  cbv
  repeat (refine gI (by (simp [ht];done)) ?_)
  refine GM (fun hg=>⟨by simp [ht] at hg ⊢;exact hg,trv,L8 ht _ marks rfl (by decide) (r:=b2) (by simp only [ht,aa];exact uS)⟩) rfl rfl ?_
  cbv
  repeat (first|refine gI (by first|(simp [ht,ah];done)|(simp [ht,ah];intros;simp_all;done)) ?_|refine pI (by (simp [ht];done)) ?_)
  obtain ⟨b,hb⟩:∃b,b=(!b1&&(decide (pos=0)||!b2)):=⟨_,rfl⟩
  have hw:VP (pos,(dec s pos).1)=!b:=by
   simp only [VP,←xQ,←uS,hb];cases b1<;>cases b2<;>simp
  refine an (fun hc=>?_) (fun hc=>?_)
  ·have hbt:b=true:=by rw [hb];simp [ht,aa] at hc;revert hc;cases b1<;>cases b2<;>simp
   cbv
   refine av trv trv rfl rfl rfl ?_
   simp only [List.all_cons,hw,hbt] at hj
   simp [hr,eC,hj]
  have hbf:b=false:=by rw [hb];simp [ht,aa] at hc;revert hc;cases b1<;>cases b2<;>simp
  cbv
  have hd:=LU s pos hp
  refine aD ⟨n,pos+(dec s pos).2,⟨by omega,(hJ _ _).2 ⟨by omega,?_⟩⟩,?_⟩
  ·rw [hj,List.all_cons,hw,hbf];rfl
  simp only [ht];rfl
 simp only [ht] at hp hj
 have e:iF s n pos=[]:=by cases n with
  |zero=>rfl
  |succ n=>rw [iF,if_neg hp]
 rw [e] at hj
 obtain ⟨k,hk⟩:∃k:Int,k=qV s:=⟨_,rfl⟩
 cbv
 refine nR rfl ?_
 cbv
 repeat (refine gI (by (simp [ht];done)) ?_)
 refine GM (fun hg=>⟨by simp [ht] at hg ⊢;exact hg,trv,QE ht s hs hk⟩) rfl rfl ?_
 cbv
 repeat (first|refine gI (by (simp [ht];done)) ?_|refine pI (by (simp [ht];done)) ?_)
 refine av trv trv rfl rfl rfl ?_
 simp only [List.all_nil] at hj
 simp only [ht,aa,hr,eC,hj,hk,Bool.true_and]
 simp
 congr 1
 rw [decide_eq_decide];omega
theorem QF (ht:TT t) (l:List dg) (hl:l.length<9223372036854775807) (nD:∀p∈l,p.sm) {es:List (List D)} (aB:es=l.map dg.cells) {r:Bool} (hr:r=tV l):FC 122 [SL es] [] (.ret (BL r)) []:=by
 have hel:es.length=l.length:=by rw [aB,lgM]
 obtain ⟨J,hJ⟩:∃J:Nat→Nat→Prop,∀n v,J n v↔(v+n=l.length∧jD none l=jD (lB l v) (l.drop v)):=⟨fun n v=>v+n=l.length∧jD none l=jD (lB l v) (l.drop v),fun _ _=>Iff.rfl⟩
 refine bH ht (aF:=[]) Tryz.func122 rfl rfl (N:=41) rfl rfl (n:=0) rfl rfl ?_
 cbv
 refine bF ⟨[0,2,5,6,7],[],[]⟩ (σ:=Nat) (fun k=>[(7,bI (t _ fun _=>(k:Int)))]) (fun _=>[]) J ?_
 cbv
 refine aD ⟨l.length,0,(hJ _ _).2 ⟨by simp,by simp [lB]⟩,by simp only [ht];rfl,?_⟩
 rintro n k hj
 obtain ⟨h2,h3⟩:=(hJ _ _).1 hj
 clear hj
 cbv
 refine an (fun h=>?_) (fun h=>?_)
 ·simp only [ht,aa,decide_eq_true_eq] at h
  have hk:k<l.length:=by omega
  obtain ⟨⟨ky,vl⟩,hx⟩:∃x,l[k]?=some x:=⟨l[k],by simp⟩
  obtain ⟨sk,sv⟩:=nD _ (List.mem_of_getElem? hx)
  obtain ⟨b1,xQ⟩:∃b,b=eC ky:=⟨_,rfl⟩
  obtain ⟨b2,uS⟩:∃b,b=eC vl:=⟨_,rfl⟩
  cbv
  refine ic [.str ky,.str vl] ?_ ?_ ?_
  ·simp only [ht,aa];refine ⟨by omega,h,?_⟩;rw [aB];intro r hr;obtain ⟨y,_,rfl⟩:=List.mem_map.1 hr;rfl
  ·simp [ht,aa,aB,hx]
  cbv
  refine cO [true,true,true,true,true,true,true,true,true,true,true,true,true,true,false,false,false,false,false,false,false,false,true,true,true] (by kernel_rfl) (by kernel_rfl) ?_
  cbv
  refine fU trv (Bg ht ky sk xQ) trv rfl rfl ?_
  cbv
  repeat (refine gI (by (simp [ht];done)) ?_)
  refine GM (fun hg=>⟨by simp [ht] at hg ⊢;exact hg,trv,Bg ht vl sv uS⟩) rfl rfl ?_
  cbv
  obtain ⟨⟨qk,qv⟩,hq⟩:∃q:dg,k≠0→l[k-1]?=some q:=by
   by_cases h0:k=0
   ·exact ⟨⟨[],[]⟩,fun h=>absurd h0 h⟩
   exact ⟨l[k-1],fun _=>by simp⟩
  repeat (first|refine gI (by (simp [ht];done)) ?_|refine pI (by (simp [ht];done)) ?_)
  refine P6 [.str qk,.str qv] ?_ ?_
  ·intro hg
   simp [ht,aa] at hg
   have h0:k≠0:=by omega
   have hw:IntKind.i64.wrap ((k:Int)-1)=((k-1:Nat):Int):=by rw [wrap64 (by omega) (by omega)];omega
   refine ⟨⟨?_,?_⟩,?_⟩
   ·simp [ht,aa];omega
   ·simp only [ht,aa,hw]
    refine ⟨by omega,by omega,?_⟩
    rw [aB];intro r hr;obtain ⟨y,_,rfl⟩:=List.mem_map.1 hr;rfl
   simp [ht,aa,hw,aB,hq h0]
  cbv
  repeat (first|refine gI (by first|(simp [ht,ah];done)|(simp [ht,ah];intros;simp_all;done)) ?_|refine pI (by (simp [ht];done)) ?_)
  obtain ⟨b,hb⟩:∃b,b=(!b1||!b2||(decide (0<k)&&sle ky qk)):=⟨_,rfl⟩
  have hstep:jD (lB l k) (l.drop k)=(!b&&jD (lB l (k+1)) (l.drop (k+1))):=by
   have e1:l.drop k=⟨ky,vl⟩::l.drop (k+1):=by
    rw [List.drop_eq_getElem_cons hk];congr 1
    rw [List.getElem?_eq_getElem hk] at hx;exact Option.some.inj hx
   have e2:lB l (k+1)=some ky:=by simp [lB,hx]
   rw [e1,e2]
   cases k with
   |zero=>simp [jD,lB,←xQ,←uS,hb]
   |succ k=>
    have:=hq (by omega)
    simp only [Nat.add_sub_cancel] at this
    simp [jD,lB,this,←xQ,←uS,hb]
  refine an (fun hc=>?_) (fun hc=>?_)
  ·have hbt:b=true:=by rw [hb];simp [ht,aa,sle] at hc ⊢;revert hc;cases b1<;>cases b2<;>simp
   cbv
   refine av trv trv rfl rfl rfl ?_
   rw [hr,tV,h3,hstep,hbt];rfl
  have hbf:b=false:=by rw [hb];simp [ht,aa,sle] at hc ⊢;revert hc;cases b1<;>cases b2<;>simp
  cbv
  refine aD ⟨n-1,k+1,⟨by omega,(hJ _ _).2 ⟨by omega,?_⟩⟩,?_⟩
  ·rw [h3,hstep,hbf];rfl
  simp only [ht,aa,aC (show k<9223372036854775807 by omega)];rfl
 simp only [ht,aa,decide_eq_false_iff_not] at h
 have hk:k=l.length:=by omega
 clear h
 cbv
 refine av trv trv rfl rfl rfl ?_
 simp only [ht,aa,hel,hr,tV,h3,hk,List.drop_length,jD,Bool.true_and]
 simp
 omega
theorem Bh (ht:TT t) {l:List Node} {ps:List Place} {es qs:List (List D)} (aB:es=l.map Node.cells) (dV:qs=ps.map Place.cells) (hl:l.length<1000000000) (Ed:ps.length<1000000000):
 FC 96 [.agg [SL es,SL qs]] [] (.ret (Qh t (t _ fun _=>l.filterMap (nU l ps)))) []:=by
 refine bH ht (aF:=[]) Tryz.func96 rfl rfl (N:=38) rfl rfl (n:=0) rfl rfl ?_
 cbv
 have ap:es.length=l.length:=by rw [aB,lgM]
 have aI:qs.length=ps.length:=by rw [dV,lgM]
 obtain ⟨J0,dR⟩:∃J0:Nat→List (List D)×Int→Prop,∀n o i,J0 n (o,i)↔(∃(k:Nat) (rs:List bS),i=k∧k+n=l.length∧o=rs.map bS.cells∧rs.length≤k∧l.filterMap (nU l ps)=rs++(l.drop k).filterMap (nU l ps)):=⟨fun n v=>match v with|(o,i)=>(∃(k:Nat) (rs:List bS),i=k∧k+n=l.length∧o=rs.map bS.cells∧rs.length≤k∧l.filterMap (nU l ps)=rs++(l.drop k).filterMap (nU l ps)),fun _ _ _=>Iff.rfl⟩
 refine bF ⟨[1,3,9,10,11],[(3,6)],[]⟩ (σ:=List (List D)×Int) (fun v=>[(3,.ow 1 6 (t _ fun _=>(v.1).length)),(11,.d (.int .i64 (t _ fun _=>v.2)))]) (fun v=>[(1,.row 6 (t _ fun _=>v.1))]) J0 ?_
 cbv
 refine aD ⟨l.length,([],_),(dR _ _ _).2 ?_,by simp only [ht];rfl,?_⟩
 ·exact ⟨0,[],rfl,by simp,rfl,by simp,by simp⟩
 rintro n ⟨o,i⟩ hj
 replace hj:=(dR _ _ _).1 hj
 obtain ⟨k,rs,rfl,j1,j2,j3,j4⟩:=hj
 have YE:o.length=rs.length:=by rw [j2,lgM]
 cbv
 refine an (fun h1=>?_) (fun h1=>?_)
 ·simp [ht,aa,ap] at h1
  cbv
  refine fP ht aB (cT:=Node.aU t) (by (simp only [ht,aa];omega)) (by (simp only [ht,aa];omega)) (fun _=>rfl) (fun _=>(by (simp only [ht,Node.aU];done))) (fun x2 fZ=>?_)
  simp [ht,aa] at fZ
  rw [dU fZ,List.filterMap_cons,nU] at j4
  cbv
  refine aM trv (EI ht _ ‹_› ‹_› (by omega) (by omega)) trv rfl rfl (fun r3 iV=>?_)
  simp only [ht] at iV
  cbv
  iterate 2 refine gI (by simp) ?_
  refine pI (by simp) ?_
  refine an (fun h4=>?_) (fun h4=>?_)
  ·simp [ht] at h4
   cbv
   refine ⟨?_,?_⟩
   ·(simp only [ht,true_and];exact UZ j2 (fun _=>rfl) rfl (by omega) (by decide))
   cbv
   refine bQ (_,_) (by simp only [ht,←List.length_append];rfl) (n-1) ?_ ((dR _ _ _).2 ?_)
   ·omega
   simp only [aa]
   refine ⟨k+1,rs++[⟨(x2).name,(cE (x2).name l ps).1,(x2).labels⟩],aC (by omega),by omega,?_,by simp;omega,?_⟩
   ·(simp [bS.cells, *];done)
   (simp_all;done)
  simp [ht] at h4
  cbv
  refine bQ (_,_) (by simp only [ht];rfl) (n-1) ?_ ((dR _ _ _).2 ?_)
  ·omega
  simp only [aa]
  exact ⟨k+1,rs,aC (by omega),by omega,j2,by omega,by grind⟩
 simp [ht,aa,ap] at h1
 cbv
 refine av trv (by simp [ht]) rfl rfl rfl ?_
 (rw [List.drop_eq_nil_of_le (by omega)] at j4;simp [*];done)
theorem om (ht:TT t) (s:aH) (hs:s.length<9223372036854775807):FC 121 [ST s] [] (.ret (bX (t _ fun _=>eC s))) []:=by
 simp only [ht];exact Bg ht s hs rfl
theorem Dn (ht:TT t) {l:List dg} {es:List (List D)} (aB:es=l.map dg.cells) (hl:l.length<1000000000) (nD:∀p∈l,p.sm):FC 122 [SL es] [] (.ret (bX (t _ fun _=>tV l))) []:=by
 simp only [ht];exact QF ht l (by omega) nD aB rfl
def Term.sm (x:Term):Prop:=x.key.length<9223372036854775807∧x.mI.length<1000000000∧∀v∈x.mI,v.length<9223372036854775807
def prevStr (l:List aH) (k:Nat):Option aH:=match k with
 |0=>none
 |k+1=>l[k]?
theorem tm8 (a:Nat):(a:Int).tmod 8=((a%8:Nat):Int):=by rw [Int.tmod_eq_emod_of_nonneg (by omega)];rfl
theorem aaE (a:Nat):(a:Int).tmod 12=((a%12:Nat):Int):=by rw [Int.tmod_eq_emod_of_nonneg (by omega)];rfl
theorem Xf (a:Nat):(a:Int).tmod 5=((a%5:Nat):Int):=by rw [Int.tmod_eq_emod_of_nonneg (by omega)];rfl
theorem tm4 (a:Nat):(a:Int).tmod 4=((a%4:Nat):Int):=by rw [Int.tmod_eq_emod_of_nonneg (by omega)];rfl
theorem tm3 (a:Nat):(a:Int).tmod 3=((a%3:Nat):Int):=by rw [Int.tmod_eq_emod_of_nonneg (by omega)];rfl
theorem tm2 (a:Nat):(a:Int).tmod 2=((a%2:Nat):Int):=by rw [Int.tmod_eq_emod_of_nonneg (by omega)];rfl
theorem td5 (a:Nat):(a:Int).tdiv 5=((a / 5:Nat):Int):=by rw [Int.tdiv_eq_ediv_of_nonneg (by omega)];rfl
theorem aaH (a:Nat):(a:Int).tdiv 25=((a / 25:Nat):Int):=by rw [Int.tdiv_eq_ediv_of_nonneg (by omega)];rfl
theorem td3 (a:Nat):(a:Int).tdiv 3=((a / 3:Nat):Int):=by rw [Int.tdiv_eq_ediv_of_nonneg (by omega)];rfl
theorem wu8 (a:Nat) (h:a<256):IntKind.u8.wrap (a:Int)=(a:Int):=by simp only [IntKind.wrap];simp [IntKind.bits,IntKind.signed];omega
theorem Ty (a:Nat) (h:a<256):IntKind.u64.wrap (a:Int)=(a:Int):=by simp only [IntKind.wrap];simp [IntKind.bits,IntKind.signed];omega
theorem QG (a:Nat) (h:a<1000000000):IntKind.i64.wrap (a:Int)=(a:Int):=wrap64 (by omega) (by omega)
def aaJ (t:Th) (x:Ask):AV:=.agg [ST x.path,aA x.fK.a,aA x.fK.b,aA x.fK.c,aA x.fK.d,bI x.count,bI x.prio,bI x.fq,SL (t _ fun _=>x.bY.map Term.cells)]
abbrev U8 (x:Int):AV:=.d (.int .u8 x)
def EJ:List (List D):=[[D.str [97]],[D.str [97,47,98]],[D.str [98]],[D.str [206,177,206,178]]]
theorem QH (k:Nat):(0≤((k%4:Nat):Int))∧((k%4:Nat):Int)<EJ.length∧∀r,r∈EJ→r.length=1:=by
 refine ⟨by omega,?_,by decide+revert⟩
 show ((k%4:Nat):Int)<(4:Nat)
 omega
theorem QI (k:Nat):EJ.getD ((k%4:Nat):Int).toNat []=[D.str (Bb.getD (k%4) [])]:=by
 have:∀k<4,EJ.getD ((k:Nat):Int).toNat []=[D.str (Bb.getD k [])]
  |0,_=>rfl
  |1,_=>rfl
  |2,_=>rfl
  |3,_=>rfl
  |k+4,h=>by omega
 exact this _ (Nat.mod_lt _ (by decide))
theorem V3 (ht:TT t) (nm:aH) (a b c d:Int) {lb:List (List D)} (up:Bool) (Xt:aH) (a' b' c' d':Int) {lb':List (List D)} (up':Bool) {r:Bool} (hr:r=!Op.bytesLess Xt nm):
 FC 145 [.agg [ST Xt,aA a',aA b',aA c',aA d',SL lb',BL up'],.ptr 0 0] [.var [ST nm,aA a,aA b,aA c,aA d,SL lb,BL up]] (.ret (BL r)) [.var [ST nm,aA a,aA b,aA c,aA d,SL lb,BL up]]:=by
 refine bH ht (aF:=[.var [ST nm,aA a,aA b,aA c,aA d,SL lb,BL up]]) Tryz.func145 rfl rfl (N:=9) rfl rfl (n:=1) rfl rfl ?_
 cbv
 refine av trv trv rfl rfl rfl ?_
 (simp only [ht,hr];done)
theorem Kf (ht:TT t) (nm:aH) (a b c d:Int) (lb:List (List D)) (up:Bool) {l:List (Node)} {es:List (List D)} (aB:es=l.map Node.cells) (f:Nat) (p:Node→Bool) (hl:l.length<9223372036854775807)
 (hf:∀x∈l,FC f [.agg [.d (.str x.name),.d (.int .u64 x.cap.a),.d (.int .u64 x.cap.b),.d (.int .u64 x.cap.c),.d (.int .u64 x.cap.d),.d (.sl (x.labels.map dg.cells)),.d (.bool x.up)],.ptr 0 0] [.var [ST nm,aA a,aA b,aA c,aA d,SL lb,BL up]] (.ret (BL (p x))) [.var [ST nm,aA a,aA b,aA c,aA d,SL lb,BL up]]) {r:Int} (hr:r=idxOf p l):FC 112 [SL es,.fn f [.ptr 0 0]] [.var [ST nm,aA a,aA b,aA c,aA d,SL lb,BL up]] (.ret (bI r)) [.var [ST nm,aA a,aA b,aA c,aA d,SL lb,BL up]]:=by
 have hel:es.length=l.length:=by rw [aB,lgM]
 obtain ⟨J,hJ⟩:∃J:Nat→Nat→Prop,∀n v,J n v↔(v+n=l.length∧∀i<v,∀x,l[i]?=some x→p x=false):=⟨fun n v=>v+n=l.length∧∀i<v,∀x,l[i]?=some x→p x=false,fun _ _=>Iff.rfl⟩
 refine bH ht (aF:=[.var [ST nm,aA a,aA b,aA c,aA d,SL lb,BL up]]) Tryz.func112 rfl rfl (N:=19) rfl rfl (n:=1) rfl rfl ?_
 cbv
 refine bF ⟨[0,1,7,8],[],[]⟩ (σ:=Nat) (fun k=>[(8,bI (t _ fun _=>(k:Int)))]) (fun _=>[]) J ?_
 cbv
 refine aD ⟨l.length,0,(hJ _ _).2 ⟨by omega,by intro i hi;simp at hi⟩,by simp only [ht];rfl,?_⟩
 rintro n k hj
 obtain ⟨h2,h3⟩:=(hJ _ _).1 hj
 clear hj
 cbv
 refine an (fun h=>?_) (fun h=>?_)
 ·simp only [ht,aa,decide_eq_true_eq] at h
  have hk:k<l.length:=by omega
  obtain ⟨x,hx⟩:∃x,l[k]?=some x:=⟨l[k],by simp⟩
  have mE:x∈l:=List.mem_of_getElem? hx
  have gz:=hf x mE
  obtain ⟨px,hpx⟩:∃b,b=p x:=⟨_,rfl⟩
  rw [←hpx] at gz
  obtain ⟨Xt,⟨a',b',c',d'⟩,lb',up'⟩:=x;obtain ⟨Hz,mz⟩:∃lr:List (List D),lr=lb'.map dg.cells:=⟨_,rfl⟩;simp only [←mz] at gz
  cbv
  refine ic [.str Xt,.int .u64 a',.int .u64 b',.int .u64 c',.int .u64 d',.sl Hz,.bool up'] ?_ ?_ ?_
  ·simp only [ht,aa];refine ⟨by omega,h,?_⟩;rw [aB];intro r hr;obtain ⟨y,_,rfl⟩:=List.mem_map.1 hr;rfl
  ·simp [ht,aa,aB,hx,mz]
  cbv
  refine dw trv gz ?_
  cbv
  refine an (fun hb=>?_) (fun hb=>?_)
  ·cbv
   refine av trv trv rfl rfl rfl ?_
   have e:=cV hx (hpx▸hb) h3
   simp only [ht,aa,hr,idxOf,e]
  cbv
  refine aD ⟨n-1,k+1,⟨by omega,(hJ _ _).2 ⟨by omega,?_⟩⟩,?_⟩
  ·intro i hi y hy
   by_cases hik:i<k
   ·exact h3 i hik y hy
   have:i=k:=by omega
   subst this;rw [hx] at hy;cases hy;rw [←hpx];exact hb
  simp only [ht,aa,aC (show k<9223372036854775807 by omega)];rfl
 simp only [ht,aa,decide_eq_false_iff_not] at h
 have hk:¬k<l.length:=by omega
 clear h
 cbv
 refine av trv trv rfl rfl rfl ?_
 rw [hr,idxOf,c7]
 intro i y hy
 have:i<l.length:=by
  rcases Nat.lt_or_ge i l.length with h'|h';· exact h'
  simp [List.getElem?_eq_none h'] at hy
 exact h3 i (by omega) y hy
theorem tc (ht:TT t) {l:List Node} {x:Node} {k:Nat} {i:Int} {lr:List (List D)} (hi:i=k) (hk:k≤l.length) (hl:l.length<1000000) (hlr:lr=x.labels.map dg.cells):
 FC 146 [.ow 0 7 (t _ fun _=>(l.map Node.cells).length),bI i,.cl [[.str x.name,.int .u64 x.cap.a,.int .u64 x.cap.b,.int .u64 x.cap.c,.int .u64 x.cap.d,.sl lr,.bool x.up]]] [.row 7 (t _ fun _=>l.map Node.cells)] (.ret (SL (t _ fun _=>(l.take k++x::l.drop k).map Node.cells))) [.dead]:=by
 simp only [ht];subst hi hlr
 refine pg (args':=[.ow 0 7 (l.map Node.cells).length,bI k,SL [Node.cells x]]) ?_ (EF ht (by simp) (by simpa using hk) ?_ rfl (by simpa using hl) (by simp))
 ·intro β w ok vs h
  simp only [ak] at h ⊢
  obtain ⟨u1,Zx,rfl,h1,u2,O5,rfl,h2,u3,V5,rfl,h3,h4⟩:=h
  exact ⟨u1,_,rfl,h1,u2,_,rfl,h2,u3,V5,rfl,LV h3,h4⟩
 intro r hr;obtain ⟨y,_,rfl⟩:=List.mem_map.1 hr;rfl
theorem Kg (ht:TT t) {l:List Node} {ps:List Place} {es qs:List (List D)} (aB:es=l.map Node.cells) (dV:qs=ps.map Place.cells) (nm:aH) (a b c d:Int) {lb:List dg} {lr:List (List D)} (hlr:lr=lb.map dg.cells) (up:Bool) (hl:l.length<1000000000) (hn:nm.length<9223372036854775807) (hlb:lb.length<1000000000) (nD:∀p∈lb,p.sm):
 FC 93 [.agg [SL es,SL qs],.agg [ST nm,aA a,aA b,aA c,aA d,SL lr,BL up]] [] (.ret (nw t (t _ fun _=>qW ⟨l,ps⟩ ⟨nm,⟨a,b,c,d⟩,lb,up⟩))) []:=by
 refine bH ht (aF:=[]) Tryz.func93 rfl rfl (N:=51) rfl rfl (n:=0) rfl rfl ?_
 cbv
 have ap:es.length=l.length:=by rw [aB,lgM]
 have aI:qs.length=ps.length:=by rw [dV,lgM]
 have V6:lr.length=lb.length:=by rw [hlr,lgM]
 refine aM trv (om ht _ ‹_›) trv rfl rfl (fun r0 cN=>?_)
 simp only [ht] at cN
 cbv
 refine an (fun h1=>?_) (fun h1=>?_)
 ·simp [ht] at h1
  cbv
  refine av trv trv rfl rfl rfl ?_
  (simp only [ht,qW];grind)
 simp [ht] at h1
 cbv
 refine aM trv (Dn ht ‹_› ‹_› ‹_›) trv rfl rfl (fun r2 fQ=>?_)
 simp only [ht] at fQ
 cbv
 refine an (fun h3=>?_) (fun h3=>?_)
 ·simp [ht] at h3
  cbv
  refine av trv trv rfl rfl rfl ?_
  (simp only [ht,qW];grind)
 simp [ht] at h3
 cbv
 refine aM trv (Bf ht _ ‹_› (by omega)) trv rfl rfl (fun r4 iA=>?_)
 simp only [ht] at iA
 cbv
 refine an (fun h5=>?_) (fun h5=>?_)
 ·simp [ht] at h5
  cbv
  refine av trv trv rfl rfl rfl ?_
  (simp only [ht,qW];grind)
 simp [ht] at h5
 cbv
 refine an (fun h6=>?_) (fun h6=>?_)
 ·simp [ht,aa,ap] at h6
  cbv
  refine av trv trv rfl rfl rfl ?_
  (simp only [ht,qW];grind)
 simp [ht,aa,ap] at h6
 cbv
 (obtain ⟨r9,gK⟩:∃r,r=idxOf (fun o:Node=>!Op.bytesLess o.name nm) l:=⟨_,rfl⟩;refine dx [1] trv rfl rfl (Kf ht nm a b c d lr true aB 145 (fun o:Node=>!Op.bytesLess o.name nm) (by omega) (fun x _=>V3 ht nm a b c d true x.name x.cap.a x.cap.b x.cap.c x.cap.d x.up rfl) gK) (cz ?_);have ec:=cF gK;clear gK;rcases ec with ⟨e1,e2,e3⟩|⟨i,x,hi,hil,e1,e2,e3,e4⟩)
 ·cbv
  refine an (fun h7=>?_) (fun h7=>?_)
  ·simp [ht] at h7
   cbv
   refine cO [false,false,false,false,false,false,true,true,true] (by kernel_rfl) (by kernel_rfl) ?_
   cbv
   iterate 2 refine gI (by simp) ?_
   refine .inr (GN trv (pJ ht ‹_› ‹_›) trv rfl (.inr rfl) rfl ?_)
   cbv
   iterate 3 refine gI (by simp) ?_
   refine dx [3] trv rfl rfl (tc ht (l:=l) (x:=⟨nm,⟨a,b,c,d⟩,lb,true⟩) (k:=pat l nm) (by (simp [ht,pat,e2,ap];done)) (by (simp [pat,e2];done)) (by simp only [aa] at*;omega) hlr) (cz ?_)
   cbv
   refine av trv trv rfl rfl rfl ?_
   (simp only [ht,qW];grind)
  simp [ht] at h7
  omega
 cbv
 refine an (fun h8=>?_) (fun h8=>?_)
 ·simp [ht] at h8
  (simp only [aa] at*;omega)
 simp [ht] at h8
 cbv
 refine cO [false,false,false,false,false,false,true,true,true] (by kernel_rfl) (by kernel_rfl) ?_
 cbv
 iterate 2 refine gI (by simp) ?_
 refine .inr (GN trv (pJ ht ‹_› ‹_›) trv rfl (.inr rfl) rfl ?_)
 cbv
 iterate 3 refine gI (by simp) ?_
 refine dx [3] trv rfl rfl (tc ht (l:=l) (x:=⟨nm,⟨a,b,c,d⟩,lb,true⟩) (k:=pat l nm) (by (simp only [pat,e3];exact hi)) (by (simp only [pat,e3];omega)) (by simp only [aa] at*;omega) hlr) (cz ?_)
 cbv
 refine av trv trv rfl rfl rfl ?_
 (simp only [ht,qW];grind)
def QJ (t:Th) (x:Ct):AV:=.agg [aA x.first,SL (t _ fun _=>x.l.map dQ.cells)]
theorem Bk (ht:TT t) {es:List (List D)} (hr:∀r∈es,r.length=3):FC 164 [SL es] [] (.ret (.cl es)) []:=by
 refine bH ht (aF:=[]) Tryz.func164 rfl rfl (N:=9) rfl rfl (n:=0) rfl rfl ?_
 cbv
 refine ⟨?_,JE trv rfl ?_⟩
 ·simp only [ht,aa,bO];exact ⟨⟨⟨by omega,Int.le_refl _⟩,trv⟩,hr⟩
 simp [ht,aa,iB]
theorem Tz (ht:TT t) (first rd id kd:Int):
 FC 110 [.agg [aA first,SL []],.agg [aA rd,aA id,bI kd]] [] (.ret (QJ t (t _ fun _=>tell ⟨first,[]⟩ ⟨rd,id,kd⟩))) []:=by
 refine bH ht (aF:=[]) Tryz.func110 rfl rfl (N:=25) rfl rfl (n:=0) rfl rfl ?_
 cbv
 refine cO [false,false,false,false,false,true,true,true] (by kernel_rfl) (by kernel_rfl) ?_
 cbv
 iterate 2 refine gI (by simp) ?_
 refine .inl ?_
 (refine nv (fun g=>⟨trv,trv,Bk ht (by simp)⟩) rfl rfl rfl ?_)
 cbv
 iterate 2 refine gI (by simp) ?_
 refine ⟨?_,?_⟩
 ·(simp [ht];done)
 refine ⟨?_,?_⟩
 ·(simp [ht];done)
 cbv
 refine an (fun h0=>?_) (fun h0=>?_)
 ·simp [ht] at h0
 simp [ht] at h0
 cbv
 refine av trv (by simp [ht]) rfl rfl rfl ?_
 (simp [ht,tell,dQ.cells];done)
theorem TA (ht:TT t) (first rd id kd:Int) (e0:List D) (er:List (List D)) {l:List dQ} (aB:e0::er=l.map dQ.cells) (hl:l.length<1000000):
 FC 110 [.agg [aA first,SL (e0::er)],.agg [aA rd,aA id,bI kd]] [] (.ret (QJ t (t _ fun _=>tell ⟨first,l⟩ ⟨rd,id,kd⟩))) []:=by
 have hr:∀r∈e0::er,r.length=3:=by rw [aB];intro r hr;obtain ⟨y,_,rfl⟩:=List.mem_map.1 hr;rfl
 have hle:(e0::er).length=l.length:=by rw [aB,lgM]
 refine bH ht (aF:=[]) Tryz.func110 rfl rfl (N:=25) rfl rfl (n:=0) rfl rfl ?_
 cbv
 refine cO [false,false,false,false,false,true,true,true] (by kernel_rfl) (by kernel_rfl) ?_
 cbv
 iterate 2 refine gI (by simp) ?_
 refine .inl ?_
 (refine nv (fun g=>⟨trv,trv,Bk ht hr⟩) rfl rfl rfl ?_)
 cbv
 iterate 2 refine gI (by simp) ?_
 refine ⟨?_,?_⟩
 ·(simp only [ht];grind)
 refine ⟨?_,?_⟩
 ·(simp [ht];done)
 cbv
 refine an (fun h0=>?_) (fun h0=>?_)
 ·simp [ht,aa] at h0
  cbv
  refine ⟨?_,?_⟩
  ·(simp only [ht,bO];refine ⟨by simp,⟨by omega,by simp;omega⟩,?_⟩;intro r h;rcases List.mem_append.1 h with h|h;exact hr r h;simp at h;subst h;rfl)
  cbv
  refine av trv trv rfl rfl rfl ?_
  (simp only [aa] at h0;simp only [List.length_cons] at hle;have tl:tell ⟨first,l⟩ ⟨rd,id,kd⟩=⟨u64 (first+1),(l++[(⟨rd,id,kd⟩:dQ)]).drop 1⟩:=(by unfold tell;rw [if_pos (by simp only [List.length_append,List.length_cons,List.length_nil];omega)]);simp only [ht,tl,aB,iB,u64,ph];rw [List.map_drop,List.map_append];rfl)
 simp [ht,aa] at h0
 cbv
 refine av trv (by simp [ht]) rfl rfl rfl ?_
 (simp only [aa] at h0;simp only [List.length_cons] at hle;have tl:tell ⟨first,l⟩ ⟨rd,id,kd⟩=⟨first,l++[(⟨rd,id,kd⟩:dQ)]⟩:=(by unfold tell;rw [if_neg (by simp only [List.length_append,List.length_cons,List.length_nil];omega)]);simp only [ht,tl,aB];rw [List.map_append];rfl)
theorem TB (ht:TT t) (first rd id kd:Int) {l:List dQ} {es:List (List D)} (aB:es=l.map dQ.cells) (hl:l.length<1000000):
 FC 110 [.agg [aA first,SL es],.agg [aA rd,aA id,bI kd]] [] (.ret (QJ t (t _ fun _=>tell ⟨first,l⟩ ⟨rd,id,kd⟩))) []:=by
 cases l with
 |nil=>subst aB;exact Tz ht first rd id kd
 |cons x l=>subst aB;exact TA ht first rd id kd _ _ rfl hl
theorem HA {l:List aH} {k:Nat} {x:aH}:Er (prevStr l k) x=(decide (k=0)||match l[k-1]? with|none=>true|some y=>!sle x y):=by
 cases k with
 |zero=>rfl
 |succ k=>simp only [prevStr,Er];cases h:l[k]?<;>simp [h]
theorem Ns (ht:TT t) (k:aH) (n:Bool) {vs:List aH} {vr:List (List D)} (HB:vr=vs.map bu) (hk:k.length<9223372036854775807) (hl:vs.length<1000000000) (hs:∀v∈vs,v.length<9223372036854775807):
 FC 208 [.agg [ST k,BL n,SL vr]] [] (.ret (bX (t _ fun _=>mright ⟨k,n,vs⟩))) []:=by
 refine bH ht (aF:=[]) Tryz.func208 rfl rfl (N:=40) rfl rfl (n:=0) rfl rfl ?_
 cbv
 have wP:vr.length=vs.length:=by rw [HB,lgM]
 obtain ⟨J0,dR⟩:∃J0:Nat→Int→Prop,∀n i,J0 n i↔(∃q:Nat,i=q∧q+n=vs.length∧yh none vs=yh (prevStr vs q) (vs.drop q)):=⟨fun n v=>match v with|i=>(∃q:Nat,i=q∧q+n=vs.length∧yh none vs=yh (prevStr vs q) (vs.drop q)),fun _ _=>Iff.rfl⟩
 refine bF ⟨[1,6,7,8],[],[]⟩ (σ:=Int) (fun v=>[(8,.d (.int .i64 (t _ fun _=>v)))]) (fun v=>[]) J0 ?_
 cbv
 refine aD ⟨vs.length,_,(dR _ _).2 ?_,by simp only [ht];rfl,?_⟩
 ·exact ⟨0,rfl,by simp,by simp [prevStr]⟩
 rintro n i hj
 replace hj:=(dR _ _).1 hj
 obtain ⟨k,rfl,j1,j4⟩:=hj
 cbv
 refine an (fun h1=>?_) (fun h1=>?_)
 ·simp [ht,aa,wP] at h1
  cbv
  refine fP ht HB (cT:=eA t) (by (simp only [ht,aa];omega)) (by (simp only [ht,aa];omega)) (fun _=>rfl) (fun _=>rfl) (fun x2 fZ=>?_)
  simp [ht,aa] at fZ
  simp only [dU fZ,yh] at j4
  have sx2:=hs _ (List.mem_of_getElem? fZ)
  cbv
  refine aM trv (om ht _ ‹_›) trv rfl rfl (fun r3 iV=>?_)
  simp only [ht] at iV
  cbv
  iterate 8 refine gI (by simp [ht]) ?_
  (refine G1 ht HB (cT:=eA t) (k-1) (fun g=>by simp [ht,aa] at g ⊢;simp [g]) (fun g=>by simp [ht,aa] at g;simp only [ht,aa];exact ⟨pe (by omega) (by omega),by omega⟩) (fun _=>rfl) (fun _=>by simp only [eA]) (fun y my=>?_);simp [ht,aa] at my)
  cbv
  iterate 2 refine gI (by simp [ht]) ?_
  refine gI (by simp [ht,ah];intros;simp_all) ?_
  refine pI (by simp [ht]) ?_
  refine an (fun h4=>?_) (fun h4=>?_)
  ·simp [ht,aa] at h4
   cbv
   refine av trv trv rfl rfl rfl ?_
   (simp only [ht];rw [HA] at j4;grind [mright,sle])
  simp [ht,aa] at h4
  cbv
  refine bQ _ (by simp only [ht];rfl) (n-1) ?_ ((dR _ _).2 ?_)
  ·omega
  simp only [aa]
  refine ⟨k+1,aC (by omega),by omega,?_⟩
  (rw [HA] at j4;simp only [prevStr];rw [fZ];grind [sle])
 simp [ht,aa,wP] at h1
 cbv
 refine aM trv (om ht _ ‹_›) trv rfl rfl (fun r5 pH=>?_)
 simp only [ht] at pH
 cbv
 iterate 4 refine gI (by simp) ?_
 refine pI (by simp) ?_
 refine av trv trv rfl rfl rfl ?_
 (rw [List.drop_eq_nil_of_le (by omega),yh] at j4;have e:decide ((vs.length:Int)≤4)=decide (vs.length≤4):=(by rw [decide_eq_decide];omega);simp [ht,aa,mright,j4,pH,wP,e];done)
theorem Nt (ht:TT t) {l:List (Term)} {es:List (List D)} (aB:es=l.map Term.cells) (f:Nat) (p:Term→Bool) (hl:l.length<9223372036854775807)
 (hf:∀x∈l,FC f [.agg [ST x.key,BL x.no,SL (x.mI.map bu)]] [] (.ret (BL (p x))) []) {r:Int} (hr:r=idxOf p l):FC 114 [SL es,.fn f []] [] (.ret (bI r)) []:=by
 have hel:es.length=l.length:=by rw [aB,lgM]
 obtain ⟨J,hJ⟩:∃J:Nat→Nat→Prop,∀n v,J n v↔(v+n=l.length∧∀i<v,∀x,l[i]?=some x→p x=false):=⟨fun n v=>v+n=l.length∧∀i<v,∀x,l[i]?=some x→p x=false,fun _ _=>Iff.rfl⟩
 refine bH ht (aF:=[]) Tryz.func114 rfl rfl (N:=19) rfl rfl (n:=0) rfl rfl ?_
 cbv
 refine bF ⟨[0,1,7,8],[],[]⟩ (σ:=Nat) (fun k=>[(8,bI (t _ fun _=>(k:Int)))]) (fun _=>[]) J ?_
 cbv
 refine aD ⟨l.length,0,(hJ _ _).2 ⟨by omega,by intro i hi;simp at hi⟩,by simp only [ht];rfl,?_⟩
 rintro n k hj
 obtain ⟨h2,h3⟩:=(hJ _ _).1 hj
 clear hj
 cbv
 refine an (fun h=>?_) (fun h=>?_)
 ·simp only [ht,aa,decide_eq_true_eq] at h
  have hk:k<l.length:=by omega
  obtain ⟨x,hx⟩:∃x,l[k]?=some x:=⟨l[k],by simp⟩
  have mE:x∈l:=List.mem_of_getElem? hx
  have gz:=hf x mE
  obtain ⟨px,hpx⟩:∃b,b=p x:=⟨_,rfl⟩
  rw [←hpx] at gz
  obtain ⟨a,b,c⟩:=x;obtain ⟨Hz,mz⟩:∃lr:List (List D),lr=c.map bu:=⟨_,rfl⟩;simp only [←mz] at gz
  cbv
  refine ic [.str a,.bool b,.sl Hz] ?_ ?_ ?_
  ·simp only [ht,aa];refine ⟨by omega,h,?_⟩;rw [aB];intro r hr;obtain ⟨y,_,rfl⟩:=List.mem_map.1 hr;rfl
  ·simp [ht,aa,aB,hx,mz,Term.cells]
  cbv
  refine dw trv gz ?_
  cbv
  refine an (fun hb=>?_) (fun hb=>?_)
  ·cbv
   refine av trv trv rfl rfl rfl ?_
   have e:=cV hx (hpx▸hb) h3
   simp only [ht,aa,hr,idxOf,e]
  cbv
  refine aD ⟨n-1,k+1,⟨by omega,(hJ _ _).2 ⟨by omega,?_⟩⟩,?_⟩
  ·intro i hi y hy
   by_cases hik:i<k
   ·exact h3 i hik y hy
   have:i=k:=by omega
   subst this;rw [hx] at hy;cases hy;rw [←hpx];exact hb
  simp only [ht,aa,aC (show k<9223372036854775807 by omega)];rfl
 simp only [ht,aa,decide_eq_false_iff_not] at h
 have hk:¬k<l.length:=by omega
 clear h
 cbv
 refine av trv trv rfl rfl rfl ?_
 rw [hr,idxOf,c7]
 intro i y hy
 have:i<l.length:=by
  rcases Nat.lt_or_ge i l.length with h'|h';· exact h'
  simp [List.getElem?_eq_none h'] at hy
 exact h3 i (by omega) y hy
theorem Nu (ht:TT t) {l:List (Term)} {es:List (List D)} (aB:es=l.map Term.cells) (f:Nat) (p:Term→Bool) (hl:l.length<9223372036854775807)
 (hf:∀x∈l,FC f [.agg [ST x.key,BL x.no,SL (x.mI.map bu)]] [] (.ret (BL (p x))) []) {r:Bool} (hr:r=l.any p):FC 74 [SL es,.fn f []] [] (.ret (BL r)) []:=by
 obtain ⟨k,hk⟩:∃k,k=idxOf p l:=⟨_,rfl⟩
 refine bH ht (aF:=[]) Tryz.func74 rfl rfl (N:=9) rfl rfl (n:=0) rfl rfl ?_
 cbv
 refine dw trv (Nt ht aB f p hl hf hk) ?_
 cbv
 refine av trv trv rfl rfl rfl ?_
 simp only [ht,hr,fe,hk]
theorem Kh (ht:TT t) (k:aH) (n:Bool) {vs:List aH} {vr:List (List D)} (HB:vr=vs.map bu) (hk:k.length<9223372036854775807) (hl:vs.length<1000000000) (hs:∀v∈vs,v.length<9223372036854775807):
 FC 207 [.agg [ST k,BL n,SL vr]] [] (.ret (bX (t _ fun _=>!mright ⟨k,n,vs⟩))) []:=by
 refine bH ht (aF:=[]) Tryz.func207 rfl rfl (N:=6) rfl rfl (n:=0) rfl rfl ?_
 cbv
 have wP:vr.length=vs.length:=by rw [HB,lgM]
 refine aM trv (Ns ht _ _ ‹_› ‹_› ‹_› ‹_›) trv rfl rfl (fun r0 cN=>?_)
 simp only [ht] at cN
 cbv
 refine av trv trv rfl rfl rfl ?_
 (simp [*];done)
theorem HC (ht:TT t) {l:List Term} {es:List (List D)} (aB:es=l.map Term.cells) (hl:l.length<1000000000) (nD:∀x∈l,x.sm):
 FC 74 [SL es,.fn 207 []] [] (.ret (bX (t _ fun _=>l.any fun x=>!mright x))) []:=by
 simp only [ht];exact Nu ht aB _ _ (by omega) (fun x hx=>by have h:=Kh ht x.key x.no (vs:=x.mI) rfl (nD x hx).1 (nD x hx).2.1 (nD x hx).2.2;simp only [ht,bX] at h;exact h) rfl
theorem Nv (ht:TT t) {l:List Term} {es:List (List D)} (aB:es=l.map Term.cells) (hl:l.length<1000000000) (nD:∀x∈l,x.sm):
 FC 177 [SL es] [] (.ret (bX (t _ fun _=>AP l))) []:=by
 refine bH ht (aF:=[]) Tryz.func177 rfl rfl (N:=11) rfl rfl (n:=0) rfl rfl ?_
 cbv
 have ap:es.length=l.length:=by rw [aB,lgM]
 refine gI (by simp [ht]) ?_
 refine bJ (fun g0=>⟨by simp [ht] at g0 ⊢;exact g0,trv,HC ht ‹_› ‹_› ‹_›⟩) rfl rfl (fun r1 dL=>?_)
 simp only [ht] at dL
 cbv
 refine gI (by simp [ht]) ?_
 refine pI (by simp [ht]) ?_
 refine av trv trv rfl rfl rfl ?_
 (simp only [ht,aa,AP];grind)
end Dem
end
