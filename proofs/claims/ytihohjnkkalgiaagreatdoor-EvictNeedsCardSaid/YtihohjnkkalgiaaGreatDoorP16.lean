/- Parts of a proof, joined. -/
import Derived.Test.YtihohjnkkalgiaaGreatDoorP15
import Derived.Laws.Externs
set_option linter.all false
set_option maxRecDepth 100000
set_option maxHeartbeats 4000000
section
open Go Dem Go.Proofs
namespace Dem
variable {t:Th}
theorem PD (x y:Int) {r s:Int} (hr:r=(((x.toNat+y.toNat)%18446744073709551616:Nat):Int)) (hs:s=(((x.toNat+y.toNat) / 18446744073709551616:Nat):Int)):
 FC 212 [.d (.int .u64 x),.d (.int .u64 y),.d (.int .u64 0)] [] (.ret (.dL [.d (.int .u64 r),.d (.int .u64 s)])) []:=by
 refine VI Tryz.func212 (by kernel_rfl) (by kernel_rfl) (by kernel_rfl) (e:=add64Entry) (by kernel_rfl) ?_
 intro β w vs ok h
 simp only [ak,aj,aF] at h
 obtain ⟨_,_,rfl,rfl,_,_,rfl,rfl,_,_,rfl,rfl,rfl⟩:=h
 refine ⟨.tuple #[.int .u64 r,.int .u64 s],?_,?_⟩
 ·subst hr hs;rfl
 simp only [aj,ak,aF];exact ⟨_,rfl,_,_,rfl,rfl,_,_,rfl,rfl,rfl⟩
def Sa:Array Value→Sem Value:=fun args=>do
 let (x,y,b) ←Extern.MathBitsCarry.three "Sub64" args
 pure (Extern.MathBitsCarry.pair ((x+Extern.MathBitsCarry.m64-y-b)%Extern.MathBitsCarry.m64) (if x<y+b then 1 else 0))
theorem PE (x y:Int) {r s:Int} (hr:r=(((x.toNat+18446744073709551616-y.toNat)%18446744073709551616:Nat):Int)) (hs:s=((if x.toNat<y.toNat then 1 else 0:Nat):Int)):
 FC 224 [.d (.int .u64 x),.d (.int .u64 y),.d (.int .u64 0)] [] (.ret (.dL [.d (.int .u64 r),.d (.int .u64 s)])) []:=by
 refine VI Tryz.func224 (by kernel_rfl) (by kernel_rfl) (by kernel_rfl) (e:=Sa) (by kernel_rfl) ?_
 intro β w vs ok h
 simp only [ak,aj,aF] at h
 obtain ⟨_,_,rfl,rfl,_,_,rfl,rfl,_,_,rfl,rfl,rfl⟩:=h
 refine ⟨.tuple #[.int .u64 r,.int .u64 s],?_,?_⟩
 ·subst hr hs;rfl
 simp only [aj,ak,aF];exact ⟨_,rfl,_,_,rfl,rfl,_,_,rfl,rfl,rfl⟩
theorem JY (ht:TT t) (x y:Int) {r:Int} {ok:Bool} (h:(r,ok)=Ew x y):
 FC 183 [.d (.int .u64 x),.d (.int .u64 y)] [] (.ret (.dL [.d (.int .u64 r),.d (.bool ok)])) []:=by
 obtain ⟨a,ha⟩:∃a:Int,a=(((x.toNat+y.toNat)%18446744073709551616:Nat):Int):=⟨_,rfl⟩
 obtain ⟨b,hb⟩:∃b:Int,b=(((x.toNat+y.toNat) / 18446744073709551616:Nat):Int):=⟨_,rfl⟩
 refine bL ht (aI:=[]) Tryz.func183 rfl rfl (N:=17) rfl rfl (n:=0) rfl rfl ?_
 cbv
 refine fO trv (PD x y ha hb) trv rfl rfl ?_
 cbv
 refine an (fun hc=>?_) (fun hc=>?_)
 ·cbv
  refine ax trv trv rfl rfl rfl ?_
  simp only [ht,aa,Bool.not_eq_true',decide_eq_false_iff_not] at hc ha hb
  simp only [Ew] at h
  rw [if_neg (by omega)] at h
  cases h;rfl
 cbv
 refine ax trv trv rfl rfl rfl ?_
 simp only [ht,aa,Bool.not_eq_false',decide_eq_true_eq] at hc ha hb
 simp only [Ew] at h
 rw [if_pos (by omega)] at h
 cases h
 rw [ha,Nat.mod_eq_of_lt (by omega)]
theorem JZ (ht:TT t) (x y:Int) {r:Int} {ok:Bool} (h:(r,ok)=Ey x y):
 FC 203 [.d (.int .u64 x),.d (.int .u64 y)] [] (.ret (.dL [.d (.int .u64 r),.d (.bool ok)])) []:=by
 obtain ⟨a,ha⟩:∃a:Int,a=(((x.toNat+18446744073709551616-y.toNat)%18446744073709551616:Nat):Int):=⟨_,rfl⟩
 obtain ⟨b,hb⟩:∃b:Int,b=((if x.toNat<y.toNat then 1 else 0:Nat):Int):=⟨_,rfl⟩
 refine bL ht (aI:=[]) Tryz.func203 rfl rfl (N:=17) rfl rfl (n:=0) rfl rfl ?_
 cbv
 refine fO trv (PE x y ha hb) trv rfl rfl ?_
 cbv
 refine an (fun hc=>?_) (fun hc=>?_)
 ·cbv
  refine ax trv trv rfl rfl rfl ?_
  simp only [ht,aa,Bool.not_eq_true',decide_eq_false_iff_not] at hc ha hb
  simp only [Ey] at h
  by_cases hlt:x.toNat<y.toNat
  ·rw [if_pos hlt] at h;cases h;rfl
  rw [if_neg hlt] at hb;exact absurd (by rw [hb];rfl) hc
 cbv
 refine ax trv trv rfl rfl rfl ?_
 simp only [ht,aa,Bool.not_eq_false',decide_eq_true_eq] at hc ha hb
 simp only [Ey] at h
 by_cases hlt:x.toNat<y.toNat
 ·rw [if_pos hlt] at hb;rw [hb] at hc;exact absurd hc (by decide)
 rw [if_neg hlt] at h;cases h
 have e:(x.toNat+18446744073709551616-y.toNat)%18446744073709551616=(x.toNat-y.toNat)%18446744073709551616:=by omega
 rw [ha,e]
theorem MZ (ht:TT t) (a0 a1 a2 a3 b0 b1 b2 b3:Int) (op:Int→Int→Int×Bool) (F:Nat) (hop:∀(x y r:Int) (ok:Bool),(r,ok)=op x y→FC F [.d (.int .u64 x),.d (.int .u64 y)] [] (.ret (.dL [.d (.int .u64 r),.d (.bool ok)])) [])
 {r0 r1 r2 r3:Int} {ok:Bool} (h:(⟨r0,r1,r2,r3⟩,ok)=both op ⟨a0,a1,a2,a3⟩ ⟨b0,b1,b2,b3⟩):
 FC 167 [.agg [.d (.int .u64 a0),.d (.int .u64 a1),.d (.int .u64 a2),.d (.int .u64 a3)],.agg [.d (.int .u64 b0),.d (.int .u64 b1),.d (.int .u64 b2),.d (.int .u64 b3)],.fn F []] []
  (.ret (.dL [.agg [.d (.int .u64 r0),.d (.int .u64 r1),.d (.int .u64 r2),.d (.int .u64 r3)],.d (.bool ok)])) []:=by
 obtain ⟨⟨s0,k0⟩,e0⟩:∃s,s=op a0 b0:=⟨_,rfl⟩
 obtain ⟨⟨s1,k1⟩,e1⟩:∃s,s=op a1 b1:=⟨_,rfl⟩
 obtain ⟨⟨s2,k2⟩,e2⟩:∃s,s=op a2 b2:=⟨_,rfl⟩
 obtain ⟨⟨s3,k3⟩,e3⟩:∃s,s=op a3 b3:=⟨_,rfl⟩
 have h0:(k0&&k1&&k2&&k3)=false→r0=0∧r1=0∧r2=0∧r3=0∧ok=false:=by
  intro hk;simp only [both,←e0,←e1,←e2,←e3] at h;rw [if_neg (by rw [hk];simp)] at h;cases h;exact ⟨rfl,rfl,rfl,rfl,rfl⟩
 have h1:(k0&&k1&&k2&&k3)=true→r0=s0∧r1=s1∧r2=s2∧r3=s3∧ok=true:=by
  intro hk;simp only [both,←e0,←e1,←e2,←e3] at h;rw [if_pos hk] at h;cases h;exact ⟨rfl,rfl,rfl,rfl,rfl⟩
 clear h
 have fin:∀{bx:List ay},(k0&&k1&&k2&&k3)=false→Em 0 True (AV.dL [.agg [.d (.int .u64 0),.d (.int .u64 0),.d (.int .u64 0),.d (.int .u64 0)],.d (.bool false)]) bx (some (True,AV.dL [.agg [.d (.int .u64 0),.d (.int .u64 0),.d (.int .u64 0),.d (.int .u64 0)],.d (.bool false)]))
  (.ret (.dL [.agg [.d (.int .u64 r0),.d (.int .u64 r1),.d (.int .u64 r2),.d (.int .u64 r3)],.d (.bool ok)])) []:=by
  intro bx hk
  obtain ⟨rfl,rfl,rfl,rfl,rfl⟩:=h0 hk
  exact ax trv trv rfl rfl rfl rfl
 refine bL ht (aI:=[]) Tryz.func167 rfl rfl (N:=34) rfl rfl (n:=0) rfl rfl ?_
 cbv
 refine bI ⟨[2,3,4,6,12,13],[],[]⟩ (σ:=Nat) (fun j=>[(13,.d (.int .i64 j))]) (fun j=>[(0,.var [.d (.int .u64 (bif Nat.blt 0 j then s0 else a0)),.d (.int .u64 (bif Nat.blt 1 j then s1 else a1)),.d (.int .u64 (bif Nat.blt 2 j then s2 else a2)),.d (.int .u64 (bif Nat.blt 3 j then s3 else a3))])])
  (fun n j=>n+j=4∧(0<j→k0=true)∧(1<j→k1=true)∧(2<j→k2=true)∧(3<j→k3=true)) ?_
 cbv
 refine aC ⟨4,0,⟨rfl,by omega,by omega,by omega,by omega⟩,rfl,?_⟩
 rintro n j ⟨hn,g0,g1,g2,g3⟩
 have hj:j=0∨j=1∨j=2∨j=3∨j=4:=by omega
 rcases hj with rfl|rfl|rfl|rfl|rfl
 ·cbv
  refine jX (by simp [ht]) ?_
  cbv
  refine ⟨by simp [ht],by simp [ht],fO trv (hop _ _ _ _ e0) trv rfl rfl ?_⟩
  cbv
  refine an (fun hc=>?_) (fun hc=>?_)
  ·simp only [ht,Bool.not_eq_true'] at hc
   cbv
   exact fin (by simp [hc])
  simp only [ht,Bool.not_eq_false'] at hc
  cbv
  refine ⟨by simp [ht],?_⟩
  trace_state
  refine aC ⟨3-0,0+1,⟨⟨by omega,by omega,by simp_all,by simp_all,by simp_all,by simp_all⟩,?_⟩⟩
  simp only [ht];rfl
 ·cbv
  refine jX (by simp [ht]) ?_
  cbv
  refine ⟨by simp [ht],by simp [ht],fO trv (hop _ _ _ _ e1) trv rfl rfl ?_⟩
  cbv
  refine an (fun hc=>?_) (fun hc=>?_)
  ·simp only [ht,Bool.not_eq_true'] at hc
   cbv
   exact fin (by simp [hc])
  simp only [ht,Bool.not_eq_false'] at hc
  cbv
  refine ⟨by simp [ht],?_⟩
  trace_state
  refine aC ⟨3-1,1+1,⟨⟨by omega,by omega,by simp_all,by simp_all,by simp_all,by simp_all⟩,?_⟩⟩
  simp only [ht];rfl
 ·cbv
  refine jX (by simp [ht]) ?_
  cbv
  refine ⟨by simp [ht],by simp [ht],fO trv (hop _ _ _ _ e2) trv rfl rfl ?_⟩
  cbv
  refine an (fun hc=>?_) (fun hc=>?_)
  ·simp only [ht,Bool.not_eq_true'] at hc
   cbv
   exact fin (by simp [hc])
  simp only [ht,Bool.not_eq_false'] at hc
  cbv
  refine ⟨by simp [ht],?_⟩
  trace_state
  refine aC ⟨3-2,2+1,⟨⟨by omega,by omega,by simp_all,by simp_all,by simp_all,by simp_all⟩,?_⟩⟩
  simp only [ht];rfl
 ·cbv
  refine jX (by simp [ht]) ?_
  cbv
  refine ⟨by simp [ht],by simp [ht],fO trv (hop _ _ _ _ e3) trv rfl rfl ?_⟩
  cbv
  refine an (fun hc=>?_) (fun hc=>?_)
  ·simp only [ht,Bool.not_eq_true'] at hc
   cbv
   exact fin (by simp [hc])
  simp only [ht,Bool.not_eq_false'] at hc
  cbv
  refine ⟨by simp [ht],?_⟩
  trace_state
  refine aC ⟨3-3,3+1,⟨⟨by omega,by omega,by simp_all,by simp_all,by simp_all,by simp_all⟩,?_⟩⟩
  simp only [ht];rfl
 cbv
 refine mU (by simp [ht]) ?_
 cbv
 obtain ⟨rfl,rfl,rfl,rfl,rfl⟩:=h1 (by simp [g0,g1,g2,g3])
 exact ax trv trv rfl rfl rfl rfl
theorem Sb (ht:TT t) (a0 a1 a2 a3 b0 b1 b2 b3:Int) {r0 r1 r2 r3:Int} {ok:Bool} (h:(⟨r0,r1,r2,r3⟩,ok)=mV ⟨a0,a1,a2,a3⟩ ⟨b0,b1,b2,b3⟩):
 FC 137 [V4 a0 a1 a2 a3,V4 b0 b1 b2 b3] [] (.ret (.dL [V4 r0 r1 r2 r3,BL ok])) []:=by
 refine bL ht (aI:=[]) Tryz.func137 rfl rfl (N:=11) rfl rfl (n:=0) rfl rfl ?_
 cbv
 refine fO trv (MZ ht _ _ _ _ _ _ _ _ Ew 183 (fun x y r ok=>JY ht x y) h) trv rfl rfl ?_
 cbv
 exact ax trv trv rfl rfl rfl rfl
theorem Cw (ht:TT t) (a0 a1 a2 a3 b0 b1 b2 b3:Int) {r0 r1 r2 r3:Int} {ok:Bool} (h:(⟨r0,r1,r2,r3⟩,ok)=dX ⟨a0,a1,a2,a3⟩ ⟨b0,b1,b2,b3⟩):
 FC 170 [V4 a0 a1 a2 a3,V4 b0 b1 b2 b3] [] (.ret (.dL [V4 r0 r1 r2 r3,BL ok])) []:=by
 refine bL ht (aI:=[]) Tryz.func170 rfl rfl (N:=11) rfl rfl (n:=0) rfl rfl ?_
 cbv
 refine fO trv (MZ ht _ _ _ _ _ _ _ _ Ey 203 (fun x y r ok=>JZ ht x y) h) trv rfl rfl ?_
 cbv
 exact ax trv trv rfl rfl rfl rfl
theorem PF (ht:TT t) (a0 a1 a2 a3 b0 b1 b2 b3:Int) {ok:Bool} (h:ok=mW ⟨a0,a1,a2,a3⟩ ⟨b0,b1,b2,b3⟩):
 FC 142 [V4 a0 a1 a2 a3,V4 b0 b1 b2 b3] [] (.ret (BL ok)) []:=by
 obtain ⟨⟨⟨r0,r1,r2,r3⟩,k⟩,e⟩:∃s,s=dX ⟨b0,b1,b2,b3⟩ ⟨a0,a1,a2,a3⟩:=⟨_,rfl⟩
 have hk:ok=k:=by rw [h];unfold mW;rw [←e]
 refine bL ht (aI:=[]) Tryz.func142 rfl rfl (N:=14) rfl rfl (n:=0) rfl rfl ?_
 cbv
 refine fO trv (Cw ht _ _ _ _ _ _ _ _ e) trv rfl rfl ?_
 cbv
 exact ax trv trv rfl rfl rfl (by rw [hk])
theorem Sc (ht:TT t) (name:aQ) {l:List Node} {ps:List Place} {es qs:List (List D)} (aA:es=l.map Node.cells) (eU:qs=ps.map Place.cells) (hl:l.length<9223372036854775807) (Ge:ps.length<9223372036854775807) {a b c d:Int} {ok:Bool} (hr:eD name l ps=(⟨a,b,c,d⟩,ok)):
 FC 120 [.agg [SL es,SL qs],ST name] [] (.ret (.dL [V4 a b c d,BL ok])) []:=by
 have hrows:∀r∈qs,r.length=6:=by rw [eU];intro r hr;obtain ⟨y,_,rfl⟩:=List.mem_map.1 hr;rfl
 have hel:qs.length=ps.length:=by rw [eU,lgM]
 obtain ⟨x,UR,hf⟩:∃x UR,dW name l=(x,UR):=⟨_,_,rfl⟩
 obtain ⟨nm,⟨a0,b0,c0,d0⟩,lb,up⟩:=x
 obtain ⟨lr,hlr⟩:∃lr,lr=lb.map cZ.cells:=⟨_,rfl⟩
 obtain ⟨J,hJ⟩:∃J:Nat→(bM×Bool)×Nat→Prop,∀n v,J n v↔(v.2+n=ps.length∧(ps.drop v.2).foldl (dB name) v.1=ps.foldl (dB name) (⟨a0,b0,c0,d0⟩,UR)):=⟨fun n v=>v.2+n=ps.length∧(ps.drop v.2).foldl (dB name) v.1=ps.foldl (dB name) (⟨a0,b0,c0,d0⟩,UR),fun _ _=>Iff.rfl⟩
 refine bL ht (aI:=[]) Tryz.func120 rfl rfl (N:=45) rfl rfl (n:=0) rfl rfl ?_
 cbv
 refine o4 trv (MY ht name aA hl hf hlr) trv rfl rfl rfl ?_
 cbv
 refine bI ⟨[1,4,7,8,20,21,22],[],[]⟩ (σ:=(bM×Bool)×Nat) (fun v=>[(7,BL (t _ fun _=>v.1.2)),(22,bG (t _ fun _=>(v.2:Int)))]) (fun v=>[(1,.var [.d (.int .u64 (t _ fun _=>v.1.1.a)),.d (.int .u64 (t _ fun _=>v.1.1.b)),.d (.int .u64 (t _ fun _=>v.1.1.c)),.d (.int .u64 (t _ fun _=>v.1.1.d))])]) J ?_
 cbv
 refine aC ⟨ps.length,((⟨a0,b0,c0,d0⟩,UR),0),(hJ _ _).2 ⟨by simp,by simp⟩,by simp only [ht];rfl,?_⟩
 rintro n ⟨⟨⟨a1,b1,c1,d1⟩,Om⟩,k⟩ hj
 obtain ⟨j1,j2⟩:=(hJ _ _).1 hj
 clear hj
 simp only at j1 j2
 cbv
 refine an (fun h=>?_) (fun h=>?_)
 ·have hk:k<ps.length:=by simp [ht,aa] at h;omega
  clear h
  obtain ⟨x,hx⟩:∃x,ps[k]?=some x:=⟨ps[k],by simp⟩
  obtain ⟨jb,nd,⟨v1,v2,v3,v4⟩⟩:=x
  have hd:ps.drop k=⟨jb,nd,⟨v1,v2,v3,v4⟩⟩::ps.drop (k+1):=by
   rw [List.drop_eq_getElem_cons hk];congr 1
   rw [List.getElem?_eq_getElem hk] at hx;exact Option.some.inj hx
  rw [hd,List.foldl_cons] at j2
  cbv
  refine cI [.int .u64 jb,.str nd,.int .u64 v1,.int .u64 v2,.int .u64 v3,.int .u64 v4] ?_ ?_ ?_
  ·simp only [ht,aa];exact ⟨by omega,by omega,hrows⟩
  ·simp [ht,aa,eU,hx]
  cbv
  repeat (first|refine gI (by (simp [ht];done)) ?_|refine pI (by (simp [ht];done)) ?_)
  refine an (fun hb=>?_) (fun hb=>?_)
  ·have hb':(Om&&decide (nd=name))=true:=by simp [ht] at hb ⊢;exact hb
   clear hb
   obtain ⟨⟨⟨r0,r1,r2,r3⟩,Yt⟩,hv⟩:∃s,s=dX ⟨a1,b1,c1,d1⟩ ⟨v1,v2,v3,v4⟩:=⟨_,rfl⟩
   have hst:dB name (⟨a1,b1,c1,d1⟩,Om) ⟨jb,nd,⟨v1,v2,v3,v4⟩⟩=(⟨r0,r1,r2,r3⟩,Yt):=by simp only [dB,hb',if_true];exact hv.symm
   rw [hst] at j2
   cbv
   refine fO trv (Cw ht _ _ _ _ _ _ _ _ (by simp only [ht];exact hv)) trv rfl rfl ?_
   cbv
   refine aC ⟨n-1,((⟨r0,r1,r2,r3⟩,Yt),k+1),⟨by omega,(hJ _ _).2 ⟨by show k+1+(n-1)=_;omega,j2⟩⟩,?_⟩
   simp only [ht,aa,aD (show k<9223372036854775807 by omega)];rfl
  have hb':(Om&&decide (nd=name))=false:=by simp [ht] at hb ⊢;exact hb
  clear hb
  have hst:dB name (⟨a1,b1,c1,d1⟩,Om) ⟨jb,nd,⟨v1,v2,v3,v4⟩⟩=(⟨a1,b1,c1,d1⟩,Om):=by simp [dB,hb']
  rw [hst] at j2
  cbv
  refine aC ⟨n-1,((⟨a1,b1,c1,d1⟩,Om),k+1),⟨by omega,(hJ _ _).2 ⟨by show k+1+(n-1)=_;omega,j2⟩⟩,?_⟩
  simp only [ht,aa,aD (show k<9223372036854775807 by omega)];rfl
 have hk:k=ps.length:=by simp [ht,aa] at h;omega
 clear h
 rw [hk,List.drop_length,List.foldl_nil] at j2
 have OE:(if Om then ((⟨a1,b1,c1,d1⟩:bM),Om) else (bM.zero,false))=(⟨a,b,c,d⟩,ok):=by rw [←hr,eD,hf,←j2]
 cbv
 refine an (fun hb=>?_) (fun hb=>?_)
 ·have hb':Om=false:=by simpa [ht] using hb
  clear hb
  subst hb'
  obtain ⟨⟨rfl,rfl,rfl,rfl⟩,rfl⟩:(a=0∧b=0∧c=0∧d=0)∧ok=false:=by simpa [bM.zero,eq_comm] using OE
  cbv
  exact ax trv trv rfl rfl rfl rfl
 have hb':Om=true:=by simpa [ht] using hb
 clear hb
 subst hb'
 obtain ⟨⟨rfl,rfl,rfl,rfl⟩,rfl⟩:(a1=a∧b1=b∧c1=c∧d1=d)∧true=ok:=by simpa using OE
 cbv
 refine ax trv trv rfl rfl rfl ?_
 simp only [ht]
theorem PG (ht:TT t) (name:aQ) {l:List Node} {es ps:List (List D)} (aA:es=l.map Node.cells) (hl:l.length<9223372036854775807):
 FC 33 [.agg [SL es,SL ps],ST name] [] (.ret (MH t (t _ fun _=>dW name l))) []:=by
 simp only [ht]
 generalize hr:dW name l=r
 obtain ⟨⟨nm,⟨a,b,c,d⟩,lb,up⟩,ok⟩:=r
 exact (by simpa only [MH,Q5,ht] using MY ht name aA hl hr rfl)
theorem IM (ht:TT t) (name:aQ) {l:List Node} {ps:List Place} {es qs:List (List D)} (aA:es=l.map Node.cells) (eU:qs=ps.map Place.cells) (hl:l.length<9223372036854775807) (Ge:ps.length<9223372036854775807):
 FC 120 [.agg [SL es,SL qs],ST name] [] (.ret (UJ (t _ fun _=>eD name l ps))) []:=by
 simp only [ht]
 generalize hr:eD name l ps=r
 obtain ⟨⟨a,b,c,d⟩,ok⟩:=r
 exact Sc ht name aA eU hl Ge hr
theorem tO (ht:TT t) (a b c d e f g h:Int):FC 142 [V4 a b c d,V4 e f g h] [] (.ret (cP (t _ fun _=>mW ⟨a,b,c,d⟩ ⟨e,f,g,h⟩))) []:=by
 simp only [ht];exact PF ht _ _ _ _ _ _ _ _ rfl
theorem PI (ht:TT t) (name:aQ) (v0 v1 v2 v3:Int) {l:List Node} {ps:List Place} {es qs:List (List D)} (aA:es=l.map Node.cells) (eU:qs=ps.map Place.cells) (hl:l.length<9223372036854775807) (Ge:ps.length<9223372036854775807):
 FC 119 [.agg [SL es,SL qs],ST name,V4 v0 v1 v2 v3] [] (.ret (fQ (t _ fun _=>og name ⟨v0,v1,v2,v3⟩ l ps))) []:=by
 refine bL ht (aI:=[]) Tryz.func119 rfl rfl (N:=39) rfl rfl (n:=0) rfl rfl ?_
 cbv
 refine aB trv (PG ht _ ‹_› ‹_›) trv rfl rfl rfl (fun r0 cF=>?_)
 simp only [ht] at cF
 cbv
 refine aZ trv (IM ht _ ‹_› ‹_› ‹_› ‹_›) trv rfl rfl (fun r1 dM=>?_)
 simp only [ht] at dM
 cbv
 refine an (fun h2=>?_) (fun h2=>?_)
 ·simp [ht] at h2
  cbv
  refine ax trv trv rfl rfl rfl ?_
  (simp only [ht,og];grind)
 simp [ht] at h2
 cbv
 refine an (fun h3=>?_) (fun h3=>?_)
 ·simp [ht] at h3
  cbv
  refine ax trv trv rfl rfl rfl ?_
  (simp only [ht,og];grind)
 simp [ht] at h3
 cbv
 iterate 2 refine gI (by simp [ht]) ?_
 refine cY (fun g4=>⟨by simp [ht] at g4 ⊢;exact g4,trv,tO ht _ _ _ _ _ _ _ _⟩) rfl rfl (fun r5 tP=>?_)
 simp only [ht] at tP
 cbv
 refine gI (by simp [ht]) ?_
 refine pI (by simp [ht]) ?_
 refine an (fun h6=>?_) (fun h6=>?_)
 ·simp [ht] at h6
  cbv
  refine ax trv trv rfl rfl rfl ?_
  (simp_all [og];done)
 simp [ht] at h6
 cbv
 refine ax trv trv rfl rfl rfl ?_
 (simp_all [og];done)
theorem Al (ht:TT t) {ps:List Place} {es:List (List D)} (aA:es=ps.map Place.cells) (hs:ps.length<1000000000):
 FC 118 [SL es] [] (.ret (.ow 0 6 (t _ fun _=>(ps.map Place.cells).length))) [.row 6 (t _ fun _=>ps.map Place.cells)]:=by
 simp only [ht];subst aA
 refine tN ht ?_ ?_ (by simp)
 ·intro r hr;obtain ⟨y,_,rfl⟩:=List.mem_map.1 hr;rfl
 simp;omega
theorem Sd (ht:TT t) (bS:Int) (v0 v1 v2 v3:Int) {l:List Node} {ps:List Place} {names:List aQ} {es qs ns:List (List D)} (aA:es=l.map Node.cells) (eU:qs=ps.map Place.cells) (fC:ns=names.map bg) (hl:l.length<1000000000) (Ge:ps.length<100000000) (Ld:names.length<100000000):
 FC 78 [.agg [SL es,SL qs],az bS,SL ns,V4 v0 v1 v2 v3] [] (.ret (mC t (t _ fun _=>uJ ⟨l,ps⟩ bS names ⟨v0,v1,v2,v3⟩))) []:=by
 refine bL ht (aI:=[]) Tryz.func78 rfl rfl (N:=45) rfl rfl (n:=0) rfl rfl ?_
 cbv
 have av:es.length=l.length:=by rw [aA,lgM]
 have aK:qs.length=ps.length:=by rw [eU,lgM]
 have aU:ns.length=names.length:=by rw [fC,lgM]
 refine c7 [false,false,false,false,false,false,false,true] (by kernel_rfl) (by kernel_rfl) ?_
 cbv
 iterate 4 refine gI (by simp) ?_
 refine .inr (Ep trv (Al ht ‹_› (by omega)) trv rfl (.inr rfl) rfl ?_)
 cbv
 refine gI (by simp) ?_
 obtain ⟨J0,fI⟩:∃J0:Nat→Int×List (List D)→Prop,∀n i u,J0 n (i,u)↔(∃(k:Nat) (rs:List Place),i=k∧k+n=names.length∧u=rs.map Place.cells∧rs.length=ps.length+k∧fD l bS ⟨v0,v1,v2,v3⟩ names ps=fD l bS ⟨v0,v1,v2,v3⟩ (names.drop k) rs):=⟨fun n v=>match v with|(i,u)=>(∃(k:Nat) (rs:List Place),i=k∧k+n=names.length∧u=rs.map Place.cells∧rs.length=ps.length+k∧fD l bS ⟨v0,v1,v2,v3⟩ names ps=fD l bS ⟨v0,v1,v2,v3⟩ (names.drop k) rs),fun _ _ _=>Iff.rfl⟩
 refine bI ⟨[1,4,7,8,10,20,21,22],[],[]⟩ (σ:=Int×List (List D)) (fun v=>[(22,.d (.int .i64 (t _ fun _=>v.1)))]) (fun v=>[(2,.var [AV.cl [],AV.cl []]),(4,.row 6 (t _ fun _=>v.2)),(3,.var [AV.d (D.sl es),.ow 4 6 (t _ fun _=>(v.2).length)])]) J0 ?_
 cbv
 refine aC ⟨names.length,(_,_),(fI _ _ _).2 ?_,by simp only [ht];rfl,?_⟩
 ·exact ⟨0,ps,rfl,by simp,by simp,by simp,by simp⟩
 rintro n ⟨i,u⟩ hj
 replace hj:=(fI _ _ _).1 hj
 obtain ⟨k,rs,rfl,j1,j2,j3,j4⟩:=hj
 have v8:u.length=rs.length:=by rw [j2,lgM]
 cbv
 refine an (fun h1=>?_) (fun h1=>?_)
 ·simp [ht,aa,aU] at h1
  cbv
  refine jZ ht fC (cT:=dN t) (by (simp only [ht,aa];omega)) (by (simp only [ht,aa];omega)) (fun _=>rfl) (fun _=>rfl) (fun x2 nj=>?_)
  simp [ht,aa] at nj
  rw [gu nj,fD] at j4
  cbv
  refine aZ trv (PI ht _ _ _ _ _ ‹_› (by (simp only [ht];omega)) (by omega) (by omega)) (by simp [ht]) rfl rfl (fun r3 ku=>?_)
  simp only [ht] at ku
  cbv
  refine an (fun h4=>?_) (fun h4=>?_)
  ·simp [ht] at h4
   cbv
   refine ax trv trv rfl rfl rfl ?_
   (simp only [ht,uJ];grind)
  simp [ht] at h4
  cbv
  refine ⟨?_,?_⟩
  ·(simp only [ht,true_and];exact Q6 j2 (fun _=>rfl) rfl (by omega) (by decide))
  cbv
  refine cL (_,_) (by simp only [ht,←List.length_append];rfl) (n-1) ?_ ((fI _ _ _).2 ?_)
  ·omega
  simp only [aa]
  refine ⟨k+1,rs++[⟨bS,x2,⟨v0,v1,v2,v3⟩⟩],aD (by omega),by omega,?_,by simp;omega,?_⟩
  ·(simp [*];done)
  (simp_all;done)
 simp [ht,aa,aU] at h1
 cbv
 refine ax trv (by simp [ht]) rfl rfl rfl ?_
 (rw [List.drop_eq_nil_of_le (by omega),fD] at j4;simp [ht,uJ,j4,aA,j2];done)
theorem EX (ht:TT t) (name:aQ) {l:List Node} {es ps:List (List D)} (aA:es=l.map Node.cells) (hl:l.length<9223372036854775807):
 FC 73 [.agg [SL es,SL ps],ST name] [] (.ret (fQ (t _ fun _=>idxOf (fun x=>decide (x.name=name)) l))) []:=by
 simp only [ht];exact IL ht name aA hl rfl
theorem nV (ht:TT t) {l:List Node} {es:List (List D)} (aA:es=l.map Node.cells) (hs:l.length<1000000000):
 FC 147 [SL es] [] (.ret (.ow 0 7 (t _ fun _=>(l.map Node.cells).length))) [.row 7 (t _ fun _=>l.map Node.cells)]:=by
 simp only [ht];subst aA
 refine ET ht ?_ ?_ (by simp)
 ·intro r hr;obtain ⟨y,_,rfl⟩:=List.mem_map.1 hr;rfl
 simp;omega
def cZ.bC (_:Th) (x:cZ):List D:=[.str x.key,.str x.value]
theorem J3 (ht:TT t) (c:Int) {l:List (Int×Int)} {es:List (List D)} (aA:es=l.map (fun x=>[D.int .i32 x.1,D.int .i32 x.2])) (f:Nat) (p:Int×Int→Bool) (hl:l.length<9223372036854775807)
 (hf:∀x∈l,FC f [.agg [.d (.int .i32 x.1),.d (.int .i32 x.2)],.ptr 0 0] [.var [.d (.int .i32 c)]] (.ret (BL (p x))) [.var [.d (.int .i32 c)]]) {r:Int} (hr:r=idxOf p l):FC 225 [SL es,.fn f [.ptr 0 0]] [.var [.d (.int .i32 c)]] (.ret (bG r)) [.var [.d (.int .i32 c)]]:=by
 have hel:es.length=l.length:=by rw [aA,lgM]
 obtain ⟨J,hJ⟩:∃J:Nat→Nat→Prop,∀n v,J n v↔(v+n=l.length∧∀i<v,∀x,l[i]?=some x→p x=false):=⟨fun n v=>v+n=l.length∧∀i<v,∀x,l[i]?=some x→p x=false,fun _ _=>Iff.rfl⟩
 refine bL ht (aI:=[.var [.d (.int .i32 c)]]) Tryz.func225 rfl rfl (N:=19) rfl rfl (n:=1) rfl rfl ?_
 cbv
 refine bI ⟨[0,1,7,8],[],[]⟩ (σ:=Nat) (fun k=>[(8,bG (t _ fun _=>(k:Int)))]) (fun _=>[]) J ?_
 cbv
 refine aC ⟨l.length,0,(hJ _ _).2 ⟨by omega,by intro i hi;simp at hi⟩,by simp only [ht];rfl,?_⟩
 rintro n k hj
 obtain ⟨h2,h3⟩:=(hJ _ _).1 hj
 clear hj
 cbv
 refine an (fun h=>?_) (fun h=>?_)
 ·simp only [ht,aa,decide_eq_true_eq] at h
  have hk:k<l.length:=by omega
  obtain ⟨x,hx⟩:∃x,l[k]?=some x:=⟨l[k],by simp⟩
  have oo:x∈l:=List.mem_of_getElem? hx
  have gG:=hf x oo
  obtain ⟨px,hpx⟩:∃b,b=p x:=⟨_,rfl⟩
  rw [←hpx] at gG
  obtain ⟨lo,hi⟩:=x
  cbv
  refine cI [.int .i32 lo,.int .i32 hi] ?_ ?_ ?_
  ·simp only [ht,aa];refine ⟨by omega,h,?_⟩;rw [aA];intro r hr;obtain ⟨y,_,rfl⟩:=List.mem_map.1 hr;rfl
  ·simp [ht,aa,aA,hx]
  cbv
  refine dV trv gG ?_
  cbv
  refine an (fun hb=>?_) (fun hb=>?_)
  ·cbv
   refine ax trv trv rfl rfl rfl ?_
   have e:=de hx (hpx▸hb) h3
   simp only [ht,aa,hr,idxOf,e]
  cbv
  refine aC ⟨n-1,k+1,⟨by omega,(hJ _ _).2 ⟨by omega,?_⟩⟩,?_⟩
  ·intro i hi y hy
   by_cases hik:i<k
   ·exact h3 i hik y hy
   have:i=k:=by omega
   subst this;rw [hx] at hy;cases hy;rw [←hpx];exact hb
  simp only [ht,aa,aD (show k<9223372036854775807 by omega)];rfl
 simp only [ht,aa,decide_eq_false_iff_not] at h
 have hk:¬k<l.length:=by omega
 clear h
 cbv
 refine ax trv trv rfl rfl rfl ?_
 rw [hr,idxOf,dA]
 intro i y hy
 have:i<l.length:=by
  rcases Nat.lt_or_ge i l.length with h'|h';· exact h'
  simp [List.getElem?_eq_none h'] at hy
 exact h3 i (by omega) y hy
theorem J5 (ht:TT t) (c:Int) {l:List (Int×Int)} {es:List (List D)} (aA:es=l.map (fun x=>[D.int .i32 x.1,D.int .i32 x.2])) (f:Nat) (p:Int×Int→Bool) (hl:l.length<9223372036854775807)
 (hf:∀x∈l,FC f [.agg [.d (.int .i32 x.1),.d (.int .i32 x.2)],.ptr 0 0] [.var [.d (.int .i32 c)]] (.ret (BL (p x))) [.var [.d (.int .i32 c)]]) {r:Bool} (hr:r=l.any p):FC 204 [SL es,.fn f [.ptr 0 0]] [.var [.d (.int .i32 c)]] (.ret (BL r)) [.var [.d (.int .i32 c)]]:=by
 obtain ⟨k,hk⟩:∃k,k=idxOf p l:=⟨_,rfl⟩
 refine bL ht (aI:=[.var [.d (.int .i32 c)]]) Tryz.func204 rfl rfl (N:=9) rfl rfl (n:=1) rfl rfl ?_
 cbv
 refine dV trv (J3 ht c aA f p hl hf hk) ?_
 cbv
 refine ax trv trv rfl rfl rfl ?_
 simp only [ht,hr,iu,hk]
theorem M0 (ht:TT t) (c lo hi:Int) {r:Bool} (hr:r=(decide (lo≤c)&&decide (c≤hi))):FC 205 [.agg [.d (.int .i32 lo),.d (.int .i32 hi)],.ptr 0 0] [.var [.d (.int .i32 c)]] (.ret (BL r)) [.var [.d (.int .i32 c)]]:=by
 refine bL ht (aI:=[.var [.d (.int .i32 c)]]) Tryz.func205 rfl rfl (N:=14) rfl rfl (n:=1) rfl rfl ?_
 cbv
 repeat (first|refine gI (by (simp [ht];done)) ?_|refine pI (by (simp [ht];done)) ?_)
 refine ax trv trv rfl rfl rfl ?_
 simp [ht,hr]
theorem IN (ht:TT t) (c:Int) (l:List (Int×Int)) {es:List (List D)} (aA:es=l.map (fun x=>[D.int .i32 x.1,D.int .i32 x.2])) (hl:l.length<9223372036854775807) {r:Bool} (hr:r=EB c l):FC 171 [.d (.int .i32 c),SL es] [] (.ret (BL r)) []:=by
 refine bL ht (aI:=[]) Tryz.func171 rfl rfl (N:=8) rfl rfl (n:=0) rfl rfl ?_
 cbv
 refine dV trv (J5 ht c aA 205 (fun x=>decide (x.1≤c)&&decide (c≤x.2)) hl (fun x _=>M0 ht c x.1 x.2 rfl) hr) ?_
 cbv
 exact ax trv trv rfl rfl rfl rfl
theorem PJ (ht:TT t) (s:aQ) (hs:s.length<9223372036854775807) {r:Int} (hr:r=o5 s):FC 206 [ST s] [] (.ret (bG r)) []:=by
 obtain ⟨J,hJ⟩:∃J:Nat→Nat×Nat→Prop,∀n v,J n v↔(s.length≤v.1+n∧v.2+(ia s n v.1).length=o5 s):=⟨fun n v=>s.length≤v.1+n∧v.2+(ia s n v.1).length=o5 s,fun _ _=>Iff.rfl⟩
 have hc:o5 s≤s.length:=yB s _ _
 refine bL ht (aI:=[]) Tryz.func206 rfl rfl (N:=10) rfl rfl (n:=0) rfl rfl ?_
 cbv
 refine bI ⟨[2,4],[],[]⟩ (σ:=Nat×Nat) (fun v=>[(2,bG (t _ fun _=>(v.2:Int)))]) (fun v=>[(0,.it s (t _ fun _=>v.1))]) J ?_
 cbv
 refine aC ⟨s.length,(0,0),(hJ _ _).2 ⟨by simp,by simp [o5,AX]⟩,by simp only [ht];rfl,?_⟩
 rintro n ⟨pos,k⟩ hj
 obtain ⟨hf,hj⟩:=(hJ _ _).1 hj
 cbv
 refine ⟨fun hp=>?_,fun hp=>?_⟩
 ·simp only [ht] at hp hj hf
  cases n with
  |zero=>exfalso;omega
  |succ n=>
  rw [ia,if_pos hp] at hj
  cbv
  refine jX rfl ?_
  cbv
  have hd:=IA s pos hp
  refine aC ⟨n,(pos+(dec s pos).2,k+1),⟨by omega,(hJ _ _).2 ⟨?_,?_⟩⟩,?_⟩
  ·show s.length≤pos+_+n;omega
  ·rw [←hj];simp only [List.length_cons];omega
  simp only [ht,aa,aD (show k<9223372036854775807 by simp at hj;omega)];rfl
 simp only [ht] at hp hj
 cbv
 refine mU rfl ?_
 cbv
 refine ax trv trv rfl rfl rfl ?_
 have e:ia s n pos=[]:=by cases n with
  |zero=>rfl
  |succ n=>rw [ia,if_neg hp]
 rw [e] at hj
 simp only [ht,aa,hr,←hj];rfl
theorem M1 (ht:TT t) (s:aQ) (hs:s.length<9223372036854775807) {r:Int} (hr:r=o5 s):FC 172 [ST s] [] (.ret (bG r)) []:=by
 refine bL ht (aI:=[]) Tryz.func172 rfl rfl (N:=5) rfl rfl (n:=0) rfl rfl ?_
 cbv
 refine fO trv (PJ ht s hs hr) trv rfl rfl ?_
 cbv
 exact ax trv trv rfl rfl rfl rfl
theorem yT (ht:TT t) (s:aQ) (hs:s.length<9223372036854775807) {r:Bool} (hr:r=ic s):FC 121 [ST s] [] (.ret (BL r)) []:=by
 obtain ⟨J,hJ⟩:∃J:Nat→Nat→Prop,∀n v,J n v↔(s.length≤v+n∧(AX s).all RU=(ia s n v).all RU):=⟨fun n v=>s.length≤v+n∧(AX s).all RU=(ia s n v).all RU,fun _ _=>Iff.rfl⟩
 refine bL ht (aI:=[]) Tryz.func121 rfl rfl (N:=32) rfl rfl (n:=0) rfl rfl ?_
 cbv
 refine bI ⟨[0,2,6],[],[]⟩ (σ:=Nat) (fun _=>[]) (fun v=>[(0,.it s (t _ fun _=>v))]) J ?_
 cbv
 refine aC ⟨s.length,0,(hJ _ _).2 ⟨by simp,by simp [AX]⟩,by simp only [ht];rfl,?_⟩
 rintro n pos hj
 obtain ⟨hf,hj⟩:=(hJ _ _).1 hj
 cbv
 refine ⟨fun hp=>?_,fun hp=>?_⟩
 ·simp only [ht] at hp hj hf
  cases n with
  |zero=>exfalso;omega
  |succ n=>
  rw [ia,if_pos hp] at hj
  obtain ⟨b1,vz⟩:∃b,b=EB (dec s pos).1 Cc:=⟨_,rfl⟩
  obtain ⟨b2,sN⟩:∃b,b=EB (dec s pos).1 marks:=⟨_,rfl⟩
  cbv
  refine jX rfl ?_
  cbv
  refine fO trv (IN ht _ Cc rfl (by decide) (r:=b1) (by simp only [ht,aa];exact vz)) trv rfl rfl ?_
  cbv
  repeat (refine gI (by (simp [ht];done)) ?_)
  refine Eo (fun hg=>⟨by simp [ht] at hg ⊢;exact hg,trv,IN ht _ marks rfl (by decide) (r:=b2) (by simp only [ht,aa];exact sN)⟩) rfl rfl ?_
  cbv
  repeat (first|refine gI (by first|(simp [ht,ah];done)|(simp [ht,ah];intros;simp_all;done)) ?_|refine pI (by (simp [ht];done)) ?_)
  obtain ⟨b,hb⟩:∃b,b=(!b1&&(decide (pos=0)||!b2)):=⟨_,rfl⟩
  have hw:RU (pos,(dec s pos).1)=!b:=by
   simp only [RU,←vz,←sN,hb];cases b1<;>cases b2<;>simp
  refine an (fun hc=>?_) (fun hc=>?_)
  ·have WN:b=true:=by rw [hb];simp [ht,aa] at hc;revert hc;cases b1<;>cases b2<;>simp
   cbv
   refine ax trv trv rfl rfl rfl ?_
   simp only [List.all_cons,hw,WN] at hj
   simp [hr,ic,hj]
  have WO:b=false:=by rw [hb];simp [ht,aa] at hc;revert hc;cases b1<;>cases b2<;>simp
  cbv
  have hd:=IA s pos hp
  refine aC ⟨n,pos+(dec s pos).2,⟨by omega,(hJ _ _).2 ⟨by omega,?_⟩⟩,?_⟩
  ·rw [hj,List.all_cons,hw,WO];rfl
  simp only [ht];rfl
 simp only [ht] at hp hj
 have e:ia s n pos=[]:=by cases n with
  |zero=>rfl
  |succ n=>rw [ia,if_neg hp]
 rw [e] at hj
 obtain ⟨k,hk⟩:∃k:Int,k=o5 s:=⟨_,rfl⟩
 cbv
 refine mU rfl ?_
 cbv
 repeat (refine gI (by (simp [ht];done)) ?_)
 refine Eo (fun hg=>⟨by simp [ht] at hg ⊢;exact hg,trv,M1 ht s hs hk⟩) rfl rfl ?_
 cbv
 repeat (first|refine gI (by (simp [ht];done)) ?_|refine pI (by (simp [ht];done)) ?_)
 refine ax trv trv rfl rfl rfl ?_
 simp only [List.all_nil] at hj
 simp only [ht,aa,hr,ic,hj,hk,Bool.true_and]
 simp
 congr 1
 rw [decide_eq_decide];omega
theorem M2 (ht:TT t) (l:List cZ) (hl:l.length<9223372036854775807) (uO:∀p∈l,p.sm) {es:List (List D)} (aA:es=l.map cZ.cells) {r:Bool} (hr:r=uI l):FC 122 [SL es] [] (.ret (BL r)) []:=by
 have hel:es.length=l.length:=by rw [aA,lgM]
 obtain ⟨J,hJ⟩:∃J:Nat→Nat→Prop,∀n v,J n v↔(v+n=l.length∧iN none l=iN (kJ l v) (l.drop v)):=⟨fun n v=>v+n=l.length∧iN none l=iN (kJ l v) (l.drop v),fun _ _=>Iff.rfl⟩
 refine bL ht (aI:=[]) Tryz.func122 rfl rfl (N:=41) rfl rfl (n:=0) rfl rfl ?_
 cbv
 refine bI ⟨[0,2,5,6,7],[],[]⟩ (σ:=Nat) (fun k=>[(7,bG (t _ fun _=>(k:Int)))]) (fun _=>[]) J ?_
 cbv
 refine aC ⟨l.length,0,(hJ _ _).2 ⟨by simp,by simp [kJ]⟩,by simp only [ht];rfl,?_⟩
 rintro n k hj
 obtain ⟨h2,h3⟩:=(hJ _ _).1 hj
 clear hj
 cbv
 refine an (fun h=>?_) (fun h=>?_)
 ·simp only [ht,aa,decide_eq_true_eq] at h
  have hk:k<l.length:=by omega
  obtain ⟨⟨ky,vl⟩,hx⟩:∃x,l[k]?=some x:=⟨l[k],by simp⟩
  obtain ⟨sk,sv⟩:=uO _ (List.mem_of_getElem? hx)
  obtain ⟨b1,vz⟩:∃b,b=ic ky:=⟨_,rfl⟩
  obtain ⟨b2,sN⟩:∃b,b=ic vl:=⟨_,rfl⟩
  cbv
  refine cI [.str ky,.str vl] ?_ ?_ ?_
  ·simp only [ht,aa];refine ⟨by omega,h,?_⟩;rw [aA];intro r hr;obtain ⟨y,_,rfl⟩:=List.mem_map.1 hr;rfl
  ·simp [ht,aa,aA,hx]
  cbv
  refine c7 [true,true,true,true,true,true,true,true,true,true,true,true,true,true,false,false,false,false,false,false,false,false,true,true,true] (by kernel_rfl) (by kernel_rfl) ?_
  cbv
  refine fO trv (yT ht ky sk vz) trv rfl rfl ?_
  cbv
  repeat (refine gI (by (simp [ht];done)) ?_)
  refine Eo (fun hg=>⟨by simp [ht] at hg ⊢;exact hg,trv,yT ht vl sv sN⟩) rfl rfl ?_
  cbv
  obtain ⟨⟨qk,qv⟩,hq⟩:∃q:cZ,k≠0→l[k-1]?=some q:=by
   by_cases h0:k=0
   ·exact ⟨⟨[],[]⟩,fun h=>absurd h0 h⟩
   exact ⟨l[k-1],fun _=>by simp⟩
  repeat (first|refine gI (by (simp [ht];done)) ?_|refine pI (by (simp [ht];done)) ?_)
  refine Pj [.str qk,.str qv] ?_ ?_
  ·intro hg
   simp [ht,aa] at hg
   have h0:k≠0:=by omega
   have hw:IntKind.i64.wrap ((k:Int)-1)=((k-1:Nat):Int):=by rw [wrap64 (by omega) (by omega)];omega
   refine ⟨⟨?_,?_⟩,?_⟩
   ·simp [ht,aa];omega
   ·simp only [ht,aa,hw]
    refine ⟨by omega,by omega,?_⟩
    rw [aA];intro r hr;obtain ⟨y,_,rfl⟩:=List.mem_map.1 hr;rfl
   simp [ht,aa,hw,aA,hq h0]
  cbv
  repeat (first|refine gI (by first|(simp [ht,ah];done)|(simp [ht,ah];intros;simp_all;done)) ?_|refine pI (by (simp [ht];done)) ?_)
  obtain ⟨b,hb⟩:∃b,b=(!b1||!b2||(decide (0<k)&&sle ky qk)):=⟨_,rfl⟩
  have hstep:iN (kJ l k) (l.drop k)=(!b&&iN (kJ l (k+1)) (l.drop (k+1))):=by
   have e1:l.drop k=⟨ky,vl⟩::l.drop (k+1):=by
    rw [List.drop_eq_getElem_cons hk];congr 1
    rw [List.getElem?_eq_getElem hk] at hx;exact Option.some.inj hx
   have e2:kJ l (k+1)=some ky:=by simp [kJ,hx]
   rw [e1,e2]
   cases k with
   |zero=>simp [iN,kJ,←vz,←sN,hb]
   |succ k=>
    have:=hq (by omega)
    simp only [Nat.add_sub_cancel] at this
    simp [iN,kJ,this,←vz,←sN,hb]
  refine an (fun hc=>?_) (fun hc=>?_)
  ·have WN:b=true:=by rw [hb];simp [ht,aa,sle] at hc ⊢;revert hc;cases b1<;>cases b2<;>simp
   cbv
   refine ax trv trv rfl rfl rfl ?_
   rw [hr,uI,h3,hstep,WN];rfl
  have WO:b=false:=by rw [hb];simp [ht,aa,sle] at hc ⊢;revert hc;cases b1<;>cases b2<;>simp
  cbv
  refine aC ⟨n-1,k+1,⟨by omega,(hJ _ _).2 ⟨by omega,?_⟩⟩,?_⟩
  ·rw [h3,hstep,WO];rfl
  simp only [ht,aa,aD (show k<9223372036854775807 by omega)];rfl
 simp only [ht,aa,decide_eq_false_iff_not] at h
 have hk:k=l.length:=by omega
 clear h
 cbv
 refine ax trv trv rfl rfl rfl ?_
 simp only [ht,aa,hel,hr,uI,h3,hk,List.drop_length,iN,Bool.true_and]
 simp
 omega
theorem yU (ht:TT t) {l:List Node} {ps:List Place} {es qs:List (List D)} (aA:es=l.map Node.cells) (eU:qs=ps.map Place.cells) (hl:l.length<1000000000) (Ge:ps.length<1000000000):
 FC 96 [.agg [SL es,SL qs]] [] (.ret (MI t (t _ fun _=>l.filterMap (mZ l ps)))) []:=by
 refine bL ht (aI:=[]) Tryz.func96 rfl rfl (N:=38) rfl rfl (n:=0) rfl rfl ?_
 cbv
 have av:es.length=l.length:=by rw [aA,lgM]
 have aK:qs.length=ps.length:=by rw [eU,lgM]
 obtain ⟨J0,fI⟩:∃J0:Nat→List (List D)×Int→Prop,∀n o i,J0 n (o,i)↔(∃(k:Nat) (rs:List bO),i=k∧k+n=l.length∧o=rs.map bO.cells∧rs.length≤k∧l.filterMap (mZ l ps)=rs++(l.drop k).filterMap (mZ l ps)):=⟨fun n v=>match v with|(o,i)=>(∃(k:Nat) (rs:List bO),i=k∧k+n=l.length∧o=rs.map bO.cells∧rs.length≤k∧l.filterMap (mZ l ps)=rs++(l.drop k).filterMap (mZ l ps)),fun _ _ _=>Iff.rfl⟩
 refine bI ⟨[1,3,9,10,11],[(3,6)],[]⟩ (σ:=List (List D)×Int) (fun v=>[(3,.ow 1 6 (t _ fun _=>(v.1).length)),(11,.d (.int .i64 (t _ fun _=>v.2)))]) (fun v=>[(1,.row 6 (t _ fun _=>v.1))]) J0 ?_
 cbv
 refine aC ⟨l.length,([],_),(fI _ _ _).2 ?_,by simp only [ht];rfl,?_⟩
 ·exact ⟨0,[],rfl,by simp,rfl,by simp,by simp⟩
 rintro n ⟨o,i⟩ hj
 replace hj:=(fI _ _ _).1 hj
 obtain ⟨k,rs,rfl,j1,j2,j3,j4⟩:=hj
 have US:o.length=rs.length:=by rw [j2,lgM]
 cbv
 refine an (fun h1=>?_) (fun h1=>?_)
 ·simp [ht,aa,av] at h1
  cbv
  refine jZ ht aA (cT:=Node.bC t) (by (simp only [ht,aa];omega)) (by (simp only [ht,aa];omega)) (fun _=>rfl) (fun _=>(by (simp only [ht,Node.bC];done))) (fun x2 nj=>?_)
  simp [ht,aa] at nj
  rw [gu nj,List.filterMap_cons,mZ] at j4
  cbv
  refine aZ trv (IM ht _ ‹_› ‹_› (by omega) (by omega)) trv rfl rfl (fun r3 ku=>?_)
  simp only [ht] at ku
  cbv
  iterate 2 refine gI (by simp) ?_
  refine pI (by simp) ?_
  refine an (fun h4=>?_) (fun h4=>?_)
  ·simp [ht] at h4
   cbv
   refine ⟨?_,?_⟩
   ·(simp only [ht,true_and];exact Q6 j2 (fun _=>rfl) rfl (by omega) (by decide))
   cbv
   refine cL (_,_) (by simp only [ht,←List.length_append];rfl) (n-1) ?_ ((fI _ _ _).2 ?_)
   ·omega
   simp only [aa]
   refine ⟨k+1,rs++[⟨(x2).name,(eD (x2).name l ps).1,(x2).labels⟩],aD (by omega),by omega,?_,by simp;omega,?_⟩
   ·(simp [bO.cells, *];done)
   (simp_all;done)
  simp [ht] at h4
  cbv
  refine cL (_,_) (by simp only [ht];rfl) (n-1) ?_ ((fI _ _ _).2 ?_)
  ·omega
  simp only [aa]
  exact ⟨k+1,rs,aD (by omega),by omega,j2,by omega,by grind⟩
 simp [ht,aa,av] at h1
 cbv
 refine ax trv (by simp [ht]) rfl rfl rfl ?_
 (rw [List.drop_eq_nil_of_le (by omega)] at j4;simp [*];done)
theorem qp (ht:TT t) (s:aQ) (hs:s.length<9223372036854775807):FC 121 [ST s] [] (.ret (cP (t _ fun _=>ic s))) []:=by
 simp only [ht];exact yT ht s hs rfl
theorem J7 (ht:TT t) {l:List cZ} {es:List (List D)} (aA:es=l.map cZ.cells) (hl:l.length<1000000000) (uO:∀p∈l,p.sm):FC 122 [SL es] [] (.ret (cP (t _ fun _=>uI l))) []:=by
 simp only [ht];exact M2 ht l (by omega) uO aA rfl
def Term.sm (x:Term):Prop:=x.key.length<9223372036854775807∧x.lS.length<1000000000∧∀v∈x.lS,v.length<9223372036854775807
def prevStr (l:List aQ) (k:Nat):Option aQ:=match k with
 |0=>none
 |k+1=>l[k]?
theorem Zt (a:Nat):(a:Int).tmod 8=((a%8:Nat):Int):=by rw [Int.tmod_eq_emod_of_nonneg (by omega)];rfl
theorem WQ (a:Nat):(a:Int).tmod 12=((a%12:Nat):Int):=by rw [Int.tmod_eq_emod_of_nonneg (by omega)];rfl
theorem Le (a:Nat):(a:Int).tmod 5=((a%5:Nat):Int):=by rw [Int.tmod_eq_emod_of_nonneg (by omega)];rfl
theorem WR (a:Nat):(a:Int).tmod 4=((a%4:Nat):Int):=by rw [Int.tmod_eq_emod_of_nonneg (by omega)];rfl
theorem WS (a:Nat):(a:Int).tmod 3=((a%3:Nat):Int):=by rw [Int.tmod_eq_emod_of_nonneg (by omega)];rfl
theorem Yu (a:Nat):(a:Int).tmod 2=((a%2:Nat):Int):=by rw [Int.tmod_eq_emod_of_nonneg (by omega)];rfl
theorem Zu (a:Nat):(a:Int).tdiv 5=((a / 5:Nat):Int):=by rw [Int.tdiv_eq_ediv_of_nonneg (by omega)];rfl
theorem WT (a:Nat):(a:Int).tdiv 25=((a / 25:Nat):Int):=by rw [Int.tdiv_eq_ediv_of_nonneg (by omega)];rfl
theorem Zv (a:Nat):(a:Int).tdiv 3=((a / 3:Nat):Int):=by rw [Int.tdiv_eq_ediv_of_nonneg (by omega)];rfl
theorem WU (a:Nat) (h:a<256):IntKind.u8.wrap (a:Int)=(a:Int):=by simp only [IntKind.wrap];simp [IntKind.bits,IntKind.signed];omega
theorem PK (a:Nat) (h:a<256):IntKind.u64.wrap (a:Int)=(a:Int):=by simp only [IntKind.wrap];simp [IntKind.bits,IntKind.signed];omega
theorem M3 (a:Nat) (h:a<1000000000):IntKind.i64.wrap (a:Int)=(a:Int):=wrap64 (by omega) (by omega)
def WV (t:Th) (x:Ask):AV:=.agg [ST x.path,az x.gB.a,az x.gB.b,az x.gB.c,az x.gB.d,bG x.count,bG x.prio,bG x.fB,SL (t _ fun _=>x.bZ.map Term.cells)]
abbrev U8 (x:Int):AV:=.d (.int .u8 x)
def Cx:List (List D):=[[D.str [97]],[D.str [97,47,98]],[D.str [98]],[D.str [206,177,206,178]]]
theorem M4 (k:Nat):(0≤((k%4:Nat):Int))∧((k%4:Nat):Int)<Cx.length∧∀r,r∈Cx→r.length=1:=by
 refine ⟨by omega,?_,by decide+revert⟩
 show ((k%4:Nat):Int)<(4:Nat)
 omega
theorem M5 (k:Nat):Cx.getD ((k%4:Nat):Int).toNat []=[D.str (yP.getD (k%4) [])]:=by
 have:∀k<4,Cx.getD ((k:Nat):Int).toNat []=[D.str (yP.getD k [])]
  |0,_=>rfl
  |1,_=>rfl
  |2,_=>rfl
  |3,_=>rfl
  |k+4,h=>by omega
 exact this _ (Nat.mod_lt _ (by decide))
theorem Se (ht:TT t) (nm:aQ) (a b c d:Int) {lb:List (List D)} (up:Bool) (TC:aQ) (a' b' c' d':Int) {lb':List (List D)} (WW:Bool) {r:Bool} (hr:r=!Op.bytesLess TC nm):
 FC 145 [.agg [ST TC,az a',az b',az c',az d',SL lb',BL WW],.ptr 0 0] [.var [ST nm,az a,az b,az c,az d,SL lb,BL up]] (.ret (BL r)) [.var [ST nm,az a,az b,az c,az d,SL lb,BL up]]:=by
 refine bL ht (aI:=[.var [ST nm,az a,az b,az c,az d,SL lb,BL up]]) Tryz.func145 rfl rfl (N:=9) rfl rfl (n:=1) rfl rfl ?_
 cbv
 refine ax trv trv rfl rfl rfl ?_
 (simp only [ht,hr];done)
theorem GZ (ht:TT t) (nm:aQ) (a b c d:Int) (lb:List (List D)) (up:Bool) {l:List (Node)} {es:List (List D)} (aA:es=l.map Node.cells) (f:Nat) (p:Node→Bool) (hl:l.length<9223372036854775807)
 (hf:∀x∈l,FC f [.agg [.d (.str x.name),.d (.int .u64 x.cap.a),.d (.int .u64 x.cap.b),.d (.int .u64 x.cap.c),.d (.int .u64 x.cap.d),.d (.sl (x.labels.map cZ.cells)),.d (.bool x.up)],.ptr 0 0] [.var [ST nm,az a,az b,az c,az d,SL lb,BL up]] (.ret (BL (p x))) [.var [ST nm,az a,az b,az c,az d,SL lb,BL up]]) {r:Int} (hr:r=idxOf p l):FC 112 [SL es,.fn f [.ptr 0 0]] [.var [ST nm,az a,az b,az c,az d,SL lb,BL up]] (.ret (bG r)) [.var [ST nm,az a,az b,az c,az d,SL lb,BL up]]:=by
 have hel:es.length=l.length:=by rw [aA,lgM]
 obtain ⟨J,hJ⟩:∃J:Nat→Nat→Prop,∀n v,J n v↔(v+n=l.length∧∀i<v,∀x,l[i]?=some x→p x=false):=⟨fun n v=>v+n=l.length∧∀i<v,∀x,l[i]?=some x→p x=false,fun _ _=>Iff.rfl⟩
 refine bL ht (aI:=[.var [ST nm,az a,az b,az c,az d,SL lb,BL up]]) Tryz.func112 rfl rfl (N:=19) rfl rfl (n:=1) rfl rfl ?_
 cbv
 refine bI ⟨[0,1,7,8],[],[]⟩ (σ:=Nat) (fun k=>[(8,bG (t _ fun _=>(k:Int)))]) (fun _=>[]) J ?_
 cbv
 refine aC ⟨l.length,0,(hJ _ _).2 ⟨by omega,by intro i hi;simp at hi⟩,by simp only [ht];rfl,?_⟩
 rintro n k hj
 obtain ⟨h2,h3⟩:=(hJ _ _).1 hj
 clear hj
 cbv
 refine an (fun h=>?_) (fun h=>?_)
 ·simp only [ht,aa,decide_eq_true_eq] at h
  have hk:k<l.length:=by omega
  obtain ⟨x,hx⟩:∃x,l[k]?=some x:=⟨l[k],by simp⟩
  have oo:x∈l:=List.mem_of_getElem? hx
  have gG:=hf x oo
  obtain ⟨px,hpx⟩:∃b,b=p x:=⟨_,rfl⟩
  rw [←hpx] at gG
  obtain ⟨TC,⟨a',b',c',d'⟩,lb',WW⟩:=x;obtain ⟨EY,lI⟩:∃lr:List (List D),lr=lb'.map cZ.cells:=⟨_,rfl⟩;simp only [←lI] at gG
  cbv
  refine cI [.str TC,.int .u64 a',.int .u64 b',.int .u64 c',.int .u64 d',.sl EY,.bool WW] ?_ ?_ ?_
  ·simp only [ht,aa];refine ⟨by omega,h,?_⟩;rw [aA];intro r hr;obtain ⟨y,_,rfl⟩:=List.mem_map.1 hr;rfl
  ·simp [ht,aa,aA,hx,lI]
  cbv
  refine dV trv gG ?_
  cbv
  refine an (fun hb=>?_) (fun hb=>?_)
  ·cbv
   refine ax trv trv rfl rfl rfl ?_
   have e:=de hx (hpx▸hb) h3
   simp only [ht,aa,hr,idxOf,e]
  cbv
  refine aC ⟨n-1,k+1,⟨by omega,(hJ _ _).2 ⟨by omega,?_⟩⟩,?_⟩
  ·intro i hi y hy
   by_cases hik:i<k
   ·exact h3 i hik y hy
   have:i=k:=by omega
   subst this;rw [hx] at hy;cases hy;rw [←hpx];exact hb
  simp only [ht,aa,aD (show k<9223372036854775807 by omega)];rfl
 simp only [ht,aa,decide_eq_false_iff_not] at h
 have hk:¬k<l.length:=by omega
 clear h
 cbv
 refine ax trv trv rfl rfl rfl ?_
 rw [hr,idxOf,dA]
 intro i y hy
 have:i<l.length:=by
  rcases Nat.lt_or_ge i l.length with h'|h';· exact h'
  simp [List.getElem?_eq_none h'] at hy
 exact h3 i (by omega) y hy
theorem qP (ht:TT t) {l:List Node} {x:Node} {k:Nat} {i:Int} {lr:List (List D)} (hi:i=k) (hk:k≤l.length) (hl:l.length<1000000) (hlr:lr=x.labels.map cZ.cells):
 FC 146 [.ow 0 7 (t _ fun _=>(l.map Node.cells).length),bG i,.cl [[.str x.name,.int .u64 x.cap.a,.int .u64 x.cap.b,.int .u64 x.cap.c,.int .u64 x.cap.d,.sl lr,.bool x.up]]] [.row 7 (t _ fun _=>l.map Node.cells)] (.ret (SL (t _ fun _=>(l.take k++x::l.drop k).map Node.cells))) [.dead]:=by
 simp only [ht];subst hi hlr
 refine nO (args':=[.ow 0 7 (l.map Node.cells).length,bG k,SL [Node.cells x]]) ?_ (Cu ht (by simp) (by simpa using hk) ?_ rfl (by simpa using hl) (by simp))
 ·intro β w ok vs h
  simp only [ak] at h ⊢
  obtain ⟨u1,VH,rfl,h1,u2,LC,rfl,h2,u3,Sf,rfl,h3,h4⟩:=h
  exact ⟨u1,_,rfl,h1,u2,_,rfl,h2,u3,Sf,rfl,IB h3,h4⟩
 intro r hr;obtain ⟨y,_,rfl⟩:=List.mem_map.1 hr;rfl
theorem nW (ht:TT t) {l:List Node} {ps:List Place} {es qs:List (List D)} (aA:es=l.map Node.cells) (eU:qs=ps.map Place.cells) (nm:aQ) (a b c d:Int) {lb:List cZ} {lr:List (List D)} (hlr:lr=lb.map cZ.cells) (up:Bool) (hl:l.length<1000000000) (hn:nm.length<9223372036854775807) (hlb:lb.length<1000000000) (uO:∀p∈lb,p.sm):
 FC 93 [.agg [SL es,SL qs],.agg [ST nm,az a,az b,az c,az d,SL lr,BL up]] [] (.ret (mC t (t _ fun _=>o6 ⟨l,ps⟩ ⟨nm,⟨a,b,c,d⟩,lb,up⟩))) []:=by
 refine bL ht (aI:=[]) Tryz.func93 rfl rfl (N:=51) rfl rfl (n:=0) rfl rfl ?_
 cbv
 have av:es.length=l.length:=by rw [aA,lgM]
 have aK:qs.length=ps.length:=by rw [eU,lgM]
 have gz:lr.length=lb.length:=by rw [hlr,lgM]
 refine aZ trv (qp ht _ ‹_›) trv rfl rfl (fun r0 cF=>?_)
 simp only [ht] at cF
 cbv
 refine an (fun h1=>?_) (fun h1=>?_)
 ·simp [ht] at h1
  cbv
  refine ax trv trv rfl rfl rfl ?_
  (simp only [ht,o6];grind)
 simp [ht] at h1
 cbv
 refine aZ trv (J7 ht ‹_› ‹_› ‹_›) trv rfl rfl (fun r2 fh=>?_)
 simp only [ht] at fh
 cbv
 refine an (fun h3=>?_) (fun h3=>?_)
 ·simp [ht] at h3
  cbv
  refine ax trv trv rfl rfl rfl ?_
  (simp only [ht,o6];grind)
 simp [ht] at h3
 cbv
 refine aZ trv (EX ht _ ‹_› (by omega)) trv rfl rfl (fun r4 eK=>?_)
 simp only [ht] at eK
 cbv
 refine an (fun h5=>?_) (fun h5=>?_)
 ·simp [ht] at h5
  cbv
  refine ax trv trv rfl rfl rfl ?_
  (simp only [ht,o6];grind)
 simp [ht] at h5
 cbv
 refine an (fun h6=>?_) (fun h6=>?_)
 ·simp [ht,aa,av] at h6
  cbv
  refine ax trv trv rfl rfl rfl ?_
  (simp only [ht,o6];grind)
 simp [ht,aa,av] at h6
 cbv
 (obtain ⟨r9,j8⟩:∃r,r=idxOf (fun o:Node=>!Op.bytesLess o.name nm) l:=⟨_,rfl⟩;refine dx [1] trv rfl rfl (GZ ht nm a b c d lr true aA 145 (fun o:Node=>!Op.bytesLess o.name nm) (by omega) (fun x _=>Se ht nm a b c d true x.name x.cap.a x.cap.b x.cap.c x.cap.d x.up rfl) j8) (cj ?_);have ec:=cE j8;clear j8;rcases ec with ⟨e1,e2,e3⟩|⟨i,x,hi,hil,e1,e2,e3,e4⟩)
 ·cbv
  refine an (fun h7=>?_) (fun h7=>?_)
  ·simp [ht] at h7
   cbv
   refine c7 [false,false,false,false,false,false,true,true,true] (by kernel_rfl) (by kernel_rfl) ?_
   cbv
   iterate 2 refine gI (by simp) ?_
   refine .inr (Ep trv (nV ht ‹_› ‹_›) trv rfl (.inr rfl) rfl ?_)
   cbv
   iterate 3 refine gI (by simp) ?_
   refine dx [3] trv rfl rfl (qP ht (l:=l) (x:=⟨nm,⟨a,b,c,d⟩,lb,true⟩) (k:=pat l nm) (by (simp [ht,pat,e2,av];done)) (by (simp [pat,e2];done)) (by simp only [aa] at*;omega) hlr) (cj ?_)
   cbv
   refine ax trv trv rfl rfl rfl ?_
   (simp only [ht,o6];grind)
  simp [ht] at h7
  omega
 cbv
 refine an (fun h8=>?_) (fun h8=>?_)
 ·simp [ht] at h8
  (simp only [aa] at*;omega)
 simp [ht] at h8
 cbv
 refine c7 [false,false,false,false,false,false,true,true,true] (by kernel_rfl) (by kernel_rfl) ?_
 cbv
 iterate 2 refine gI (by simp) ?_
 refine .inr (Ep trv (nV ht ‹_› ‹_›) trv rfl (.inr rfl) rfl ?_)
 cbv
 iterate 3 refine gI (by simp) ?_
 refine dx [3] trv rfl rfl (qP ht (l:=l) (x:=⟨nm,⟨a,b,c,d⟩,lb,true⟩) (k:=pat l nm) (by (simp only [pat,e3];exact hi)) (by (simp only [pat,e3];omega)) (by simp only [aa] at*;omega) hlr) (cj ?_)
 cbv
 refine ax trv trv rfl rfl rfl ?_
 (simp only [ht,o6];grind)
def M6 (t:Th) (x:Ai):AV:=.agg [az x.first,SL (t _ fun _=>x.l.map eI.cells)]
theorem yV (ht:TT t) {es:List (List D)} (hr:∀r∈es,r.length=3):FC 164 [SL es] [] (.ret (.cl es)) []:=by
 refine bL ht (aI:=[]) Tryz.func164 rfl rfl (N:=9) rfl rfl (n:=0) rfl rfl ?_
 cbv
 refine ⟨?_,Gz trv rfl ?_⟩
 ·simp only [ht,aa,bJ];exact ⟨⟨⟨by omega,Int.le_refl _⟩,trv⟩,hr⟩
 simp [ht,aa,gq]
theorem PL (ht:TT t) (first rd id kd:Int):
 FC 110 [.agg [az first,SL []],.agg [az rd,az id,bG kd]] [] (.ret (M6 t (t _ fun _=>tell ⟨first,[]⟩ ⟨rd,id,kd⟩))) []:=by
 refine bL ht (aI:=[]) Tryz.func110 rfl rfl (N:=25) rfl rfl (n:=0) rfl rfl ?_
 cbv
 refine c7 [false,false,false,false,false,true,true,true] (by kernel_rfl) (by kernel_rfl) ?_
 cbv
 iterate 2 refine gI (by simp) ?_
 refine .inl ?_
 (refine mB (fun g=>⟨trv,trv,yV ht (by simp)⟩) rfl rfl rfl ?_)
 cbv
 iterate 2 refine gI (by simp) ?_
 refine ⟨?_,?_⟩
 ·(simp [ht];done)
 refine ⟨?_,?_⟩
 ·(simp [ht];done)
 cbv
 refine an (fun h0=>?_) (fun h0=>?_)
 ·simp [ht] at h0
 simp [ht] at h0
 cbv
 refine ax trv (by simp [ht]) rfl rfl rfl ?_
 (simp [ht,tell,eI.cells];done)
theorem PM (ht:TT t) (first rd id kd:Int) (e0:List D) (er:List (List D)) {l:List eI} (aA:e0::er=l.map eI.cells) (hl:l.length<1000000):
 FC 110 [.agg [az first,SL (e0::er)],.agg [az rd,az id,bG kd]] [] (.ret (M6 t (t _ fun _=>tell ⟨first,l⟩ ⟨rd,id,kd⟩))) []:=by
 have hr:∀r∈e0::er,r.length=3:=by rw [aA];intro r hr;obtain ⟨y,_,rfl⟩:=List.mem_map.1 hr;rfl
 have hle:(e0::er).length=l.length:=by rw [aA,lgM]
 refine bL ht (aI:=[]) Tryz.func110 rfl rfl (N:=25) rfl rfl (n:=0) rfl rfl ?_
 cbv
 refine c7 [false,false,false,false,false,true,true,true] (by kernel_rfl) (by kernel_rfl) ?_
 cbv
 iterate 2 refine gI (by simp) ?_
 refine .inl ?_
 (refine mB (fun g=>⟨trv,trv,yV ht hr⟩) rfl rfl rfl ?_)
 cbv
 iterate 2 refine gI (by simp) ?_
 refine ⟨?_,?_⟩
 ·(simp only [ht];grind)
 refine ⟨?_,?_⟩
 ·(simp [ht];done)
 cbv
 refine an (fun h0=>?_) (fun h0=>?_)
 ·simp [ht,aa] at h0
  cbv
  refine ⟨?_,?_⟩
  ·(simp only [ht,bJ];refine ⟨by simp,⟨by omega,by simp;omega⟩,?_⟩;intro r h;rcases List.mem_append.1 h with h|h;exact hr r h;simp at h;subst h;rfl)
  cbv
  refine ax trv trv rfl rfl rfl ?_
  (simp only [aa] at h0;simp only [List.length_cons] at hle;have tl:tell ⟨first,l⟩ ⟨rd,id,kd⟩=⟨u64 (first+1),(l++[(⟨rd,id,kd⟩:eI)]).drop 1⟩:=(by unfold tell;rw [if_pos (by simp only [List.length_append,List.length_cons,List.length_nil];omega)]);simp only [ht,tl,aA,gq,u64,nP];rw [List.map_drop,List.map_append];rfl)
 simp [ht,aa] at h0
 cbv
 refine ax trv (by simp [ht]) rfl rfl rfl ?_
 (simp only [aa] at h0;simp only [List.length_cons] at hle;have tl:tell ⟨first,l⟩ ⟨rd,id,kd⟩=⟨first,l++[(⟨rd,id,kd⟩:eI)]⟩:=(by unfold tell;rw [if_neg (by simp only [List.length_append,List.length_cons,List.length_nil];omega)]);simp only [ht,tl,aA];rw [List.map_append];rfl)
theorem PN (ht:TT t) (first rd id kd:Int) {l:List eI} {es:List (List D)} (aA:es=l.map eI.cells) (hl:l.length<1000000):
 FC 110 [.agg [az first,SL es],.agg [az rd,az id,bG kd]] [] (.ret (M6 t (t _ fun _=>tell ⟨first,l⟩ ⟨rd,id,kd⟩))) []:=by
 cases l with
 |nil=>subst aA;exact PL ht first rd id kd
 |cons x l=>subst aA;exact PM ht first rd id kd _ _ rfl hl
theorem EZ {l:List aQ} {k:Nat} {x:aQ}:RV (prevStr l k) x=(decide (k=0)||match l[k-1]? with|none=>true|some y=>!sle x y):=by
 cases k with
 |zero=>rfl
 |succ k=>simp only [prevStr,RV];cases h:l[k]?<;>simp [h]
theorem J8 (ht:TT t) (k:aQ) (n:Bool) {vs:List aQ} {vr:List (List D)} (wH:vr=vs.map bg) (hk:k.length<9223372036854775807) (hl:vs.length<1000000000) (hs:∀v∈vs,v.length<9223372036854775807):
 FC 208 [.agg [ST k,BL n,SL vr]] [] (.ret (cP (t _ fun _=>mright ⟨k,n,vs⟩))) []:=by
 refine bL ht (aI:=[]) Tryz.func208 rfl rfl (N:=40) rfl rfl (n:=0) rfl rfl ?_
 cbv
 have eG:vr.length=vs.length:=by rw [wH,lgM]
 obtain ⟨J0,fI⟩:∃J0:Nat→Int→Prop,∀n i,J0 n i↔(∃q:Nat,i=q∧q+n=vs.length∧vT none vs=vT (prevStr vs q) (vs.drop q)):=⟨fun n v=>match v with|i=>(∃q:Nat,i=q∧q+n=vs.length∧vT none vs=vT (prevStr vs q) (vs.drop q)),fun _ _=>Iff.rfl⟩
 refine bI ⟨[1,6,7,8],[],[]⟩ (σ:=Int) (fun v=>[(8,.d (.int .i64 (t _ fun _=>v)))]) (fun v=>[]) J0 ?_
 cbv
 refine aC ⟨vs.length,_,(fI _ _).2 ?_,by simp only [ht];rfl,?_⟩
 ·exact ⟨0,rfl,by simp,by simp [prevStr]⟩
 rintro n i hj
 replace hj:=(fI _ _).1 hj
 obtain ⟨k,rfl,j1,j4⟩:=hj
 cbv
 refine an (fun h1=>?_) (fun h1=>?_)
 ·simp [ht,aa,eG] at h1
  cbv
  refine jZ ht wH (cT:=dN t) (by (simp only [ht,aa];omega)) (by (simp only [ht,aa];omega)) (fun _=>rfl) (fun _=>rfl) (fun x2 nj=>?_)
  simp [ht,aa] at nj
  simp only [gu nj,vT] at j4
  have sx2:=hs _ (List.mem_of_getElem? nj)
  cbv
  refine aZ trv (qp ht _ ‹_›) trv rfl rfl (fun r3 ku=>?_)
  simp only [ht] at ku
  cbv
  iterate 8 refine gI (by simp [ht]) ?_
  (refine UK ht wH (cT:=dN t) (k-1) (fun g=>by simp [ht,aa] at g ⊢;simp [g]) (fun g=>by simp [ht,aa] at g;simp only [ht,aa];exact ⟨Ce (by omega) (by omega),by omega⟩) (fun _=>rfl) (fun _=>by simp only [dN]) (fun y my=>?_);simp [ht,aa] at my)
  cbv
  iterate 2 refine gI (by simp [ht]) ?_
  refine gI (by simp [ht,ah];intros;simp_all) ?_
  refine pI (by simp [ht]) ?_
  refine an (fun h4=>?_) (fun h4=>?_)
  ·simp [ht,aa] at h4
   cbv
   refine ax trv trv rfl rfl rfl ?_
   (simp only [ht];rw [EZ] at j4;grind [mright,sle])
  simp [ht,aa] at h4
  cbv
  refine cL _ (by simp only [ht];rfl) (n-1) ?_ ((fI _ _).2 ?_)
  ·omega
  simp only [aa]
  refine ⟨k+1,aD (by omega),by omega,?_⟩
  (rw [EZ] at j4;simp only [prevStr];rw [nj];grind [sle])
 simp [ht,aa,eG] at h1
 cbv
 refine aZ trv (qp ht _ ‹_›) trv rfl rfl (fun r5 tP=>?_)
 simp only [ht] at tP
 cbv
 iterate 4 refine gI (by simp) ?_
 refine pI (by simp) ?_
 refine ax trv trv rfl rfl rfl ?_
 (rw [List.drop_eq_nil_of_le (by omega),vT] at j4;have e:decide ((vs.length:Int)≤4)=decide (vs.length≤4):=(by rw [decide_eq_decide];omega);simp [ht,aa,mright,j4,tP,eG,e];done)
theorem J9 (ht:TT t) {l:List (Term)} {es:List (List D)} (aA:es=l.map Term.cells) (f:Nat) (p:Term→Bool) (hl:l.length<9223372036854775807)
 (hf:∀x∈l,FC f [.agg [ST x.key,BL x.no,SL (x.lS.map bg)]] [] (.ret (BL (p x))) []) {r:Int} (hr:r=idxOf p l):FC 114 [SL es,.fn f []] [] (.ret (bG r)) []:=by
 have hel:es.length=l.length:=by rw [aA,lgM]
 obtain ⟨J,hJ⟩:∃J:Nat→Nat→Prop,∀n v,J n v↔(v+n=l.length∧∀i<v,∀x,l[i]?=some x→p x=false):=⟨fun n v=>v+n=l.length∧∀i<v,∀x,l[i]?=some x→p x=false,fun _ _=>Iff.rfl⟩
 refine bL ht (aI:=[]) Tryz.func114 rfl rfl (N:=19) rfl rfl (n:=0) rfl rfl ?_
 cbv
 refine bI ⟨[0,1,7,8],[],[]⟩ (σ:=Nat) (fun k=>[(8,bG (t _ fun _=>(k:Int)))]) (fun _=>[]) J ?_
 cbv
 refine aC ⟨l.length,0,(hJ _ _).2 ⟨by omega,by intro i hi;simp at hi⟩,by simp only [ht];rfl,?_⟩
 rintro n k hj
 obtain ⟨h2,h3⟩:=(hJ _ _).1 hj
 clear hj
 cbv
 refine an (fun h=>?_) (fun h=>?_)
 ·simp only [ht,aa,decide_eq_true_eq] at h
  have hk:k<l.length:=by omega
  obtain ⟨x,hx⟩:∃x,l[k]?=some x:=⟨l[k],by simp⟩
  have oo:x∈l:=List.mem_of_getElem? hx
  have gG:=hf x oo
  obtain ⟨px,hpx⟩:∃b,b=p x:=⟨_,rfl⟩
  rw [←hpx] at gG
  obtain ⟨a,b,c⟩:=x;obtain ⟨EY,lI⟩:∃lr:List (List D),lr=c.map bg:=⟨_,rfl⟩;simp only [←lI] at gG
  cbv
  refine cI [.str a,.bool b,.sl EY] ?_ ?_ ?_
  ·simp only [ht,aa];refine ⟨by omega,h,?_⟩;rw [aA];intro r hr;obtain ⟨y,_,rfl⟩:=List.mem_map.1 hr;rfl
  ·simp [ht,aa,aA,hx,lI,Term.cells]
  cbv
  refine dV trv gG ?_
  cbv
  refine an (fun hb=>?_) (fun hb=>?_)
  ·cbv
   refine ax trv trv rfl rfl rfl ?_
   have e:=de hx (hpx▸hb) h3
   simp only [ht,aa,hr,idxOf,e]
  cbv
  refine aC ⟨n-1,k+1,⟨by omega,(hJ _ _).2 ⟨by omega,?_⟩⟩,?_⟩
  ·intro i hi y hy
   by_cases hik:i<k
   ·exact h3 i hik y hy
   have:i=k:=by omega
   subst this;rw [hx] at hy;cases hy;rw [←hpx];exact hb
  simp only [ht,aa,aD (show k<9223372036854775807 by omega)];rfl
 simp only [ht,aa,decide_eq_false_iff_not] at h
 have hk:¬k<l.length:=by omega
 clear h
 cbv
 refine ax trv trv rfl rfl rfl ?_
 rw [hr,idxOf,dA]
 intro i y hy
 have:i<l.length:=by
  rcases Nat.lt_or_ge i l.length with h'|h';· exact h'
  simp [List.getElem?_eq_none h'] at hy
 exact h3 i (by omega) y hy
theorem Ka (ht:TT t) {l:List (Term)} {es:List (List D)} (aA:es=l.map Term.cells) (f:Nat) (p:Term→Bool) (hl:l.length<9223372036854775807)
 (hf:∀x∈l,FC f [.agg [ST x.key,BL x.no,SL (x.lS.map bg)]] [] (.ret (BL (p x))) []) {r:Bool} (hr:r=l.any p):FC 74 [SL es,.fn f []] [] (.ret (BL r)) []:=by
 obtain ⟨k,hk⟩:∃k,k=idxOf p l:=⟨_,rfl⟩
 refine bL ht (aI:=[]) Tryz.func74 rfl rfl (N:=9) rfl rfl (n:=0) rfl rfl ?_
 cbv
 refine dV trv (J9 ht aA f p hl hf hk) ?_
 cbv
 refine ax trv trv rfl rfl rfl ?_
 simp only [ht,hr,iu,hk]
theorem G0 (ht:TT t) (k:aQ) (n:Bool) {vs:List aQ} {vr:List (List D)} (wH:vr=vs.map bg) (hk:k.length<9223372036854775807) (hl:vs.length<1000000000) (hs:∀v∈vs,v.length<9223372036854775807):
 FC 207 [.agg [ST k,BL n,SL vr]] [] (.ret (cP (t _ fun _=>!mright ⟨k,n,vs⟩))) []:=by
 refine bL ht (aI:=[]) Tryz.func207 rfl rfl (N:=6) rfl rfl (n:=0) rfl rfl ?_
 cbv
 have eG:vr.length=vs.length:=by rw [wH,lgM]
 refine aZ trv (J8 ht _ _ ‹_› ‹_› ‹_› ‹_›) trv rfl rfl (fun r0 cF=>?_)
 simp only [ht] at cF
 cbv
 refine ax trv trv rfl rfl rfl ?_
 (simp [*];done)
theorem E0 (ht:TT t) {l:List Term} {es:List (List D)} (aA:es=l.map Term.cells) (hl:l.length<1000000000) (uO:∀x∈l,x.sm):
 FC 74 [SL es,.fn 207 []] [] (.ret (cP (t _ fun _=>l.any fun x=>!mright x))) []:=by
 simp only [ht];exact Ka ht aA _ _ (by omega) (fun x hx=>by have h:=G0 ht x.key x.no (vs:=x.lS) rfl (uO x hx).1 (uO x hx).2.1 (uO x hx).2.2;simp only [ht,cP] at h;exact h) rfl
theorem Kb (ht:TT t) {l:List Term} {es:List (List D)} (aA:es=l.map Term.cells) (hl:l.length<1000000000) (uO:∀x∈l,x.sm):
 FC 177 [SL es] [] (.ret (cP (t _ fun _=>yD l))) []:=by
 refine bL ht (aI:=[]) Tryz.func177 rfl rfl (N:=11) rfl rfl (n:=0) rfl rfl ?_
 cbv
 have av:es.length=l.length:=by rw [aA,lgM]
 refine gI (by simp [ht]) ?_
 refine cY (fun g0=>⟨by simp [ht] at g0 ⊢;exact g0,trv,E0 ht ‹_› ‹_› ‹_›⟩) rfl rfl (fun r1 dM=>?_)
 simp only [ht] at dM
 cbv
 refine gI (by simp [ht]) ?_
 refine pI (by simp [ht]) ?_
 refine ax trv trv rfl rfl rfl ?_
 (simp only [ht,aa,yD];grind)
end Dem
end
