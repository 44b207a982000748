/- Parts of a proof, joined. -/
import Derived.Test.YtmlnckcbblcbbaaGreatDoorW11
import Derived.Test.YtmlnckcbblcbbaaGreatDoorW12
import Derived.Test.YtmlnckcbblcbbaaGreatDoorRows
set_option linter.all false
set_option maxRecDepth 100000
set_option maxHeartbeats 4000000
open Go Go.Proofs Go.ChangeShapes Go.WideShapes Go.RowKit
open Go.Proofs.YtmlnckcbblcbbaaGreatDoor
namespace Dem
theorem Xm:Tryz.f3.params.toList=[5,22,23,9]:=by kernel_rfl
theorem Er(os:Os)(started:os.Started)(H:Type)(enc:TypeId×Value->H):
 ReturnsInHanded {} Tryz.checked os 3 .any (λw args=>(Rows.stateFormSpec.pre enc Tryz.checked.prog Tryz.f3 [] false w args/\laidMetH Tryz.prog yq w)/\sizedMet enc Tryz.checked.prog Tryz.f3 (OpenSpec.ofChange Rows.stateFormSpec) false w args)
  (Rows.stateFormSpec.post enc Tryz.checked.prog Tryz.f3 false true false false):=by
 refine MJ started Tryz.func3 (by kernel_rfl) rfl (by kernel_rfl) (by kernel_rfl) ?_
  (ChangeSpec.witness_shaped (enc:=enc) (C:=Tryz.checked) (os:=os) (X:=λw _=>laidMetH Tryz.prog yq w) false (XS os) #[.int .u8 0,.slice none 0 0,.int .u16 0,.string ⟨#[]⟩] 8 rfl (World.shaped_of_RefB (by kernel_rfl) (by kernel_rfl)) (by kernel_rfl) (by kernel_rfl) (by kernel_rfl) (SI os _)) ?_
 .intro ds hd;rw[Xm]at hd;match ds,hd with
  |[_d0,_d1,_d2,_d3],_=>exact⟨rfl,rfl,rfl⟩
 intro W args ds p hL hA hval hz
 rw[Xm]at hA
 obtain⟨v0,Gc,d0,ds0,p0,q0,e0,f0,t0,hA⟩:=trodAll_cons hA
 obtain⟨v1,vs1,d1,ds1,p1,q1,e1,f1,t1,hA⟩:=trodAll_cons hA
 obtain⟨v2,vs2,d2,ds2,p2,q2,e2,f2,t2,hA⟩:=trodAll_cons hA
 obtain⟨v3,vs3,d3,ds3,p3,q3,e3,f3,t3,hA⟩:=trodAll_cons hA
 obtain⟨en,fn⟩:=trodAll_nil hA
 have ea:args=⟨[v0,v1,v2,v3]⟩:=by cases args;simp_all
 subst ea
 have ed:ds=[d0,d1,d2,d3]:=by simp_all
 subst ed
 rw[Xm]at hz
 obtain⟨b0,hv0⟩:=hval 0 5 v0 (by kernel_rfl) rfl
 obtain⟨k0,r0,hk0⟩:=S5 hv0 t0
 obtain⟨b1,hv1⟩:=hval 1 22 v1 (by kernel_rfl) rfl
 obtain⟨l1,r1,XZ,LR⟩:=PW hv1 t1
 obtain⟨b2,hv2⟩:=hval 2 23 v2 (by kernel_rfl) rfl
 obtain⟨k2,r2,hk2⟩:=Wc hv2 t2
 obtain⟨b3,hv3⟩:=hval 3 9 v3 (by kernel_rfl) rfl
 obtain⟨s3,r3,w3⟩:=S6 hv3 t3
 simp only[DataW.weightsEach,vaE,vai]at hz
 exact Mk hL (λ_ _=>rfl) (by simp only[an];exact⟨v0,_,rfl,r0,v1,_,rfl,r1,v2,_,rfl,r2,v3,_,rfl,r3,rfl⟩) (Ll (λ_ _=>rfl) (NR (λ_ _=>rfl)) k0 hk0 rfl rfl XZ (by have:maxLen<9223372036854775808:=(by decide);omega) k2 hk2 rfl s3 (by rw[w3]at hz;have:=(hz s3.length (by simp));have:reachBytes<=140737488355328:=(by decide);omega))
theorem NS:Rows.StateFormSaid:=
 OpenClaim.holds_of_wide 3 Tryz.f3 rfl rfl rfl rfl rfl rfl rfl ⟨rfl,rfl,rfl,rfl,rfl⟩ rfl rfl rfl rfl rfl (by kernel_rfl) Tryz.func3 jf3
  (of_decide_eq_true (by kernel_rfl)) (by unfold Func.isWrapper;first|(rw[if_pos (by decide+kernel)];kernel_rfl)|(rw[if_neg (by decide+kernel)];exact⟨rfl,rfl⟩))
  (λos started H enc _=>Er os started H enc)
end Dem
