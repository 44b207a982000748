/- Parts of a proof, joined. -/
import Derived.Test.YtjnbpclolnmimaaGreatDoorJ26
import Derived.Test.YtjnbpclolnmimaaGreatDoorJ41
import Derived.Test.YtjnbpclolnmimaaGreatDoorRows
set_option linter.unusedSimpArgs false
set_option linter.unusedVariables false
set_option maxRecDepth 100000
set_option maxHeartbeats 4000000
open Go Go.Proofs Go.ChangeShapes Go.WideShapes Go.RowKit
open Go.Proofs.YtjnbpclolnmimaaGreatDoor
namespace Dem
theorem Ya:Tryz.f8.params.toList=[5,33,5,85]:=by kernel_rfl
theorem C9 (os:Os) (started:os.Started) (H:Type) (enc:TypeId×Value→H):
 ReturnsInHanded {} Tryz.checked os 8 .any (fun w args=>(Rows.stateBeginsSpec.pre enc Tryz.checked.prog Tryz.f8 [] false w args∧laidMetH Tryz.prog mV w)∧sizedMet enc Tryz.checked.prog Tryz.f8 (OpenSpec.ofChange Rows.stateBeginsSpec) false w args)
  (Rows.stateBeginsSpec.post enc Tryz.checked.prog Tryz.f8 false true false false):=by
 refine sM started Tryz.func8 (by kernel_rfl) rfl (by kernel_rfl) (by kernel_rfl) ?_
  (ChangeSpec.witness_shaped (enc:=enc) (C:=Tryz.checked) (os:=os) (X:=fun w _=>laidMetH Tryz.prog mV w) false (HT os) #[.int .u8 0,.slice none 0 0,.int .u8 0,.slice none 0 0] 8 rfl (World.shaped_of_RefB (by kernel_rfl) (by kernel_rfl)) (by kernel_rfl) (by kernel_rfl) (by kernel_rfl) (vW os _)) ?_
 ·intro ds hd
  rw [Ya] at hd
  match ds,hd with
  |[_d0,_d1,_d2,_d3],_=>exact ⟨rfl,rfl,rfl⟩
 intro W args ds p hL hA hval
 rw [Ya] at hA
 obtain ⟨v0,CJ,d0,ds0,p0,q0,e0,f0,t0,hA⟩:=trodAll_cons hA
 obtain ⟨v1,vs1,d1,ds1,p1,q1,e1,f1,t1,hA⟩:=trodAll_cons hA
 obtain ⟨v2,vs2,d2,ds2,p2,q2,e2,f2,t2,hA⟩:=trodAll_cons hA
 obtain ⟨v3,vs3,d3,ds3,p3,q3,e3,f3,t3,hA⟩:=trodAll_cons hA
 obtain ⟨en,fn⟩:=trodAll_nil hA
 have ea:args=⟨[v0,v1,v2,v3]⟩:=by cases args;simp_all
 subst ea
 obtain ⟨b0,QT⟩:=hval 0 5 v0 (by kernel_rfl) rfl
 obtain ⟨k0,r0,hk0⟩:=wS QT t0
 obtain ⟨b1,SS⟩:=hval 1 33 v1 (by kernel_rfl) rfl
 obtain ⟨l1,r1,Pu,CR⟩:=yz SS t1
 obtain ⟨b2,hv2⟩:=hval 2 5 v2 (by kernel_rfl) rfl
 obtain ⟨k2,r2,hk2⟩:=wS hv2 t2
 obtain ⟨b3,hv3⟩:=hval 3 85 v3 (by kernel_rfl) rfl
 obtain ⟨l3,r3,hu3,hn3⟩:=Pn hv3 t3
 exact pM hL (fun _ _=>rfl) (by simp only [aj];exact ⟨v0,_,rfl,r0,v1,_,rfl,r1,v2,_,rfl,r2,v3,_,rfl,r3,rfl⟩) (C8 (fun _ _=>rfl) (qb (fun _ _=>rfl)) k0 hk0 rfl rfl Pu (by have:maxLen<9223372036854775808:=(by decide);omega) k2 hk2 rfl rfl hu3 (by have:maxLen<9223372036854775808:=(by decide);omega))
theorem L5:Rows.StateBeginsSaid:=
 OpenClaim.holds_of_wide 8 Tryz.f8 rfl rfl rfl rfl rfl rfl rfl ⟨rfl,rfl,rfl,rfl,rfl⟩ rfl rfl rfl rfl rfl (by kernel_rfl) Tryz.func8 (by kernel_rfl)
  (of_decide_eq_true (by kernel_rfl)) (by unfold Func.isWrapper;first|(rw [if_pos (by decide+kernel)];kernel_rfl)|(rw [if_neg (by decide+kernel)];exact ⟨rfl,rfl⟩))
  (fun os started H enc _=>C9 os started H enc)
end Dem
