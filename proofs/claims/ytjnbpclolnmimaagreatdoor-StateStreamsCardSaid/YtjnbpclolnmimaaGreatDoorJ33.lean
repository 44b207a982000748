/- Parts of a proof, joined. -/
import Derived.Test.YtjnbpclolnmimaaGreatDoorJ26
import Derived.Test.YtjnbpclolnmimaaGreatDoorJ32
import Derived.Test.YtjnbpclolnmimaaGreatDoorRows
set_option linter.unusedSimpArgs false
set_option linter.unusedVariables false
set_option maxRecDepth 100000
set_option maxHeartbeats 4000000
open Go Go.Proofs Go.ChangeShapes Go.WideShapes Go.RowKit
open Go.Proofs.YtjnbpclolnmimaaGreatDoor
namespace Dem
theorem X6:Tryz.f3.params.toList=[22,23]:=by kernel_rfl
theorem CE (os:Os) (started:os.Started) (H:Type) (enc:TypeId×Value→H):
 ReturnsInHanded {} Tryz.checked os 3 .any (fun w args=>(Rows.stateStreamsSpec.pre enc Tryz.checked.prog Tryz.f3 [] false w args∧laidMetH Tryz.prog mV w)∧sizedMet enc Tryz.checked.prog Tryz.f3 (OpenSpec.ofChange Rows.stateStreamsSpec) false w args)
  (Rows.stateStreamsSpec.post enc Tryz.checked.prog Tryz.f3 false true false false):=by
 refine sM started Tryz.func3 (by kernel_rfl) rfl (by kernel_rfl) (by kernel_rfl) ?_
  (ChangeSpec.witness_shaped (enc:=enc) (C:=Tryz.checked) (os:=os) (X:=fun w _=>laidMetH Tryz.prog mV w) false (HT os) #[.slice none 0 0,.int .u64 0] 8 rfl (World.shaped_of_RefB (by kernel_rfl) (by kernel_rfl)) (by kernel_rfl) (by kernel_rfl) (by kernel_rfl) (vW os _)) ?_
 ·intro ds hd
  rw [X6] at hd
  match ds,hd with
  |[_d0,_d1],_=>exact ⟨rfl,rfl,rfl⟩
 intro W args ds p hL hA hval
 rw [X6] at hA
 obtain ⟨v0,CJ,d0,ds0,p0,q0,e0,f0,t0,hA⟩:=trodAll_cons hA
 obtain ⟨v1,vs1,d1,ds1,p1,q1,e1,f1,t1,hA⟩:=trodAll_cons hA
 obtain ⟨en,fn⟩:=trodAll_nil hA
 have ea:args=⟨[v0,v1]⟩:=by cases args;simp_all
 subst ea
 obtain ⟨b0,QT⟩:=hval 0 22 v0 (by kernel_rfl) rfl
 obtain ⟨l0,r0,hn0⟩:=NS QT t0
 obtain ⟨b1,SS⟩:=hval 1 23 v1 (by kernel_rfl) rfl
 obtain ⟨k1,r1,AD⟩:=T9 SS t1
 exact pM hL (fun _ _=>rfl) (by simp only [aj];exact ⟨v0,_,rfl,r0,v1,_,rfl,r1,rfl⟩) (Pk (fun _ _=>rfl) (qb (fun _ _=>rfl)) rfl (by have:maxLen<9223372036854775808:=(by decide);omega) AD)
theorem JA:Rows.StateStreamsSaid:=
 OpenClaim.holds_of_wide 3 Tryz.f3 rfl rfl rfl rfl rfl rfl rfl ⟨rfl,rfl,rfl,rfl,rfl⟩ rfl rfl rfl rfl rfl (by kernel_rfl) Tryz.func3 (by kernel_rfl)
  (of_decide_eq_true (by kernel_rfl)) (by unfold Func.isWrapper;(rw [if_neg (by decide+kernel)];exact ⟨rfl,rfl⟩))
  (fun os started H enc _=>CE os started H enc)
end Dem
