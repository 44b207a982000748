/- JOINED TEXTS: Rw4. -/
import Derived.Test.YtegnablmooijmaaDoorJ33
import Derived.Test.YtegnablmooijmaaDoorJ34
import Derived.Test.YtegnablmooijmaaDoorRows
set_option linter.unusedSimpArgs false
set_option linter.unusedVariables false
/- THE ROW: fails. -/
open Go Go.Proofs Go.ChangeShapes Go.WideShapes Go.RowKit
open Go.Proofs.YtegnablmooijmaaDoor
namespace Dem
set_option maxRecDepth 100000
theorem prm4 : Tryd.f4.params.toList = [22, 5] := by kernel_rfl
theorem fails_lifted (os : Os) (started : os.Started) (H : Type) (enc : TypeId × Value → H) :
    ReturnsInHanded {} Tryd.checked os 4 .any (fun w args => (Rows.poolFailsSpec.pre enc Tryd.checked.prog Tryd.f4 [] false w args ∧ laidMetH Tryd.prog laidL w) ∧ sizedMet enc Tryd.checked.prog Tryd.f4 (OpenSpec.ofChange Rows.poolFailsSpec) false w args)
      (Rows.poolFailsSpec.post enc Tryd.checked.prog Tryd.f4 false true false false) := by
  refine lifted_of started Tryd.func4 (by kernel_rfl) rfl (by kernel_rfl) (by kernel_rfl) ?_
    (ChangeSpec.witness_shaped (enc := enc) (C := Tryd.checked) (os := os) (X := fun w _ => laidMetH Tryd.prog laidL w) false (World.doorLaid Tryd.prog 400 os) #[.slice none 0 0, .int .u8 0] 8 rfl (World.shaped_of_RefB (by kernel_rfl) (by kernel_rfl)) (by kernel_rfl) (by kernel_rfl) (by kernel_rfl) (door_met os _)) ?_
  · intro ds hd
    rw [prm4] at hd
    match ds, hd with
    | [_d0, _d1], _ => exact ⟨rfl, rfl, rfl⟩
  · intro W args ds p hL hA hval
    rw [prm4] at hA
    obtain ⟨v0, vs0, d0, ds0, p0, q0, e0, f0, t0, hA⟩ := trodAll_cons hA
    obtain ⟨v1, vs1, d1, ds1, p1, q1, e1, f1, t1, hA⟩ := trodAll_cons hA
    obtain ⟨en, fn⟩ := trodAll_nil hA
    have ea : args = ⟨[v0, v1]⟩ := by cases args; simp_all
    subst ea
    obtain ⟨b0, hv0⟩ := hval 0 22 v0 (by kernel_rfl) rfl
    obtain ⟨l0, r0, hu0, hn0⟩ := arg_laids hv0 t0
    obtain ⟨b1, hv1⟩ := hval 1 5 v1 (by kernel_rfl) rfl
    obtain ⟨k1, r1, hk1⟩ := arg_byte hv1 t1
    exact calls_true hL (fun _ _ => rfl) (by simp only [RepAs]; exact ⟨v0, _, rfl, r0, v1, _, rfl, r1, rfl⟩) (c_poolFails (fun _ _ => rfl) rfl hu0 (by have : maxLen < 9223372036854775808 := (by decide); omega) k1 hk1 rfl)
theorem fails_row : Rows.PoolFailsSaid :=
  OpenClaim.holds_of_wide 4 Tryd.f4 rfl rfl rfl rfl rfl rfl rfl ⟨rfl, rfl, rfl, rfl, rfl⟩ rfl rfl rfl rfl rfl (by kernel_rfl) Tryd.func4 (by kernel_rfl)
    (of_decide_eq_true (by kernel_rfl)) (by unfold Func.isWrapper; first | (rw [if_pos (by decide +kernel)]; kernel_rfl) | (rw [if_neg (by decide +kernel)]; exact ⟨rfl, rfl⟩))
    (fun os started H enc _ => fails_lifted os started H enc)
end Dem
