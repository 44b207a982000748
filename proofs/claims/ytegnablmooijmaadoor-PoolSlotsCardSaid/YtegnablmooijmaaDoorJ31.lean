/- JOINED TEXTS: Co27, Br1. -/
import Derived.Test.YtegnablmooijmaaDoorJ12
import Derived.Test.YtegnablmooijmaaDoorJ28
import Derived.Test.YtegnablmooijmaaDoorJ30
import Derived.ChangeSame
import Derived.ChangeArms
import Derived.OpenShut
import Derived.WideShapes
import Derived.Deep.Slices
set_option linter.unusedSimpArgs false
set_option linter.unusedVariables false
section
/- CONTRACTS: the chapter's examples. -/
open Go Dem Go.Proofs
namespace Dem
set_option maxRecDepth 100000
set_option maxHeartbeats 4000000
variable {t : Th}
deriving instance DecidableEq for Pool
deriving instance DecidableEq for GotX
deriving instance DecidableEq for Slot
abbrev B1 : Node := ⟨[98], ⟨4, 4, 0, 0⟩, [], true⟩
abbrev A1 : Node := ⟨[97], ⟨2, 9, 0, 0⟩, [], true⟩
abbrev B0 : Node := ⟨[98], ⟨4, 4, 0, 0⟩, [], false⟩
abbrev Q0 : List Place := [⟨7, [98], ⟨2, 1, 0, 0⟩⟩, ⟨7, [98], ⟨2, 1, 0, 0⟩⟩, ⟨7, [97], ⟨2, 1, 0, 0⟩⟩]
abbrev QB : Str := [2, 1, 97, 2, 9, 0, 0, 0, 1, 1, 98, 4, 4, 0, 0, 0, 1, 3, 7, 1, 98, 2, 1, 0, 0, 7, 1, 98, 2, 1, 0, 0, 7, 1, 97, 2, 1, 0, 0]
theorem xe1 : padd ⟨[], []⟩ ⟨[98], ⟨4, 4, 0, 0⟩, [], false⟩ = (⟨[B1], []⟩, 0) := by decide +kernel
theorem xe2 : padd ⟨[B1], []⟩ ⟨[97], ⟨2, 9, 0, 0⟩, [], false⟩ = (⟨[A1, B1], []⟩, 0) := by decide +kernel
theorem xe3 : padd ⟨[A1, B1], []⟩ ⟨[97], ⟨0, 0, 0, 0⟩, [], false⟩ = (⟨[A1, B1], []⟩, 8) := by decide +kernel
theorem xe4 : play ⟨[A1, B1], []⟩ 7 [[98], [98], [97]] ⟨2, 1, 0, 0⟩ = (⟨[A1, B1], Q0⟩, 0) := by decide +kernel
theorem xe5 : play ⟨[A1, B1], Q0⟩ 8 [[98]] ⟨1, 0, 0, 0⟩ = (⟨[A1, B1], Q0⟩, 11) := by decide +kernel
theorem xe6 : pfree [98] [A1, B1] Q0 = (⟨0, 2, 0, 0⟩, true) := by decide +kernel
theorem xe7 : pfail ⟨[A1, B1], Q0⟩ [98] = (⟨[A1, B0], Q0⟩, [7], 0) := by decide +kernel
theorem xe8 : play ⟨[A1, B0], Q0⟩ 9 [[98]] ⟨0, 0, 0, 0⟩ = (⟨[A1, B0], Q0⟩, 12) := by decide +kernel
theorem xe9 : play ⟨[A1, B0], Q0⟩ 9 [[99]] ⟨0, 0, 0, 0⟩ = (⟨[A1, B0], Q0⟩, 7) := by decide +kernel
theorem xe10 : pturn ⟨[A1, B1], Q0⟩ [98] true = (⟨[A1, B1], Q0⟩, 15) := by decide +kernel
theorem xe11 : pput ⟨[A1, B1], Q0⟩ = QB := by decide +kernel
theorem xe12 : pget QB 0 = ⟨⟨[A1, B1], Q0⟩, 39, true⟩ := by decide +kernel
theorem xe13 : pright ⟨[A1, B1], Q0⟩ = true := by decide +kernel
theorem xe14 : pdrop ⟨[A1, B1], Q0⟩ 7 = ⟨[A1, B1], []⟩ := by decide +kernel
theorem xe15 : [A1, B0].filterMap (pslot [A1, B0] Q0) = [⟨[97], ⟨0, 8, 0, 0⟩, []⟩] := by decide +kernel
theorem xe16 : pof 7 Q0 = [[98], [98], [97]] := by decide +kernel
theorem xl1 : ∀ x ∈ [A1, B1], x.labels.length < 1000000000 := by decide
theorem xq1 : ∀ x ∈ [A1, B1], x.sm := by intro x hx; simp at hx; rcases hx with rfl | rfl <;> exact ⟨by decide, by decide, by simp⟩
theorem xq2 : ∀ x ∈ [A1, B1], x.cap.u := by intro x hx; simp at hx; rcases hx with rfl | rfl <;> exact ⟨by decide, by decide, by decide, by decide⟩
theorem xq3 : ∀ x ∈ Q0, x.v.u ∧ x.job < 18446744073709551616 := by intro x hx; simp at hx; rcases hx with rfl | rfl <;> exact ⟨⟨by decide, by decide, by decide, by decide⟩, by decide⟩
theorem xq4 : (pput ⟨[A1, B1], Q0⟩).length < 9223372036854775000 := by rw [xe11]; decide
theorem c_ofE (ht : TT t) (job : Int) {ps : List Place} {es qs : List (List D)} (hqs : qs = ps.map Place.cells) (hpl : ps.length < 1000000) :
    FC 17 [.agg [SL es, SL qs], U64 job] [] (.ret (EStrs t (t _ fun _ => pof job ps))) [] := by
  simp only [ht, EStrs]; exact c_of ht job hqs hpl rfl
theorem idxHd {g : Bool} {c : Prop} {ds : List D} {K : List D → Prop} (ds' : List D) (hd : ds = ds') (hc : c) (hK : K ds') : IdxWp g c ds K := idxI ds' hc hd hK
theorem c_examples (ht : TT t) : FC 9 [] [] (.ret (BL true)) [] := by
  refine fc' ht (bx0 := []) Tryd.func9 (c := _) rfl rfl (N := 215) rfl (rs := _) rfl (n := 0) rfl rfl ?_
  cbv
  (first | (refine callES trivial (c_addE ht (l := []) (ps := []) (by first | rfl | (simp only [ht] <;> rfl)) (by first | rfl | (simp only [ht] <;> rfl)) _ _ _ _ _ (lb := []) (by first | rfl | (simp only [ht] <;> rfl)) _ (by decide) (by decide) (by decide) (by simp)) (by simp [ht]) rfl rfl rfl (fun r1 er1 => ?_); simp only [ht] at er1; replace er1 := er1.trans xe1; subst er1) | (refine callEQS (fun g9 => ⟨by simp [ht], by simp [ht], c_addE ht (l := []) (ps := []) (by first | rfl | (simp only [ht] <;> rfl)) (by first | rfl | (simp only [ht] <;> rfl)) _ _ _ _ _ (lb := []) (by first | rfl | (simp only [ht] <;> rfl)) _ (by decide) (by decide) (by decide) (by simp)⟩) rfl rfl rfl (fun r1 er1 => ?_); simp only [ht] at er1; replace er1 := er1.trans xe1; subst er1))
  cbv
  (first | (refine callES trivial (c_addE ht (l := [B1]) (ps := []) (by first | rfl | (simp only [ht] <;> rfl)) (by first | rfl | (simp only [ht] <;> rfl)) _ _ _ _ _ (lb := []) (by first | rfl | (simp only [ht] <;> rfl)) _ (by decide) (by decide) (by decide) (by simp)) (by simp [ht]) rfl rfl rfl (fun r2 er2 => ?_); simp only [ht] at er2; replace er2 := er2.trans xe2; subst er2) | (refine callEQS (fun g9 => ⟨by simp [ht], by simp [ht], c_addE ht (l := [B1]) (ps := []) (by first | rfl | (simp only [ht] <;> rfl)) (by first | rfl | (simp only [ht] <;> rfl)) _ _ _ _ _ (lb := []) (by first | rfl | (simp only [ht] <;> rfl)) _ (by decide) (by decide) (by decide) (by simp)⟩) rfl rfl rfl (fun r2 er2 => ?_); simp only [ht] at er2; replace er2 := er2.trans xe2; subst er2))
  cbv
  (first | (refine callES trivial (c_addE ht (l := [A1, B1]) (ps := []) (by first | rfl | (simp only [ht] <;> rfl)) (by first | rfl | (simp only [ht] <;> rfl)) _ _ _ _ _ (lb := []) (by first | rfl | (simp only [ht] <;> rfl)) _ (by decide) (by decide) (by decide) (by simp)) (by simp [ht]) rfl rfl rfl (fun r3 er3 => ?_); simp only [ht] at er3; replace er3 := er3.trans xe3; subst er3) | (refine callEQS (fun g9 => ⟨by simp [ht], by simp [ht], c_addE ht (l := [A1, B1]) (ps := []) (by first | rfl | (simp only [ht] <;> rfl)) (by first | rfl | (simp only [ht] <;> rfl)) _ _ _ _ _ (lb := []) (by first | rfl | (simp only [ht] <;> rfl)) _ (by decide) (by decide) (by decide) (by simp)⟩) rfl rfl rfl (fun r3 er3 => ?_); simp only [ht] at er3; replace er3 := er3.trans xe3; subst er3))
  cbv
  (first | (refine callES trivial (c_layE ht _ _ _ _ _ (l := [A1, B1]) (ps := []) (names := [[98], [98], [97]]) (by first | rfl | (simp only [ht] <;> rfl)) (by first | rfl | (simp only [ht] <;> rfl)) (by first | rfl | (simp only [ht] <;> rfl)) (by decide) (by decide) (by decide)) (by simp [ht]) rfl rfl rfl (fun r4 er4 => ?_); simp only [ht] at er4; replace er4 := er4.trans xe4; subst er4) | (refine callEQS (fun g9 => ⟨by simp [ht], by simp [ht], c_layE ht _ _ _ _ _ (l := [A1, B1]) (ps := []) (names := [[98], [98], [97]]) (by first | rfl | (simp only [ht] <;> rfl)) (by first | rfl | (simp only [ht] <;> rfl)) (by first | rfl | (simp only [ht] <;> rfl)) (by decide) (by decide) (by decide)⟩) rfl rfl rfl (fun r4 er4 => ?_); simp only [ht] at er4; replace er4 := er4.trans xe4; subst er4))
  cbv
  (first | (refine callES trivial (c_layE ht _ _ _ _ _ (l := [A1, B1]) (ps := Q0) (names := [[98]]) (by first | rfl | (simp only [ht] <;> rfl)) (by first | rfl | (simp only [ht] <;> rfl)) (by first | rfl | (simp only [ht] <;> rfl)) (by decide) (by decide) (by decide)) (by simp [ht]) rfl rfl rfl (fun r5 er5 => ?_); simp only [ht] at er5; replace er5 := er5.trans xe5; subst er5) | (refine callEQS (fun g9 => ⟨by simp [ht], by simp [ht], c_layE ht _ _ _ _ _ (l := [A1, B1]) (ps := Q0) (names := [[98]]) (by first | rfl | (simp only [ht] <;> rfl)) (by first | rfl | (simp only [ht] <;> rfl)) (by first | rfl | (simp only [ht] <;> rfl)) (by decide) (by decide) (by decide)⟩) rfl rfl rfl (fun r5 er5 => ?_); simp only [ht] at er5; replace er5 := er5.trans xe5; subst er5))
  cbv
  (first | (refine callEF trivial (c_freeE ht _ (l := [A1, B1]) (ps := Q0) (by first | rfl | (simp only [ht] <;> rfl)) (by first | rfl | (simp only [ht] <;> rfl)) (by decide) (by decide)) (by simp [ht]) rfl rfl (fun r6 er6 => ?_); simp only [ht] at er6; replace er6 := er6.trans xe6; subst er6) | (refine callEQ (fun g9 => ⟨by simp [ht], by simp [ht], c_freeE ht _ (l := [A1, B1]) (ps := Q0) (by first | rfl | (simp only [ht] <;> rfl)) (by first | rfl | (simp only [ht] <;> rfl)) (by decide) (by decide)⟩) rfl rfl (fun r6 er6 => ?_); simp only [ht] at er6; replace er6 := er6.trans xe6; subst er6))
  cbv
  (first | (refine callES trivial (c_failE ht _ (l := [A1, B1]) (ps := Q0) (by first | rfl | (simp only [ht] <;> rfl)) (by first | rfl | (simp only [ht] <;> rfl)) (by decide) (by decide) (by decide) (by decide +kernel)) (by simp [ht]) rfl rfl rfl (fun r7 er7 => ?_); simp only [ht] at er7; replace er7 := er7.trans xe7; subst er7) | (refine callEQS (fun g9 => ⟨by simp [ht], by simp [ht], c_failE ht _ (l := [A1, B1]) (ps := Q0) (by first | rfl | (simp only [ht] <;> rfl)) (by first | rfl | (simp only [ht] <;> rfl)) (by decide) (by decide) (by decide) (by decide +kernel)⟩) rfl rfl rfl (fun r7 er7 => ?_); simp only [ht] at er7; replace er7 := er7.trans xe7; subst er7))
  cbv
  (first | (refine callES trivial (c_layE ht _ _ _ _ _ (l := [A1, B0]) (ps := Q0) (names := [[98]]) (by first | rfl | (simp only [ht] <;> rfl)) (by first | rfl | (simp only [ht] <;> rfl)) (by first | rfl | (simp only [ht] <;> rfl)) (by decide) (by decide) (by decide)) (by simp [ht]) rfl rfl rfl (fun r8 er8 => ?_); simp only [ht] at er8; replace er8 := er8.trans xe8; subst er8) | (refine callEQS (fun g9 => ⟨by simp [ht], by simp [ht], c_layE ht _ _ _ _ _ (l := [A1, B0]) (ps := Q0) (names := [[98]]) (by first | rfl | (simp only [ht] <;> rfl)) (by first | rfl | (simp only [ht] <;> rfl)) (by first | rfl | (simp only [ht] <;> rfl)) (by decide) (by decide) (by decide)⟩) rfl rfl rfl (fun r8 er8 => ?_); simp only [ht] at er8; replace er8 := er8.trans xe8; subst er8))
  cbv
  (first | (refine callES trivial (c_layE ht _ _ _ _ _ (l := [A1, B0]) (ps := Q0) (names := [[99]]) (by first | rfl | (simp only [ht] <;> rfl)) (by first | rfl | (simp only [ht] <;> rfl)) (by first | rfl | (simp only [ht] <;> rfl)) (by decide) (by decide) (by decide)) (by simp [ht]) rfl rfl rfl (fun r9 er9 => ?_); simp only [ht] at er9; replace er9 := er9.trans xe9; subst er9) | (refine callEQS (fun g9 => ⟨by simp [ht], by simp [ht], c_layE ht _ _ _ _ _ (l := [A1, B0]) (ps := Q0) (names := [[99]]) (by first | rfl | (simp only [ht] <;> rfl)) (by first | rfl | (simp only [ht] <;> rfl)) (by first | rfl | (simp only [ht] <;> rfl)) (by decide) (by decide) (by decide)⟩) rfl rfl rfl (fun r9 er9 => ?_); simp only [ht] at er9; replace er9 := er9.trans xe9; subst er9))
  cbv
  (first | (refine callES trivial (c_mendE ht _ (l := [A1, B1]) (ps := Q0) (by first | rfl | (simp only [ht] <;> rfl)) (by first | rfl | (simp only [ht] <;> rfl)) (by decide)) (by simp [ht]) rfl rfl rfl (fun r10 er10 => ?_); simp only [ht] at er10; replace er10 := er10.trans xe10; subst er10) | (refine callEQS (fun g9 => ⟨by simp [ht], by simp [ht], c_mendE ht _ (l := [A1, B1]) (ps := Q0) (by first | rfl | (simp only [ht] <;> rfl)) (by first | rfl | (simp only [ht] <;> rfl)) (by decide)⟩) rfl rfl rfl (fun r10 er10 => ?_); simp only [ht] at er10; replace er10 := er10.trans xe10; subst er10))
  cbv
  (first | (refine callEF trivial (c_pputE ht (l := [A1, B1]) (ps := Q0) (by first | rfl | (simp only [ht] <;> rfl)) (by first | rfl | (simp only [ht] <;> rfl)) (by decide) (by decide) xq1 xq2 xq3 xq4) (by simp [ht]) rfl rfl (fun r11 er11 => ?_); simp only [ht] at er11; replace er11 := er11.trans xe11; subst er11) | (refine callEQ (fun g9 => ⟨by simp [ht], by simp [ht], c_pputE ht (l := [A1, B1]) (ps := Q0) (by first | rfl | (simp only [ht] <;> rfl)) (by first | rfl | (simp only [ht] <;> rfl)) (by decide) (by decide) xq1 xq2 xq3 xq4⟩) rfl rfl (fun r11 er11 => ?_); simp only [ht] at er11; replace er11 := er11.trans xe11; subst er11))
  cbv
  (first | (refine callES trivial (c_pgetE ht _ _ (by decide) (by decide)) (by simp [ht]) rfl rfl rfl (fun r12 er12 => ?_); simp only [ht] at er12; replace er12 := er12.trans xe12; subst er12) | (refine callEQS (fun g9 => ⟨by simp [ht], by simp [ht], c_pgetE ht _ _ (by decide) (by decide)⟩) rfl rfl rfl (fun r12 er12 => ?_); simp only [ht] at er12; replace er12 := er12.trans xe12; subst er12))
  cbv
  refine gI (by simp [ht, pickI_iff]) ?_
  refine gI (by simp [ht, pickI_iff]) ?_
  refine gI (by simp [ht, pickI_iff]) ?_
  refine pI (by simp [ht, pickI_iff]) ?_
  refine condI (fun h0 => ?_) (fun h0 => ?_)
  · simp [ht, ncast] at h0
  · simp [ht, ncast] at h0
    cbv
    refine drawI [true, true, true, true, true, true, true, true, true, true, true, true, true, true, true, true, true, true, true, true, true, true, true, true, true, true, true, true, true, true, true, true, true, true, true, true, true, true, true, true, false, false, true, true, true, false, false, true, true, true, true, true, true, true, true, true, true, true, true, true, true, true, true, true, true, true, true, true, true, true, true, true, true, true, true, true, true, true, true, true, true, true, true, true, true, true, true, false, false, false, true, true, true, true, true, true, false, false, false, false, true, true, true, false, false, true, true, true, true, true, true, true] (by kernel_rfl) (by kernel_rfl) ?_
    cbv
    refine gI (by simp [ht, pickI_iff]) ?_
    refine gI (by simp [ht, pickI_iff]) ?_
    refine pI (by simp [ht, pickI_iff]) ?_
    refine gI (by simp [ht, pickI_iff]) ?_
    refine gI (by simp [ht, pickI_iff]) ?_
    refine pI (by simp [ht, pickI_iff]) ?_
    refine gI (by simp [ht, pickI_iff]) ?_
    refine gI (by simp [ht, pickI_iff]) ?_
    (first | (refine idxHd [.int .u64 7] ?_ ?_ ?_; (next => (simp [ht, u64Row]; done)); (next => (simp [ht, u64Row]; done))) | (refine idxHd [.str [97], .int .u64 2, .int .u64 9, .int .u64 0, .int .u64 0, .sl [], .bool true] ?_ ?_ ?_; (next => (simp [ht, Node.cells]; done)); (next => (simp [ht, Node.cells]; done))))
    cbv
    refine gI (by simp [ht, pickI_iff]) ?_
    refine gI (by simp [ht, pickI_iff]) ?_
    refine gI (by simp [ht, pickI_iff]) ?_
    refine pI (by simp [ht, pickI_iff]) ?_
    refine gI (by simp [ht, pickI_iff]) ?_
    refine gI (by simp [ht, pickI_iff]) ?_
    (first | (refine idxHd [.int .u64 7] ?_ ?_ ?_; (next => (simp [ht, u64Row]; done)); (next => (simp [ht, u64Row]; done))) | (refine idxHd [.str [97], .int .u64 2, .int .u64 9, .int .u64 0, .int .u64 0, .sl [], .bool true] ?_ ?_ ?_; (next => (simp [ht, Node.cells]; done)); (next => (simp [ht, Node.cells]; done))))
    cbv
    refine gI (by simp [ht, pickI_iff]) ?_
    refine gI (by simp [ht, pickI_iff]) ?_
    refine pI (by simp [ht, pickI_iff]) ?_
    refine gI (by simp [ht, pickI_iff]) ?_
    refine gI (by simp [ht, pickI_iff]) ?_
    refine pI (by simp [ht, pickI_iff]) ?_
    refine gI (by simp [ht, pickI_iff]) ?_
    refine gI (by simp [ht, pickI_iff]) ?_
    refine gI (by simp [ht, pickI_iff]) ?_
    refine gI (by simp [ht, pickI_iff]) ?_
    refine pI (by simp [ht, pickI_iff]) ?_
    refine gI (by simp [ht, pickI_iff]) ?_
    refine gI (by simp [ht, pickI_iff]) ?_
    refine pI (by simp [ht, pickI_iff]) ?_
    refine gI (by simp [ht, pickI_iff]) ?_
    refine gI (by simp [ht, pickI_iff]) ?_
    (first | (refine callEF trivial (c_sameE ht (l := [A1, B1]) (l' := [A1, B1]) (ps := Q0) (ps' := Q0) (by first | rfl | (simp only [ht] <;> rfl)) (by first | rfl | (simp only [ht] <;> rfl)) (by first | rfl | (simp only [ht] <;> rfl)) (by first | rfl | (simp only [ht] <;> rfl)) (by decide) (by decide) (by decide) (by decide) xl1 xl1) (by simp [ht]) rfl rfl (fun r13 er13 => ?_); simp only [ht] at er13; replace er13 := er13.trans (show _ = true from by simp); subst er13) | (refine callEQ (fun g9 => ⟨by simp [ht], by simp [ht], c_sameE ht (l := [A1, B1]) (l' := [A1, B1]) (ps := Q0) (ps' := Q0) (by first | rfl | (simp only [ht] <;> rfl)) (by first | rfl | (simp only [ht] <;> rfl)) (by first | rfl | (simp only [ht] <;> rfl)) (by first | rfl | (simp only [ht] <;> rfl)) (by decide) (by decide) (by decide) (by decide) xl1 xl1⟩) rfl rfl (fun r13 er13 => ?_); simp only [ht] at er13; replace er13 := er13.trans (show _ = true from by simp); subst er13))
    cbv
    refine pI (by simp [ht, pickI_iff]) ?_
    refine gI (by simp [ht, pickI_iff]) ?_
    refine gI (by simp [ht, pickI_iff]) ?_
    refine gI (by simp [ht, pickI_iff]) ?_
    refine pI (by simp [ht, pickI_iff]) ?_
    refine gI (by simp [ht, pickI_iff]) ?_
    refine pI (by simp [ht, pickI_iff]) ?_
    refine gI (by simp [ht, pickI_iff]) ?_
    refine gI (by simp [ht, pickI_iff]) ?_
    refine pI (by simp [ht, pickI_iff]) ?_
    refine gI (by simp [ht, pickI_iff]) ?_
    (first | (refine idxHd [.int .u64 7] ?_ ?_ ?_; (next => (simp [ht, u64Row]; done)); (next => (simp [ht, u64Row]; done))) | (refine idxHd [.str [97], .int .u64 2, .int .u64 9, .int .u64 0, .int .u64 0, .sl [], .bool true] ?_ ?_ ?_; (next => (simp [ht, Node.cells]; done)); (next => (simp [ht, Node.cells]; done))))
    cbv
    refine gI (by simp [ht, pickI_iff]) ?_
    refine gI (by simp [ht, pickI_iff]) ?_
    refine pI (by simp [ht, pickI_iff]) ?_
    refine gI (by simp [ht, pickI_iff]) ?_
    refine gI (by simp [ht, pickI_iff]) ?_
    refine pI (by simp [ht, pickI_iff]) ?_
    refine gI (by simp [ht, pickI_iff]) ?_
    refine gI (by simp [ht, pickI_iff]) ?_
    refine pI (by simp [ht, pickI_iff]) ?_
    refine gI (by simp [ht, pickI_iff]) ?_
    refine gI (by simp [ht, pickI_iff]) ?_
    refine pI (by simp [ht, pickI_iff]) ?_
    refine gI (by simp [ht, pickI_iff]) ?_
    (first | (refine callES trivial (c_slotsE ht (l := [A1, B0]) (ps := Q0) (by first | rfl | (simp only [ht] <;> rfl)) (by first | rfl | (simp only [ht] <;> rfl)) (by decide) (by decide)) (by simp [ht]) rfl rfl rfl (fun r15 er15 => ?_); simp only [ht] at er15; replace er15 := er15.trans xe15; subst er15) | (refine callEQS (fun g9 => ⟨by simp [ht], by simp [ht], c_slotsE ht (l := [A1, B0]) (ps := Q0) (by first | rfl | (simp only [ht] <;> rfl)) (by first | rfl | (simp only [ht] <;> rfl)) (by decide) (by decide)⟩) rfl rfl rfl (fun r15 er15 => ?_); simp only [ht] at er15; replace er15 := er15.trans xe15; subst er15))
    cbv
    refine gI (by simp [ht, pickI_iff]) ?_
    refine gI (by simp [ht, pickI_iff]) ?_
    refine pI (by simp [ht, pickI_iff]) ?_
    refine gI (by simp [ht, pickI_iff]) ?_
    (first | (refine callES trivial (c_ofE ht _ (ps := Q0) (by first | rfl | (simp only [ht] <;> rfl)) (by decide)) (by simp [ht]) rfl rfl rfl (fun r16 er16 => ?_); simp only [ht] at er16; replace er16 := er16.trans xe16; subst er16) | (refine callEQS (fun g9 => ⟨by simp [ht], by simp [ht], c_ofE ht _ (ps := Q0) (by first | rfl | (simp only [ht] <;> rfl)) (by decide)⟩) rfl rfl rfl (fun r16 er16 => ?_); simp only [ht] at er16; replace er16 := er16.trans xe16; subst er16))
    cbv
    refine gI (by simp [ht, pickI_iff]) ?_
    refine gI (by simp [ht, pickI_iff]) ?_
    refine pI (by simp [ht, pickI_iff]) ?_
    refine gI (by simp [ht, pickI_iff]) ?_
    (first | (refine callES trivial (c_dropE ht _ (l := [A1, B1]) (ps := Q0) (by first | rfl | (simp only [ht] <;> rfl)) (by first | rfl | (simp only [ht] <;> rfl)) (by decide)) (by simp [ht]) rfl rfl rfl (fun r17 er17 => ?_); simp only [ht] at er17; replace er17 := er17.trans xe14; subst er17) | (refine callEQS (fun g9 => ⟨by simp [ht], by simp [ht], c_dropE ht _ (l := [A1, B1]) (ps := Q0) (by first | rfl | (simp only [ht] <;> rfl)) (by first | rfl | (simp only [ht] <;> rfl)) (by decide)⟩) rfl rfl rfl (fun r17 er17 => ?_); simp only [ht] at er17; replace er17 := er17.trans xe14; subst er17))
    cbv
    refine gI (by simp [ht, pickI_iff]) ?_
    (first | (refine callEF trivial (c_sameE ht (l := [A1, B1]) (l' := [A1, B1]) (ps := []) (ps' := []) (by first | rfl | (simp only [ht] <;> rfl)) (by first | rfl | (simp only [ht] <;> rfl)) (by first | rfl | (simp only [ht] <;> rfl)) (by first | rfl | (simp only [ht] <;> rfl)) (by decide) (by decide) (by decide) (by decide) xl1 xl1) (by simp [ht]) rfl rfl (fun r14 er14 => ?_); simp only [ht] at er14; replace er14 := er14.trans (show _ = true from by simp); subst er14) | (refine callEQ (fun g9 => ⟨by simp [ht], by simp [ht], c_sameE ht (l := [A1, B1]) (l' := [A1, B1]) (ps := []) (ps' := []) (by first | rfl | (simp only [ht] <;> rfl)) (by first | rfl | (simp only [ht] <;> rfl)) (by first | rfl | (simp only [ht] <;> rfl)) (by first | rfl | (simp only [ht] <;> rfl)) (by decide) (by decide) (by decide) (by decide) xl1 xl1⟩) rfl rfl (fun r14 er14 => ?_); simp only [ht] at er14; replace er14 := er14.trans (show _ = true from by simp); subst er14))
    cbv
    refine pI (by simp [ht, pickI_iff]) ?_
    refine gI (by simp [ht, pickI_iff]) ?_
    refine pI (by simp [ht, pickI_iff]) ?_
    refine gI (by simp [ht, pickI_iff]) ?_
    refine gI (by simp [ht, pickI_iff]) ?_
    (first | (refine callEF trivial (c_pputE ht (l := [A1, B1]) (ps := Q0) (by first | rfl | (simp only [ht] <;> rfl)) (by first | rfl | (simp only [ht] <;> rfl)) (by decide) (by decide) xq1 xq2 xq3 xq4) (by simp [ht]) rfl rfl (fun r11 er11 => ?_); simp only [ht] at er11; replace er11 := er11.trans xe11; subst er11) | (refine callEQ (fun g9 => ⟨by simp [ht], by simp [ht], c_pputE ht (l := [A1, B1]) (ps := Q0) (by first | rfl | (simp only [ht] <;> rfl)) (by first | rfl | (simp only [ht] <;> rfl)) (by decide) (by decide) xq1 xq2 xq3 xq4⟩) rfl rfl (fun r11 er11 => ?_); simp only [ht] at er11; replace er11 := er11.trans xe11; subst er11))
    cbv
    refine gI (by simp [ht, pickI_iff]) ?_
    refine gI (by simp [ht, pickI_iff]) ?_
    refine pI (by simp [ht, pickI_iff]) ?_
    refine gI (by simp [ht, pickI_iff]) ?_
    refine gI (by simp [ht, pickI_iff]) ?_
    (first | (refine callEF trivial (c_sameE ht (l := [A1, B1]) (l' := [A1, B1]) (ps := Q0) (ps' := Q0) (by first | rfl | (simp only [ht] <;> rfl)) (by first | rfl | (simp only [ht] <;> rfl)) (by first | rfl | (simp only [ht] <;> rfl)) (by first | rfl | (simp only [ht] <;> rfl)) (by decide) (by decide) (by decide) (by decide) xl1 xl1) (by simp [ht]) rfl rfl (fun r13 er13 => ?_); simp only [ht] at er13; replace er13 := er13.trans (show _ = true from by simp); subst er13) | (refine callEQ (fun g9 => ⟨by simp [ht], by simp [ht], c_sameE ht (l := [A1, B1]) (l' := [A1, B1]) (ps := Q0) (ps' := Q0) (by first | rfl | (simp only [ht] <;> rfl)) (by first | rfl | (simp only [ht] <;> rfl)) (by first | rfl | (simp only [ht] <;> rfl)) (by first | rfl | (simp only [ht] <;> rfl)) (by decide) (by decide) (by decide) (by decide) xl1 xl1⟩) rfl rfl (fun r13 er13 => ?_); simp only [ht] at er13; replace er13 := er13.trans (show _ = true from by simp); subst er13))
    cbv
    refine pI (by simp [ht, pickI_iff]) ?_
    refine gI (by simp [ht, pickI_iff]) ?_
    (first | (refine callEF trivial (c_prightE ht (l := [A1, B1]) (ps := Q0) (by first | rfl | (simp only [ht] <;> rfl)) (by first | rfl | (simp only [ht] <;> rfl)) (by decide) (by decide) xq1) (by simp [ht]) rfl rfl (fun r18 er18 => ?_); simp only [ht] at er18; replace er18 := er18.trans xe13; subst er18) | (refine callEQ (fun g9 => ⟨by simp [ht], by simp [ht], c_prightE ht (l := [A1, B1]) (ps := Q0) (by first | rfl | (simp only [ht] <;> rfl)) (by first | rfl | (simp only [ht] <;> rfl)) (by decide) (by decide) xq1⟩) rfl rfl (fun r18 er18 => ?_); simp only [ht] at er18; replace er18 := er18.trans xe13; subst er18))
    cbv
    refine pI (by simp [ht, pickI_iff]) ?_
    refine retF trivial trivial rfl rfl rfl ?_
    (simp [ht]; done)
end Dem
end
section
/- FROM ARGUMENTS THAT READ AS DATA TO THE CALCULUS: typed data. -/
open Go Go.Deep
namespace Dem

/-- what a cell may be -/
inductive PT where
  | bool
  | int (k : IntKind)
  | str
  | sl (es : List PT)

def tyFs (r : TypeId → Option (List PT)) (sz : TypeId → Nat) : List Field → Nat → Option (List PT)
  | [], _ => some []
  | f :: fs, off => if f.offset = off then match r f.type, tyFs r sz fs (off + sz f.type) with
    | some a, some b => if a.length = sz f.type then some (a ++ b) else none
    | _, _ => none else none

def tyOf (P : Program) : Nat → TypeId → Option (List PT)
  | 0, _ => none
  | n + 1, t => match P.underlying t with
    | some .bool => some [.bool]
    | some (.int k) => some [.int k]
    | some .string => some [.str]
    | some (.slice e) => match tyOf P n e with
      | some ps => if ps.length = P.cellsOf e ∧ 0 < ps.length then some [.sl ps] else none
      | none => none
    | some (.struct fs) => match tyFs (tyOf P n) P.cellsOf fs.toList 0 with
      | some ps => if ps.length = P.cellsOf t then some ps else none
      | none => none
    | some (.array k e) => match tyOf P n e with
      | some ps => if ps.length = P.cellsOf e ∧ k * ps.length = P.cellsOf t then some (List.replicate k ps).flatten else none
      | none => none
    | _ => none

mutual
def HasTy : PT → D → Prop
  | .bool, d => ∃ b, d = .bool b
  | .int k, d => ∃ n, d = .int k n ∧ (Lit.int k n).wf = true
  | .str, d => ∃ s : List UInt8, d = .str s ∧ s.length ≤ maxLen
  | .sl ps, d => ∃ es : List (List D), d = .sl es ∧ es.length ≤ maxLen ∧ ∀ r ∈ es, HasTys ps r
def HasTys : List PT → List D → Prop
  | [], ds => ds = []
  | p :: ps, ds => ∃ d r, ds = d :: r ∧ HasTy p d ∧ HasTys ps r
end

theorem HasTys.length : ∀ {ps : List PT} {ds : List D}, HasTys ps ds → ds.length = ps.length
  | [], ds, h => by simp only [HasTys] at h; subst h; rfl
  | p :: ps, ds, h => by
    simp only [HasTys] at h
    obtain ⟨d, r, rfl, _, h2⟩ := h
    simp [HasTys.length h2]
theorem HasTys.append : ∀ {ps qs : List PT} {ds es : List D}, HasTys ps ds → HasTys qs es → HasTys (ps ++ qs) (ds ++ es)
  | [], qs, ds, es, h, g => by simp only [HasTys] at h; subst h; exact g
  | p :: ps, qs, ds, es, h, g => by
    simp only [HasTys] at h
    obtain ⟨d, r, rfl, h1, h2⟩ := h
    simp only [List.cons_append, HasTys]
    exact ⟨d, r ++ es, rfl, h1, h2.append g⟩

theorem RepDs.append {w : World} {ok : Nat → Prop} : ∀ {ds es : List D} {vs us : List Value}, RepDs w ok ds vs → RepDs w ok es us → RepDs w ok (ds ++ es) (vs ++ us)
  | [], es, vs, us, h, g => by simp only [RepDs] at h; subst h; exact g
  | d :: ds, es, vs, us, h, g => by
    simp only [RepDs] at h
    obtain ⟨v, r, rfl, h1, h2⟩ := h
    simp only [List.cons_append, RepDs]
    exact ⟨v, r ++ us, rfl, h1, h2.append g⟩
theorem RepDs.row {w : World} {ok : Nat → Prop} {blk : Nat} : ∀ {ds : List D} {vs : List Value} {off : Nat}, RepDs w ok ds vs → (∀ i, i < vs.length → w.cell? ⟨blk, off + i, none⟩ = vs[i]?) → RepRow w ok blk ds off
  | [], _, _, _, _ => by simp [RepRow]
  | d :: ds, vs, off, h, hc => by
    simp only [RepDs] at h
    obtain ⟨v, r, rfl, h1, h2⟩ := h
    simp only [RepRow]
    refine ⟨⟨v, by simpa using hc 0 (by simp), h1⟩, h2.row fun i hi => ?_⟩
    have := hc (i + 1) (by simp; omega)
    simpa [Nat.add_assoc, Nat.add_comm 1 i] using this
theorem RepDs.as {β : Nat → Nat} {bx : List Box} {w : World} {ok : Nat → Prop} : ∀ {ds : List D} {vs : List Value}, RepDs w ok ds vs → RepAs β bx w ok (ds.map .d) vs
  | [], vs, h => by simp only [RepDs] at h; subst h; simp [RepAs]
  | d :: ds, vs, h => by
    simp only [RepDs] at h
    obtain ⟨v, r, rfl, h1, h2⟩ := h
    simp only [List.map_cons, RepAs]
    exact ⟨v, r, rfl, by simpa [RepA] using h1, h2.as⟩

mutual
def flatD {H : Type} : DataW H → List D
  | .lit (.bool b) => [.bool b]
  | .lit (.int k n) => [.int k n]
  | .lit (.string s) => [.str s]
  | .nil => [.sl []]
  | .slice elems _ => [.sl (flatRows elems)]
  | .agg parts => flatCat parts
  | _ => []
def flatRows {H : Type} : List (DataW H) → List (List D)
  | [] => []
  | d :: r => flatD d :: flatRows r
def flatCat {H : Type} : List (DataW H) → List D
  | [] => []
  | d :: r => flatD d ++ flatCat r
end
theorem flatRows_map {H : Type} : ∀ l : List (DataW H), flatRows l = l.map flatD
  | [] => rfl
  | d :: r => by simp [flatRows, flatRows_map r]

theorem rangeRows {w : World} {ok : Nat → Prop} {blk sz : Nat} : ∀ (n off : Nat) (f : Nat → List D), (∀ i, i < n → RepRow w ok blk (f i) (off + i * sz) ∧ (f i).length = sz) → RepRows w ok blk sz ((List.range n).map f) off
  | 0, off, _, _ => by simp [RepRows]
  | n + 1, off, f, h => by
    obtain ⟨h1, h2⟩ := h 0 (by omega)
    rw [List.range_succ_eq_map, List.map_cons, List.map_map]
    simp only [RepRows]
    refine ⟨h2, by simpa using h1, rangeRows n (off + sz) _ fun i hi => ?_⟩
    obtain ⟨k1, k2⟩ := h (i + 1) (by omega)
    rw [show off + sz + i * sz = off + (i + 1) * sz by rw [Nat.succ_mul]; omega]
    exact ⟨k1, k2⟩

theorem spot_none {w : World} {a : Addr} {v : Value} (h : w.cell? a = some v) : a.spot = none := by
  unfold World.cell? at h
  split at h
  · split at h
    · cases h
    · rename_i hs; simpa using hs
  · cases h
theorem add_eq {a : Addr} (h : a.spot = none) (n : Nat) : a.add n = ⟨a.block, a.off + n, none⟩ := by
  unfold Addr.add
  split
  · rename_i h0; subst h0; cases a; simp_all
  · rfl
theorem take_split {α : Type} (cs : List α) (off a b : Nat) : (cs.drop off).take (a + b) = (cs.drop off).take a ++ (cs.drop (off + a)).take b := by
  rw [List.take_add, List.drop_drop]

section
variable {H : Type} {enc : TypeId × Value → H} {P : Program} {w : World} {spare : Nat → Bool} {held : Bool} {ok : Nat → Prop}

theorem fields_has {r : TypeId → Option (List PT)} {n : Nat} {cs : List Value} (hr : ∀ t cs x ps, DataW.trod enc P w 0 spare held n t cs = some x → r t = some ps → RepDs w ok (flatD x.1) cs ∧ HasTys ps (flatD x.1)) :
    ∀ (fs : List Field) (xs : List (DataW H × List MemPlace)) (off : Nat) (ps : List PT), tyFs r P.cellsOf fs off = some ps → xs.length = fs.length →
      (∀ (i : Nat) (f : Field), fs[i]? = some f → DataW.trod enc P w 0 spare held n f.type ((cs.drop f.offset).take (P.cellsOf f.type)) = xs[i]?) →
      RepDs w ok (flatCat (xs.map (·.1))) ((cs.drop off).take ps.length) ∧ HasTys ps (flatCat (xs.map (·.1)))
  | [], xs, off, ps, h, hl, _ => by
    simp only [tyFs, Option.some.injEq] at h; subst h
    obtain rfl : xs = [] := by simpa using hl
    exact ⟨by simp [RepDs, flatCat], by simp [HasTys, flatCat]⟩
  | f :: fs, [], off, ps, h, hl, hx => by simp at hl
  | f :: fs, x :: xs, off, ps, h, hl, hx => by
    simp only [tyFs] at h
    split at h
    · rename_i ho
      split at h
      · rename_i a b ha hb
        split at h
        · rename_i hla
          simp only [Option.some.injEq] at h; subst h
          have hx0 := hx 0 f rfl
          obtain ⟨g1, g2⟩ := hr _ _ _ _ (by simpa using hx0) ha
          obtain ⟨k1, k2⟩ := fields_has hr fs xs _ b hb (by simpa using hl) (fun i f hf => by simpa using hx (i + 1) f (by simpa using hf))
          rw [List.length_append, take_split]
          rw [ho, ← hla] at g1
          rw [← hla] at k1
          simp only [List.map_cons, flatCat]
          exact ⟨g1.append k1, g2.append k2⟩
        · cases h
      · cases h
    · cases h

theorem elems_has {r : List PT} {cs : List Value} : ∀ (k off : Nat) (xs : List (DataW H × List MemPlace)), xs.length = k → (∀ i x, xs[i]? = some x → RepDs w ok (flatD x.1) ((cs.drop (off + i * r.length)).take r.length) ∧ HasTys r (flatD x.1)) →
    RepDs w ok (flatCat (xs.map (·.1))) ((cs.drop off).take (k * r.length)) ∧ HasTys (List.replicate k r).flatten (flatCat (xs.map (·.1)))
  | 0, off, xs, hl, _ => by
    obtain rfl : xs = [] := by simpa using hl
    exact ⟨by simp [RepDs, flatCat], by simp [HasTys, flatCat]⟩
  | k + 1, off, [], hl, h => by simp at hl
  | k + 1, off, x :: xs, hl, h => by
    obtain ⟨g1, g2⟩ := h 0 x rfl
    obtain ⟨k1, k2⟩ := elems_has (r := r) (cs := cs) k (off + r.length) xs (by simpa using hl) (fun i x hx => by
      obtain ⟨k1, k2⟩ := h (i + 1) x (by simpa using hx)
      rw [show off + r.length + i * r.length = off + (i + 1) * r.length by rw [Nat.succ_mul]; omega]
      exact ⟨k1, k2⟩)
    rw [show (k + 1) * r.length = r.length + k * r.length by rw [Nat.succ_mul]; omega, take_split, List.replicate_succ, List.flatten_cons]
    simp only [List.map_cons, flatCat]
    exact ⟨RepDs.append (by simpa using g1) k1, g2.append k2⟩

theorem trod_has (hok : ∀ blk, blk < w.heap.size → ok blk) :
    ∀ (n m : Nat) (t : TypeId) (cs : List Value) (x : DataW H × List MemPlace) (ps : List PT), DataW.trod enc P w 0 spare held m t cs = some x → tyOf P n t = some ps → RepDs w ok (flatD x.1) cs ∧ HasTys ps (flatD x.1)
  | 0, _, _, _, _, _, _, h => by simp [tyOf] at h
  | n + 1, m, t, cs, x, ps, h, hp => by
    have ih := trod_has hok n
    rw [tyOf] at hp
    cases hu : P.underlying t with
    | none => simp [hu] at hp
    | some d =>
      simp only [hu] at hp
      cases d <;> (try (cases hp; done)) <;> simp only at hp
      case bool =>
        simp only [Option.some.injEq] at hp; subst hp
        obtain ⟨b, rfl, rfl⟩ := DataW.trod_bool hu h
        exact ⟨by simp [RepDs, RepD, flatD], by simp [HasTys, HasTy, flatD]⟩
      case int k =>
        simp only [Option.some.injEq] at hp; subst hp
        obtain ⟨z, rfl, rfl, hw⟩ := DataW.trod_int hu h
        exact ⟨by simp [RepDs, RepD, flatD], by simpa [HasTys, HasTy, flatD] using hw⟩
      case string =>
        simp only [Option.some.injEq] at hp; subst hp
        obtain ⟨s, rfl, rfl, hs⟩ := DataW.trod_string hu h
        refine ⟨by simp [RepDs, RepD, flatD], ?_⟩
        simp only [HasTys, HasTy, flatD]
        exact ⟨_, _, rfl, ⟨_, rfl, by rw [Array.length_toList]; exact hs⟩, rfl⟩
      case slice e =>
        split at hp
        · rename_i qs hq
          split at hp
          · rename_i hl
            simp only [Option.some.injEq] at hp; subst hp
            rcases open_slice hu h with ⟨rfl, rfl⟩ | ⟨a, len, cap, mm, n', Dd, Pl, rfl, hb, hlc, hm, hmm, rfl, hx⟩
            · exact ⟨by simp [RepDs, RepD, flatD], by simp [HasTys, HasTy, flatD]⟩
            · have hlen : len ≤ mm := by rw [hmm]; split <;> omega
              have hel : ∀ i, i < len → ∃ cs', w.cells? 0 (a.add (i * P.cellsOf e)) (P.cellsOf e) = some cs' ∧ RepDs w ok (flatD (Dd i)) cs' ∧ HasTys qs (flatD (Dd i)) := by
                intro i hi
                obtain ⟨cs', hc, htr⟩ := hx i (by omega)
                exact ⟨cs', hc, ih _ _ _ _ _ htr hq⟩
              have hfl : flatD (.slice ((List.range len).map Dd) ((List.range (mm - len)).map fun j => Dd (len + j))) = [.sl ((List.range len).map fun i => flatD (Dd i))] := by
                simp [flatD, flatRows_map, List.map_map, Function.comp_def]
              simp only [hfl]
              have hty : HasTys [.sl qs] [.sl ((List.range len).map fun i => flatD (Dd i))] := by
                simp only [HasTys, HasTy]
                refine ⟨_, _, rfl, ⟨_, rfl, by simp; omega, ?_⟩, rfl⟩
                intro r hr
                obtain ⟨i, hi, rfl⟩ := List.mem_map.1 hr
                obtain ⟨cs', _, _, g⟩ := hel i (by simpa using hi)
                exact g
              refine ⟨?_, hty⟩
              cases len with
              | zero => simp [RepDs, RepD]
              | succ len =>
                have hsp : a.spot = none := by
                  obtain ⟨cs', hc, htr⟩ := hel 0 (by omega)
                  obtain ⟨_, hl', hcell⟩ := World.cells?_some hc
                  have h0 := hcell 0 (by omega)
                  rw [List.getElem?_eq_getElem (by omega)] at h0
                  have := spot_none h0
                  simpa [Addr.add] using this
                have hblk : a.block < w.heap.size := by
                  obtain ⟨cs', hc, htr⟩ := hel 0 (by omega)
                  have := World.cells?_block hc (by omega)
                  simpa [Addr.add] using this
                have g := rangeRows (w := w) (ok := ok) (blk := a.block) (sz := P.cellsOf e) (len + 1) a.off (fun i => flatD (Dd i)) (fun i hi => by
                  obtain ⟨cs', hc, g1, g2⟩ := hel i hi
                  obtain ⟨_, hl', hcell⟩ := World.cells?_some hc
                  refine ⟨g1.row (fun j hj => ?_), by rw [g2.length]; exact hl.1⟩
                  have := hcell j (by omega)
                  rw [add_eq hsp, add_eq rfl] at this
                  exact this)
                simp only [RepDs, RepD]
                exact ⟨_, _, rfl, ⟨some a, cap, by simp, by simp; omega, .inr ⟨a.block, a.off, P.cellsOf e, by cases a; simp_all, hok _ hblk, g⟩⟩, rfl⟩
          · cases hp
        · cases hp
      case struct fs =>
        split at hp
        · rename_i qs hq
          split at hp
          · rename_i hl
            simp only [Option.some.injEq] at hp; subst hp
            obtain ⟨xs, m', hm, rfl, hcl, hxl, hxs⟩ := DataW.trod_struct hu h
            have hf : ∀ (i : Nat) (f : Field), fs.toList[i]? = some f → DataW.trod enc P w 0 spare held m' f.type ((cs.drop f.offset).take (P.cellsOf f.type)) = xs[i]? := by
              intro i f hf
              exact hxs i f (by simpa using hf)
            obtain ⟨g1, g2⟩ := fields_has (ok := ok) (fun t cs x ps => ih m' t cs x ps) fs.toList xs 0 _ hq (by simpa using hxl) hf
            simp only [flatD]
            refine ⟨?_, g2⟩
            have e : (cs.drop 0).take qs.length = cs := by rw [List.drop_zero, hl, ← hcl, List.take_length]
            rwa [e] at g1
          · cases hp
        · cases hp
      case array k e =>
        split at hp
        · rename_i qs hq
          split at hp
          · rename_i hl
            simp only [Option.some.injEq] at hp; subst hp
            obtain ⟨xs, m', hm, rfl, hcl, hxl, hxs⟩ := DataW.trod_array hu h
            obtain ⟨g1, g2⟩ := elems_has (w := w) (ok := ok) (r := qs) (cs := cs) k 0 xs hxl (fun i x hi => by
              have hi3 : i < xs.length := (List.getElem?_eq_some_iff.1 hi).1
              have := hxs i (by omega)
              rw [hl.1, Nat.zero_add]
              rw [hi] at this
              exact ih _ _ _ _ _ this hq)
            simp only [flatD]
            refine ⟨?_, g2⟩
            have e : (cs.drop 0).take (k * qs.length) = cs := by rw [List.drop_zero, hl.2, ← hcl, List.take_length]
            rwa [e] at g1
          · cases hp
        · cases hp
end
end Dem
end
