/- JOINED TEXTS: Co27, Pl6, Co28. -/
import Derived.Test.YtegnablmooijmaaDoorJ28
import Derived.Test.YtegnablmooijmaaDoorJ30
set_option linter.unusedSimpArgs false
set_option linter.unusedVariables false
section
/- CONTRACTS: the chapter's examples. -/
open Go Dem Go.Proofs
namespace Dem
set_option maxRecDepth 100000
set_option maxHeartbeats 4000000
variable {t : Th}
deriving instance DecidableEq for Pool
deriving instance DecidableEq for GotX
deriving instance DecidableEq for Slot
abbrev B1 : Node := ⟨[98], ⟨4, 4, 0, 0⟩, [], true⟩
abbrev A1 : Node := ⟨[97], ⟨2, 9, 0, 0⟩, [], true⟩
abbrev B0 : Node := ⟨[98], ⟨4, 4, 0, 0⟩, [], false⟩
abbrev Q0 : List Place := [⟨7, [98], ⟨2, 1, 0, 0⟩⟩, ⟨7, [98], ⟨2, 1, 0, 0⟩⟩, ⟨7, [97], ⟨2, 1, 0, 0⟩⟩]
abbrev QB : Str := [2, 1, 97, 2, 9, 0, 0, 0, 1, 1, 98, 4, 4, 0, 0, 0, 1, 3, 7, 1, 98, 2, 1, 0, 0, 7, 1, 98, 2, 1, 0, 0, 7, 1, 97, 2, 1, 0, 0]
theorem xe1 : padd ⟨[], []⟩ ⟨[98], ⟨4, 4, 0, 0⟩, [], false⟩ = (⟨[B1], []⟩, 0) := by decide +kernel
theorem xe2 : padd ⟨[B1], []⟩ ⟨[97], ⟨2, 9, 0, 0⟩, [], false⟩ = (⟨[A1, B1], []⟩, 0) := by decide +kernel
theorem xe3 : padd ⟨[A1, B1], []⟩ ⟨[97], ⟨0, 0, 0, 0⟩, [], false⟩ = (⟨[A1, B1], []⟩, 8) := by decide +kernel
theorem xe4 : play ⟨[A1, B1], []⟩ 7 [[98], [98], [97]] ⟨2, 1, 0, 0⟩ = (⟨[A1, B1], Q0⟩, 0) := by decide +kernel
theorem xe5 : play ⟨[A1, B1], Q0⟩ 8 [[98]] ⟨1, 0, 0, 0⟩ = (⟨[A1, B1], Q0⟩, 11) := by decide +kernel
theorem xe6 : pfree [98] [A1, B1] Q0 = (⟨0, 2, 0, 0⟩, true) := by decide +kernel
theorem xe7 : pfail ⟨[A1, B1], Q0⟩ [98] = (⟨[A1, B0], Q0⟩, [7], 0) := by decide +kernel
theorem xe8 : play ⟨[A1, B0], Q0⟩ 9 [[98]] ⟨0, 0, 0, 0⟩ = (⟨[A1, B0], Q0⟩, 12) := by decide +kernel
theorem xe9 : play ⟨[A1, B0], Q0⟩ 9 [[99]] ⟨0, 0, 0, 0⟩ = (⟨[A1, B0], Q0⟩, 7) := by decide +kernel
theorem xe10 : pturn ⟨[A1, B1], Q0⟩ [98] true = (⟨[A1, B1], Q0⟩, 15) := by decide +kernel
theorem xe11 : pput ⟨[A1, B1], Q0⟩ = QB := by decide +kernel
theorem xe12 : pget QB 0 = ⟨⟨[A1, B1], Q0⟩, 39, true⟩ := by decide +kernel
theorem xe13 : pright ⟨[A1, B1], Q0⟩ = true := by decide +kernel
theorem xe14 : pdrop ⟨[A1, B1], Q0⟩ 7 = ⟨[A1, B1], []⟩ := by decide +kernel
theorem xe15 : [A1, B0].filterMap (pslot [A1, B0] Q0) = [⟨[97], ⟨0, 8, 0, 0⟩, []⟩] := by decide +kernel
theorem xe16 : pof 7 Q0 = [[98], [98], [97]] := by decide +kernel
theorem xl1 : ∀ x ∈ [A1, B1], x.labels.length < 1000000000 := by decide
theorem xq1 : ∀ x ∈ [A1, B1], x.sm := by intro x hx; simp at hx; rcases hx with rfl | rfl <;> exact ⟨by decide, by decide, by simp⟩
theorem xq2 : ∀ x ∈ [A1, B1], x.cap.u := by intro x hx; simp at hx; rcases hx with rfl | rfl <;> exact ⟨by decide, by decide, by decide, by decide⟩
theorem xq3 : ∀ x ∈ Q0, x.v.u ∧ x.job < 18446744073709551616 := by intro x hx; simp at hx; rcases hx with rfl | rfl <;> exact ⟨⟨by decide, by decide, by decide, by decide⟩, by decide⟩
theorem xq4 : (pput ⟨[A1, B1], Q0⟩).length < 9223372036854775000 := by rw [xe11]; decide
theorem c_ofE (ht : TT t) (job : Int) {ps : List Place} {es qs : List (List D)} (hqs : qs = ps.map Place.cells) (hpl : ps.length < 1000000) :
    FC 17 [.agg [SL es, SL qs], U64 job] [] (.ret (EStrs t (t _ fun _ => pof job ps))) [] := by
  simp only [ht, EStrs]; exact c_of ht job hqs hpl rfl
theorem idxHd {g : Bool} {c : Prop} {ds : List D} {K : List D → Prop} (ds' : List D) (hd : ds = ds') (hc : c) (hK : K ds') : IdxWp g c ds K := idxI ds' hc hd hK
theorem c_examples (ht : TT t) : FC 9 [] [] (.ret (BL true)) [] := by
  refine fc' ht (bx0 := []) Tryd.func9 (c := _) rfl rfl (N := 215) rfl (rs := _) rfl (n := 0) rfl rfl ?_
  cbv
  (first | (refine callES trivial (c_addE ht (l := []) (ps := []) (by first | rfl | (simp only [ht] <;> rfl)) (by first | rfl | (simp only [ht] <;> rfl)) _ _ _ _ _ (lb := []) (by first | rfl | (simp only [ht] <;> rfl)) _ (by decide) (by decide) (by decide) (by simp)) (by simp [ht]) rfl rfl rfl (fun r1 er1 => ?_); simp only [ht] at er1; replace er1 := er1.trans xe1; subst er1) | (refine callEQS (fun g9 => ⟨by simp [ht], by simp [ht], c_addE ht (l := []) (ps := []) (by first | rfl | (simp only [ht] <;> rfl)) (by first | rfl | (simp only [ht] <;> rfl)) _ _ _ _ _ (lb := []) (by first | rfl | (simp only [ht] <;> rfl)) _ (by decide) (by decide) (by decide) (by simp)⟩) rfl rfl rfl (fun r1 er1 => ?_); simp only [ht] at er1; replace er1 := er1.trans xe1; subst er1))
  cbv
  (first | (refine callES trivial (c_addE ht (l := [B1]) (ps := []) (by first | rfl | (simp only [ht] <;> rfl)) (by first | rfl | (simp only [ht] <;> rfl)) _ _ _ _ _ (lb := []) (by first | rfl | (simp only [ht] <;> rfl)) _ (by decide) (by decide) (by decide) (by simp)) (by simp [ht]) rfl rfl rfl (fun r2 er2 => ?_); simp only [ht] at er2; replace er2 := er2.trans xe2; subst er2) | (refine callEQS (fun g9 => ⟨by simp [ht], by simp [ht], c_addE ht (l := [B1]) (ps := []) (by first | rfl | (simp only [ht] <;> rfl)) (by first | rfl | (simp only [ht] <;> rfl)) _ _ _ _ _ (lb := []) (by first | rfl | (simp only [ht] <;> rfl)) _ (by decide) (by decide) (by decide) (by simp)⟩) rfl rfl rfl (fun r2 er2 => ?_); simp only [ht] at er2; replace er2 := er2.trans xe2; subst er2))
  cbv
  (first | (refine callES trivial (c_addE ht (l := [A1, B1]) (ps := []) (by first | rfl | (simp only [ht] <;> rfl)) (by first | rfl | (simp only [ht] <;> rfl)) _ _ _ _ _ (lb := []) (by first | rfl | (simp only [ht] <;> rfl)) _ (by decide) (by decide) (by decide) (by simp)) (by simp [ht]) rfl rfl rfl (fun r3 er3 => ?_); simp only [ht] at er3; replace er3 := er3.trans xe3; subst er3) | (refine callEQS (fun g9 => ⟨by simp [ht], by simp [ht], c_addE ht (l := [A1, B1]) (ps := []) (by first | rfl | (simp only [ht] <;> rfl)) (by first | rfl | (simp only [ht] <;> rfl)) _ _ _ _ _ (lb := []) (by first | rfl | (simp only [ht] <;> rfl)) _ (by decide) (by decide) (by decide) (by simp)⟩) rfl rfl rfl (fun r3 er3 => ?_); simp only [ht] at er3; replace er3 := er3.trans xe3; subst er3))
  cbv
  (first | (refine callES trivial (c_layE ht _ _ _ _ _ (l := [A1, B1]) (ps := []) (names := [[98], [98], [97]]) (by first | rfl | (simp only [ht] <;> rfl)) (by first | rfl | (simp only [ht] <;> rfl)) (by first | rfl | (simp only [ht] <;> rfl)) (by decide) (by decide) (by decide)) (by simp [ht]) rfl rfl rfl (fun r4 er4 => ?_); simp only [ht] at er4; replace er4 := er4.trans xe4; subst er4) | (refine callEQS (fun g9 => ⟨by simp [ht], by simp [ht], c_layE ht _ _ _ _ _ (l := [A1, B1]) (ps := []) (names := [[98], [98], [97]]) (by first | rfl | (simp only [ht] <;> rfl)) (by first | rfl | (simp only [ht] <;> rfl)) (by first | rfl | (simp only [ht] <;> rfl)) (by decide) (by decide) (by decide)⟩) rfl rfl rfl (fun r4 er4 => ?_); simp only [ht] at er4; replace er4 := er4.trans xe4; subst er4))
  cbv
  (first | (refine callES trivial (c_layE ht _ _ _ _ _ (l := [A1, B1]) (ps := Q0) (names := [[98]]) (by first | rfl | (simp only [ht] <;> rfl)) (by first | rfl | (simp only [ht] <;> rfl)) (by first | rfl | (simp only [ht] <;> rfl)) (by decide) (by decide) (by decide)) (by simp [ht]) rfl rfl rfl (fun r5 er5 => ?_); simp only [ht] at er5; replace er5 := er5.trans xe5; subst er5) | (refine callEQS (fun g9 => ⟨by simp [ht], by simp [ht], c_layE ht _ _ _ _ _ (l := [A1, B1]) (ps := Q0) (names := [[98]]) (by first | rfl | (simp only [ht] <;> rfl)) (by first | rfl | (simp only [ht] <;> rfl)) (by first | rfl | (simp only [ht] <;> rfl)) (by decide) (by decide) (by decide)⟩) rfl rfl rfl (fun r5 er5 => ?_); simp only [ht] at er5; replace er5 := er5.trans xe5; subst er5))
  cbv
  (first | (refine callEF trivial (c_freeE ht _ (l := [A1, B1]) (ps := Q0) (by first | rfl | (simp only [ht] <;> rfl)) (by first | rfl | (simp only [ht] <;> rfl)) (by decide) (by decide)) (by simp [ht]) rfl rfl (fun r6 er6 => ?_); simp only [ht] at er6; replace er6 := er6.trans xe6; subst er6) | (refine callEQ (fun g9 => ⟨by simp [ht], by simp [ht], c_freeE ht _ (l := [A1, B1]) (ps := Q0) (by first | rfl | (simp only [ht] <;> rfl)) (by first | rfl | (simp only [ht] <;> rfl)) (by decide) (by decide)⟩) rfl rfl (fun r6 er6 => ?_); simp only [ht] at er6; replace er6 := er6.trans xe6; subst er6))
  cbv
  (first | (refine callES trivial (c_failE ht _ (l := [A1, B1]) (ps := Q0) (by first | rfl | (simp only [ht] <;> rfl)) (by first | rfl | (simp only [ht] <;> rfl)) (by decide) (by decide) (by decide) (by decide +kernel)) (by simp [ht]) rfl rfl rfl (fun r7 er7 => ?_); simp only [ht] at er7; replace er7 := er7.trans xe7; subst er7) | (refine callEQS (fun g9 => ⟨by simp [ht], by simp [ht], c_failE ht _ (l := [A1, B1]) (ps := Q0) (by first | rfl | (simp only [ht] <;> rfl)) (by first | rfl | (simp only [ht] <;> rfl)) (by decide) (by decide) (by decide) (by decide +kernel)⟩) rfl rfl rfl (fun r7 er7 => ?_); simp only [ht] at er7; replace er7 := er7.trans xe7; subst er7))
  cbv
  (first | (refine callES trivial (c_layE ht _ _ _ _ _ (l := [A1, B0]) (ps := Q0) (names := [[98]]) (by first | rfl | (simp only [ht] <;> rfl)) (by first | rfl | (simp only [ht] <;> rfl)) (by first | rfl | (simp only [ht] <;> rfl)) (by decide) (by decide) (by decide)) (by simp [ht]) rfl rfl rfl (fun r8 er8 => ?_); simp only [ht] at er8; replace er8 := er8.trans xe8; subst er8) | (refine callEQS (fun g9 => ⟨by simp [ht], by simp [ht], c_layE ht _ _ _ _ _ (l := [A1, B0]) (ps := Q0) (names := [[98]]) (by first | rfl | (simp only [ht] <;> rfl)) (by first | rfl | (simp only [ht] <;> rfl)) (by first | rfl | (simp only [ht] <;> rfl)) (by decide) (by decide) (by decide)⟩) rfl rfl rfl (fun r8 er8 => ?_); simp only [ht] at er8; replace er8 := er8.trans xe8; subst er8))
  cbv
  (first | (refine callES trivial (c_layE ht _ _ _ _ _ (l := [A1, B0]) (ps := Q0) (names := [[99]]) (by first | rfl | (simp only [ht] <;> rfl)) (by first | rfl | (simp only [ht] <;> rfl)) (by first | rfl | (simp only [ht] <;> rfl)) (by decide) (by decide) (by decide)) (by simp [ht]) rfl rfl rfl (fun r9 er9 => ?_); simp only [ht] at er9; replace er9 := er9.trans xe9; subst er9) | (refine callEQS (fun g9 => ⟨by simp [ht], by simp [ht], c_layE ht _ _ _ _ _ (l := [A1, B0]) (ps := Q0) (names := [[99]]) (by first | rfl | (simp only [ht] <;> rfl)) (by first | rfl | (simp only [ht] <;> rfl)) (by first | rfl | (simp only [ht] <;> rfl)) (by decide) (by decide) (by decide)⟩) rfl rfl rfl (fun r9 er9 => ?_); simp only [ht] at er9; replace er9 := er9.trans xe9; subst er9))
  cbv
  (first | (refine callES trivial (c_mendE ht _ (l := [A1, B1]) (ps := Q0) (by first | rfl | (simp only [ht] <;> rfl)) (by first | rfl | (simp only [ht] <;> rfl)) (by decide)) (by simp [ht]) rfl rfl rfl (fun r10 er10 => ?_); simp only [ht] at er10; replace er10 := er10.trans xe10; subst er10) | (refine callEQS (fun g9 => ⟨by simp [ht], by simp [ht], c_mendE ht _ (l := [A1, B1]) (ps := Q0) (by first | rfl | (simp only [ht] <;> rfl)) (by first | rfl | (simp only [ht] <;> rfl)) (by decide)⟩) rfl rfl rfl (fun r10 er10 => ?_); simp only [ht] at er10; replace er10 := er10.trans xe10; subst er10))
  cbv
  (first | (refine callEF trivial (c_pputE ht (l := [A1, B1]) (ps := Q0) (by first | rfl | (simp only [ht] <;> rfl)) (by first | rfl | (simp only [ht] <;> rfl)) (by decide) (by decide) xq1 xq2 xq3 xq4) (by simp [ht]) rfl rfl (fun r11 er11 => ?_); simp only [ht] at er11; replace er11 := er11.trans xe11; subst er11) | (refine callEQ (fun g9 => ⟨by simp [ht], by simp [ht], c_pputE ht (l := [A1, B1]) (ps := Q0) (by first | rfl | (simp only [ht] <;> rfl)) (by first | rfl | (simp only [ht] <;> rfl)) (by decide) (by decide) xq1 xq2 xq3 xq4⟩) rfl rfl (fun r11 er11 => ?_); simp only [ht] at er11; replace er11 := er11.trans xe11; subst er11))
  cbv
  (first | (refine callES trivial (c_pgetE ht _ _ (by decide) (by decide)) (by simp [ht]) rfl rfl rfl (fun r12 er12 => ?_); simp only [ht] at er12; replace er12 := er12.trans xe12; subst er12) | (refine callEQS (fun g9 => ⟨by simp [ht], by simp [ht], c_pgetE ht _ _ (by decide) (by decide)⟩) rfl rfl rfl (fun r12 er12 => ?_); simp only [ht] at er12; replace er12 := er12.trans xe12; subst er12))
  cbv
  refine gI (by simp [ht, pickI_iff]) ?_
  refine gI (by simp [ht, pickI_iff]) ?_
  refine gI (by simp [ht, pickI_iff]) ?_
  refine pI (by simp [ht, pickI_iff]) ?_
  refine condI (fun h0 => ?_) (fun h0 => ?_)
  · simp [ht, ncast] at h0
  · simp [ht, ncast] at h0
    cbv
    refine drawI [true, true, true, true, true, true, true, true, true, true, true, true, true, true, true, true, true, true, true, true, true, true, true, true, true, true, true, true, true, true, true, true, true, true, true, true, true, true, true, true, false, false, true, true, true, false, false, true, true, true, true, true, true, true, true, true, true, true, true, true, true, true, true, true, true, true, true, true, true, true, true, true, true, true, true, true, true, true, true, true, true, true, true, true, true, true, true, false, false, false, true, true, true, true, true, true, false, false, false, false, true, true, true, false, false, true, true, true, true, true, true, true] (by kernel_rfl) (by kernel_rfl) ?_
    cbv
    refine gI (by simp [ht, pickI_iff]) ?_
    refine gI (by simp [ht, pickI_iff]) ?_
    refine pI (by simp [ht, pickI_iff]) ?_
    refine gI (by simp [ht, pickI_iff]) ?_
    refine gI (by simp [ht, pickI_iff]) ?_
    refine pI (by simp [ht, pickI_iff]) ?_
    refine gI (by simp [ht, pickI_iff]) ?_
    refine gI (by simp [ht, pickI_iff]) ?_
    (first | (refine idxHd [.int .u64 7] ?_ ?_ ?_; (next => (simp [ht, u64Row]; done)); (next => (simp [ht, u64Row]; done))) | (refine idxHd [.str [97], .int .u64 2, .int .u64 9, .int .u64 0, .int .u64 0, .sl [], .bool true] ?_ ?_ ?_; (next => (simp [ht, Node.cells]; done)); (next => (simp [ht, Node.cells]; done))))
    cbv
    refine gI (by simp [ht, pickI_iff]) ?_
    refine gI (by simp [ht, pickI_iff]) ?_
    refine gI (by simp [ht, pickI_iff]) ?_
    refine pI (by simp [ht, pickI_iff]) ?_
    refine gI (by simp [ht, pickI_iff]) ?_
    refine gI (by simp [ht, pickI_iff]) ?_
    (first | (refine idxHd [.int .u64 7] ?_ ?_ ?_; (next => (simp [ht, u64Row]; done)); (next => (simp [ht, u64Row]; done))) | (refine idxHd [.str [97], .int .u64 2, .int .u64 9, .int .u64 0, .int .u64 0, .sl [], .bool true] ?_ ?_ ?_; (next => (simp [ht, Node.cells]; done)); (next => (simp [ht, Node.cells]; done))))
    cbv
    refine gI (by simp [ht, pickI_iff]) ?_
    refine gI (by simp [ht, pickI_iff]) ?_
    refine pI (by simp [ht, pickI_iff]) ?_
    refine gI (by simp [ht, pickI_iff]) ?_
    refine gI (by simp [ht, pickI_iff]) ?_
    refine pI (by simp [ht, pickI_iff]) ?_
    refine gI (by simp [ht, pickI_iff]) ?_
    refine gI (by simp [ht, pickI_iff]) ?_
    refine gI (by simp [ht, pickI_iff]) ?_
    refine gI (by simp [ht, pickI_iff]) ?_
    refine pI (by simp [ht, pickI_iff]) ?_
    refine gI (by simp [ht, pickI_iff]) ?_
    refine gI (by simp [ht, pickI_iff]) ?_
    refine pI (by simp [ht, pickI_iff]) ?_
    refine gI (by simp [ht, pickI_iff]) ?_
    refine gI (by simp [ht, pickI_iff]) ?_
    (first | (refine callEF trivial (c_sameE ht (l := [A1, B1]) (l' := [A1, B1]) (ps := Q0) (ps' := Q0) (by first | rfl | (simp only [ht] <;> rfl)) (by first | rfl | (simp only [ht] <;> rfl)) (by first | rfl | (simp only [ht] <;> rfl)) (by first | rfl | (simp only [ht] <;> rfl)) (by decide) (by decide) (by decide) (by decide) xl1 xl1) (by simp [ht]) rfl rfl (fun r13 er13 => ?_); simp only [ht] at er13; replace er13 := er13.trans (show _ = true from by simp); subst er13) | (refine callEQ (fun g9 => ⟨by simp [ht], by simp [ht], c_sameE ht (l := [A1, B1]) (l' := [A1, B1]) (ps := Q0) (ps' := Q0) (by first | rfl | (simp only [ht] <;> rfl)) (by first | rfl | (simp only [ht] <;> rfl)) (by first | rfl | (simp only [ht] <;> rfl)) (by first | rfl | (simp only [ht] <;> rfl)) (by decide) (by decide) (by decide) (by decide) xl1 xl1⟩) rfl rfl (fun r13 er13 => ?_); simp only [ht] at er13; replace er13 := er13.trans (show _ = true from by simp); subst er13))
    cbv
    refine pI (by simp [ht, pickI_iff]) ?_
    refine gI (by simp [ht, pickI_iff]) ?_
    refine gI (by simp [ht, pickI_iff]) ?_
    refine gI (by simp [ht, pickI_iff]) ?_
    refine pI (by simp [ht, pickI_iff]) ?_
    refine gI (by simp [ht, pickI_iff]) ?_
    refine pI (by simp [ht, pickI_iff]) ?_
    refine gI (by simp [ht, pickI_iff]) ?_
    refine gI (by simp [ht, pickI_iff]) ?_
    refine pI (by simp [ht, pickI_iff]) ?_
    refine gI (by simp [ht, pickI_iff]) ?_
    (first | (refine idxHd [.int .u64 7] ?_ ?_ ?_; (next => (simp [ht, u64Row]; done)); (next => (simp [ht, u64Row]; done))) | (refine idxHd [.str [97], .int .u64 2, .int .u64 9, .int .u64 0, .int .u64 0, .sl [], .bool true] ?_ ?_ ?_; (next => (simp [ht, Node.cells]; done)); (next => (simp [ht, Node.cells]; done))))
    cbv
    refine gI (by simp [ht, pickI_iff]) ?_
    refine gI (by simp [ht, pickI_iff]) ?_
    refine pI (by simp [ht, pickI_iff]) ?_
    refine gI (by simp [ht, pickI_iff]) ?_
    refine gI (by simp [ht, pickI_iff]) ?_
    refine pI (by simp [ht, pickI_iff]) ?_
    refine gI (by simp [ht, pickI_iff]) ?_
    refine gI (by simp [ht, pickI_iff]) ?_
    refine pI (by simp [ht, pickI_iff]) ?_
    refine gI (by simp [ht, pickI_iff]) ?_
    refine gI (by simp [ht, pickI_iff]) ?_
    refine pI (by simp [ht, pickI_iff]) ?_
    refine gI (by simp [ht, pickI_iff]) ?_
    (first | (refine callES trivial (c_slotsE ht (l := [A1, B0]) (ps := Q0) (by first | rfl | (simp only [ht] <;> rfl)) (by first | rfl | (simp only [ht] <;> rfl)) (by decide) (by decide)) (by simp [ht]) rfl rfl rfl (fun r15 er15 => ?_); simp only [ht] at er15; replace er15 := er15.trans xe15; subst er15) | (refine callEQS (fun g9 => ⟨by simp [ht], by simp [ht], c_slotsE ht (l := [A1, B0]) (ps := Q0) (by first | rfl | (simp only [ht] <;> rfl)) (by first | rfl | (simp only [ht] <;> rfl)) (by decide) (by decide)⟩) rfl rfl rfl (fun r15 er15 => ?_); simp only [ht] at er15; replace er15 := er15.trans xe15; subst er15))
    cbv
    refine gI (by simp [ht, pickI_iff]) ?_
    refine gI (by simp [ht, pickI_iff]) ?_
    refine pI (by simp [ht, pickI_iff]) ?_
    refine gI (by simp [ht, pickI_iff]) ?_
    (first | (refine callES trivial (c_ofE ht _ (ps := Q0) (by first | rfl | (simp only [ht] <;> rfl)) (by decide)) (by simp [ht]) rfl rfl rfl (fun r16 er16 => ?_); simp only [ht] at er16; replace er16 := er16.trans xe16; subst er16) | (refine callEQS (fun g9 => ⟨by simp [ht], by simp [ht], c_ofE ht _ (ps := Q0) (by first | rfl | (simp only [ht] <;> rfl)) (by decide)⟩) rfl rfl rfl (fun r16 er16 => ?_); simp only [ht] at er16; replace er16 := er16.trans xe16; subst er16))
    cbv
    refine gI (by simp [ht, pickI_iff]) ?_
    refine gI (by simp [ht, pickI_iff]) ?_
    refine pI (by simp [ht, pickI_iff]) ?_
    refine gI (by simp [ht, pickI_iff]) ?_
    (first | (refine callES trivial (c_dropE ht _ (l := [A1, B1]) (ps := Q0) (by first | rfl | (simp only [ht] <;> rfl)) (by first | rfl | (simp only [ht] <;> rfl)) (by decide)) (by simp [ht]) rfl rfl rfl (fun r17 er17 => ?_); simp only [ht] at er17; replace er17 := er17.trans xe14; subst er17) | (refine callEQS (fun g9 => ⟨by simp [ht], by simp [ht], c_dropE ht _ (l := [A1, B1]) (ps := Q0) (by first | rfl | (simp only [ht] <;> rfl)) (by first | rfl | (simp only [ht] <;> rfl)) (by decide)⟩) rfl rfl rfl (fun r17 er17 => ?_); simp only [ht] at er17; replace er17 := er17.trans xe14; subst er17))
    cbv
    refine gI (by simp [ht, pickI_iff]) ?_
    (first | (refine callEF trivial (c_sameE ht (l := [A1, B1]) (l' := [A1, B1]) (ps := []) (ps' := []) (by first | rfl | (simp only [ht] <;> rfl)) (by first | rfl | (simp only [ht] <;> rfl)) (by first | rfl | (simp only [ht] <;> rfl)) (by first | rfl | (simp only [ht] <;> rfl)) (by decide) (by decide) (by decide) (by decide) xl1 xl1) (by simp [ht]) rfl rfl (fun r14 er14 => ?_); simp only [ht] at er14; replace er14 := er14.trans (show _ = true from by simp); subst er14) | (refine callEQ (fun g9 => ⟨by simp [ht], by simp [ht], c_sameE ht (l := [A1, B1]) (l' := [A1, B1]) (ps := []) (ps' := []) (by first | rfl | (simp only [ht] <;> rfl)) (by first | rfl | (simp only [ht] <;> rfl)) (by first | rfl | (simp only [ht] <;> rfl)) (by first | rfl | (simp only [ht] <;> rfl)) (by decide) (by decide) (by decide) (by decide) xl1 xl1⟩) rfl rfl (fun r14 er14 => ?_); simp only [ht] at er14; replace er14 := er14.trans (show _ = true from by simp); subst er14))
    cbv
    refine pI (by simp [ht, pickI_iff]) ?_
    refine gI (by simp [ht, pickI_iff]) ?_
    refine pI (by simp [ht, pickI_iff]) ?_
    refine gI (by simp [ht, pickI_iff]) ?_
    refine gI (by simp [ht, pickI_iff]) ?_
    (first | (refine callEF trivial (c_pputE ht (l := [A1, B1]) (ps := Q0) (by first | rfl | (simp only [ht] <;> rfl)) (by first | rfl | (simp only [ht] <;> rfl)) (by decide) (by decide) xq1 xq2 xq3 xq4) (by simp [ht]) rfl rfl (fun r11 er11 => ?_); simp only [ht] at er11; replace er11 := er11.trans xe11; subst er11) | (refine callEQ (fun g9 => ⟨by simp [ht], by simp [ht], c_pputE ht (l := [A1, B1]) (ps := Q0) (by first | rfl | (simp only [ht] <;> rfl)) (by first | rfl | (simp only [ht] <;> rfl)) (by decide) (by decide) xq1 xq2 xq3 xq4⟩) rfl rfl (fun r11 er11 => ?_); simp only [ht] at er11; replace er11 := er11.trans xe11; subst er11))
    cbv
    refine gI (by simp [ht, pickI_iff]) ?_
    refine gI (by simp [ht, pickI_iff]) ?_
    refine pI (by simp [ht, pickI_iff]) ?_
    refine gI (by simp [ht, pickI_iff]) ?_
    refine gI (by simp [ht, pickI_iff]) ?_
    (first | (refine callEF trivial (c_sameE ht (l := [A1, B1]) (l' := [A1, B1]) (ps := Q0) (ps' := Q0) (by first | rfl | (simp only [ht] <;> rfl)) (by first | rfl | (simp only [ht] <;> rfl)) (by first | rfl | (simp only [ht] <;> rfl)) (by first | rfl | (simp only [ht] <;> rfl)) (by decide) (by decide) (by decide) (by decide) xl1 xl1) (by simp [ht]) rfl rfl (fun r13 er13 => ?_); simp only [ht] at er13; replace er13 := er13.trans (show _ = true from by simp); subst er13) | (refine callEQ (fun g9 => ⟨by simp [ht], by simp [ht], c_sameE ht (l := [A1, B1]) (l' := [A1, B1]) (ps := Q0) (ps' := Q0) (by first | rfl | (simp only [ht] <;> rfl)) (by first | rfl | (simp only [ht] <;> rfl)) (by first | rfl | (simp only [ht] <;> rfl)) (by first | rfl | (simp only [ht] <;> rfl)) (by decide) (by decide) (by decide) (by decide) xl1 xl1⟩) rfl rfl (fun r13 er13 => ?_); simp only [ht] at er13; replace er13 := er13.trans (show _ = true from by simp); subst er13))
    cbv
    refine pI (by simp [ht, pickI_iff]) ?_
    refine gI (by simp [ht, pickI_iff]) ?_
    (first | (refine callEF trivial (c_prightE ht (l := [A1, B1]) (ps := Q0) (by first | rfl | (simp only [ht] <;> rfl)) (by first | rfl | (simp only [ht] <;> rfl)) (by decide) (by decide) xq1) (by simp [ht]) rfl rfl (fun r18 er18 => ?_); simp only [ht] at er18; replace er18 := er18.trans xe13; subst er18) | (refine callEQ (fun g9 => ⟨by simp [ht], by simp [ht], c_prightE ht (l := [A1, B1]) (ps := Q0) (by first | rfl | (simp only [ht] <;> rfl)) (by first | rfl | (simp only [ht] <;> rfl)) (by decide) (by decide) xq1⟩) rfl rfl (fun r18 er18 => ?_); simp only [ht] at er18; replace er18 := er18.trans xe13; subst er18))
    cbv
    refine pI (by simp [ht, pickI_iff]) ?_
    refine retF trivial trivial rfl rfl rfl ?_
    (simp [ht]; done)
end Dem
end
section
/- PLAIN LAW: slots stand in the order of the nodes that are up. -/
open Go
namespace Dem
theorem take_snoc' {α : Type} {l : List α} {k : Nat} {x : α} (h : l[k]? = some x) : l.take (k + 1) = l.take k ++ [x] := take_snoc h
def ups (l : List Node) (k : Nat) : Nat := ((l.take k).filter (·.up)).length
theorem ups_succ {l : List Node} {k : Nat} {n : Node} (h : l[k]? = some n) : ups l (k + 1) = ups l k + if n.up then 1 else 0 := by
  unfold ups; rw [take_snoc h, List.filter_append, List.length_append]
  cases hu : n.up <;> simp [hu]
theorem ups_le (l : List Node) (k : Nat) : ups l k ≤ k := by
  unfold ups
  exact Nat.le_trans (List.length_filter_le _ _) (by rw [List.length_take]; omega)
theorem bare_ok {p : Pool} (ho : p.ok) : (⟨p.nodes, []⟩ : Pool).ok :=
  ⟨ho.asc, ho.fine, fun n hn => by rw [pfree_mem2 ho.asc hn]; rfl, ho.most, by simp⟩
theorem bare_free {p : Pool} (ho : p.ok) {n : Node} (hn : n ∈ p.nodes) : (pfree n.name p.nodes []).1 = n.cap := by
  rw [pfree_mem ho.asc hn]; rfl
theorem fm_at {α β : Type} {f : α → Option β} {l : List α} {k : Nat} {x : α} {y : β} (h : l[k]? = some x) (hy : f x = some y) : (l.filterMap f)[((l.take k).filterMap f).length]? = some y := by
  have e : l = l.take k ++ (x :: l.drop (k + 1)) := by rw [← drop_at h, List.take_append_drop]
  have e2 : l.filterMap f = (l.take k).filterMap f ++ (y :: (l.drop (k + 1)).filterMap f) := by
    conv => lhs; rw [e]
    rw [List.filterMap_append, List.filterMap_cons, hy]
  rw [e2, List.getElem?_append_right (Nat.le_refl _)]; simp
theorem slot_at {p : Pool} (ho : p.ok) {k : Nat} {n : Node} (h : p.nodes[k]? = some n) (hup : n.up = true) :
    (p.nodes.filterMap (pslot p.nodes p.places))[ups p.nodes k]? = some ⟨n.name, (pfree n.name p.nodes p.places).1, n.labels⟩ := by
  have hn := List.mem_of_getElem? h
  have hs := slots_len p.nodes p.places (p.nodes.take k) (fun m hm => ho.free m (List.mem_of_mem_take hm))
  have := fm_at (f := pslot p.nodes p.places) h (y := ⟨n.name, (pfree n.name p.nodes p.places).1, n.labels⟩) (by simp [pslot, ho.free n hn, hup])
  rw [hs] at this
  exact this
theorem slots_ups {p : Pool} (ho : p.ok) {k : Nat} (hk : p.nodes.length ≤ k) : (p.nodes.filterMap (pslot p.nodes p.places)).length = ups p.nodes k := by
  rw [slots_len p.nodes p.places p.nodes ho.free]; unfold ups; rw [List.take_of_length_le hk]
theorem bare_at {p : Pool} (ho : p.ok) {k : Nat} {n : Node} (h : p.nodes[k]? = some n) (hup : n.up = true) :
    (p.nodes.filterMap (pslot p.nodes []))[ups p.nodes k]? = some ⟨n.name, n.cap, n.labels⟩ := by
  rw [slot_at (bare_ok ho) h hup, bare_free ho (List.mem_of_getElem? h)]
theorem bare_ups {p : Pool} (ho : p.ok) {k : Nat} (hk : p.nodes.length ≤ k) : (p.nodes.filterMap (pslot p.nodes [])).length = ups p.nodes k := slots_ups (bare_ok ho) hk
theorem fill_lim (l : List Laid) : (fillS l).lim 40 := by rw [fillS_T]; exact fillT_lim l 40
end Dem
end
section
/- CONTRACTS: the law of slots. -/
open Go Dem Go.Proofs
namespace Dem
set_option maxRecDepth 100000
set_option maxHeartbeats 4000000
variable {t : Th}
/-- an element that is known, under a guard -/
theorem idxKG {t : Th} (ht : TT t) {α : Type} {l : List α} {cells cT : α → List D} {es : List (List D)} {g : Bool} {c : Prop} (hes : es = l.map cells) {z : Int} {i n : Nat} {x : α} {K : List D → Prop} (hx : l[i]? = some x) (hz : z = i) (hn : ∀ x, (cells x).length = n) (hT : ∀ x, cells x = cT x)
    (hc : g = true → c) (hK : K (cT x)) : IdxWp g (c ∧ (t Prop fun _ => 0 ≤ z ∧ z < es.length ∧ ∀ r ∈ es, r.length = n)) (t _ fun _ => es.getD z.toNat []) K := by
  obtain ⟨ds, h, hk⟩ := idxK (K := K) ht hes hx hz hn hT hK
  obtain ⟨h1, h2⟩ := h rfl
  exact idxG ds (fun hg => ⟨⟨hc hg, h1⟩, h2⟩) hk
theorem c_poolSlots (ht : TT t) {l : List Laid} {es : List (List D)} (hes : es = l.map Laid.cells) (hu : ∀ x ∈ l, x.u) (hl : l.length < 9223372036854775808) :
    FC 7 [SL es] [] (.ret (BL true)) [] := by
  obtain ⟨⟨nl, pl⟩, hP⟩ : ∃ P, P = fillS l := ⟨_, rfl⟩
  have oks := (fillS_ok l).1
  have lim := fill_lim l
  rw [← hP] at oks lim
  have bn : nl.length ≤ 16 := oks.most
  have bp : pl.length ≤ 120 := lim.places
  obtain ⟨sl, hsl⟩ : ∃ sl, sl = nl.filterMap (pslot nl pl) := ⟨_, rfl⟩
  obtain ⟨bl, hbl⟩ : ∃ bl, bl = nl.filterMap (pslot nl []) := ⟨_, rfl⟩
  refine fc' ht (bx0 := []) Tryd.func7 (c := _) rfl rfl (N := 147) rfl (rs := _) rfl (n := 0) rfl rfl ?_
  cbv
  have len_es : es.length = l.length := by rw [hes, List.length_map]
  refine callF trivial (c_examples ht) trivial rfl rfl ?_
  cbv
  refine condI (fun h0 => ?_) (fun h0 => ?_)
  · simp [ht, ncast, len_es] at h0
  · simp [ht, ncast, len_es] at h0
    cbv
    refine callES trivial (c_filledE ht (by assumption) (by assumption) (by assumption)) trivial rfl rfl rfl (fun r1 er1 => ?_)
    simp only [ht] at er1
    rw [← hP] at er1
    subst r1
    cbv
    refine callES trivial (c_slotsE ht (thE ht rfl) (thE ht rfl) (by ((try simp only [ncast] at *); omega)) (by ((try simp only [ncast] at *); omega))) trivial rfl rfl rfl (fun r2 er2 => ?_)
    simp only [ht] at er2
    first | rw [← hsl] at er2 | rw [← hbl] at er2
    subst r2
    cbv
    refine callES trivial (c_bareE ht (thE ht rfl)) trivial rfl rfl rfl (fun r3 er3 => ?_)
    simp only [ht] at er3
    subst r3
    cbv
    refine callES trivial (c_slotsE ht (thE ht rfl) (thE ht rfl) (by ((try simp only [ncast] at *); omega)) (by (simp [ht]; done))) trivial rfl rfl rfl (fun r4 er4 => ?_)
    simp only [ht] at er4
    first | rw [← hsl] at er4 | rw [← hbl] at er4
    subst r4
    cbv
    obtain ⟨J5, hJ5⟩ : ∃ J5 : Nat → Int × Int × List (List D) × List (List D) → Prop, ∀ n a i u v, J5 n (a, i, u, v) ↔ (∃ (k w : Nat), i = k ∧ a = w ∧ w = ups nl k ∧ k + n = nl.length ∧ u = nl.map Node.cells ∧ v = pl.map Place.cells) := ⟨fun n v => match v with | (a, i, u, v) => (∃ (k w : Nat), i = k ∧ a = w ∧ w = ups nl k ∧ k + n = nl.length ∧ u = nl.map Node.cells ∧ v = pl.map Place.cells), fun _ _ _ _ _ => Iff.rfl⟩
    refine loopU ⟨[3, 4, 5, 6, 7, 8], [], []⟩ (σ := Int × Int × List (List D) × List (List D)) (fun v => [(7, .d (.int .i64 (t _ fun _ => v.1))), (8, .d (.int .i64 (t _ fun _ => v.2.1)))]) (fun v => [(0, .var [.d (.sl (t _ fun _ => v.2.2.1)), .d (.sl (t _ fun _ => v.2.2.2))])]) J5 ?_
    cbv
    refine loopIn ⟨nl.length, (_, _, _, _), (hJ5 _ _ _ _ _).2 ?_, by simp only [ht]; rfl, ?_⟩
    · exact ⟨0, 0, rfl, rfl, by simp [ups], by omega, rfl, rfl⟩
    rintro n ⟨a, i, u, v⟩ hj
    replace hj := (hJ5 _ _ _ _ _).1 hj
    obtain ⟨k, w, rfl, rfl, j1, j2, j3, j4⟩ := hj
    have len_u : u.length = nl.length := by rw [j3, List.length_map]
    have len_v : v.length = pl.length := by rw [j4, List.length_map]
    have hse : nl.length ≤ k → sl.length = w ∧ bl.length = w := fun h => ⟨by rw [hsl, j1]; exact slots_ups oks h, by rw [hbl, j1]; exact bare_ups oks h⟩
    have hat : ∀ n, nl[k]? = some n → n.up = true → sl[w]? = some ⟨n.name, (pfree n.name nl pl).1, n.labels⟩ ∧ bl[w]? = some ⟨n.name, n.cap, n.labels⟩ := fun n h hu => by rw [hsl, hbl, j1]; exact ⟨slot_at oks h hu, bare_at oks h hu⟩
    have hwk : w ≤ k := by rw [j1]; exact ups_le _ _
    have hww : IntKind.i64.wrap ((w : Int) + 1) = (w : Int) + 1 := wrap64 (by omega) (by omega)
    cbv
    refine condI (fun h6 => ?_) (fun h6 => ?_)
    · simp [ht, ncast, len_es, len_u, len_v] at h6
      cbv
      (refine idxM ht (l := nl) (cells := Node.cells) (cT := Node.cellsT t) (by simp only [ht]; exact j3) (by (simp only [ht, ncast]; omega)) (by (simp only [ht, ncast]; omega)) (fun _ => rfl) (fun _ => (by simp only [ht, Node.cellsT]; done)) (fun xn mxn => ?_); simp only [ht] at mxn; replace mxn : nl[k]? = some xn := mxn; obtain ⟨fv, hfv⟩ : ∃ fv, fv = pfree (xn).name nl pl := ⟨_, rfl⟩; have hok : fv.2 = true := (by rw [hfv]; exact oks.free _ (List.mem_of_getElem? mxn)); have hs2 : xn.up = true → sl[w]? = some ⟨xn.name, fv.1, xn.labels⟩ ∧ bl[w]? = some ⟨xn.name, xn.cap, xn.labels⟩ := (fun h => by rw [hfv]; exact hat xn mxn h); have hlt : (xn).up = true → w < sl.length ∧ w < bl.length := (fun h => ⟨(List.getElem?_eq_some_iff.1 (hat _ mxn h).1).1, (List.getElem?_eq_some_iff.1 (hat _ mxn h).2).1⟩))
      cbv
      refine condI (fun h7 => ?_) (fun h7 => ?_)
      · simp [ht, ncast, len_es, len_u, len_v] at h7
        cbv
        refine loopC (_, _, _, _) (by simp only [ht]; rfl) (n - 1) ?_ ((hJ5 _ _ _ _ _).2 ?_)
        · omega
        · simp only [ht, ncast]
          (refine ⟨k + 1, ups nl (k + 1), i64_upN (by ((try simp only [ncast] at *); omega)), ?_, rfl, by ((try simp only [ncast] at *); omega), j3, j4⟩; rw [ups_succ mxn, ← j1, h7]; simp [hww])
      · simp [ht, ncast, len_es, len_u, len_v] at h7
        cbv
        refine gI (by simp [ht, pickI_iff]) ?_
        refine gI (by simp [ht, pickI_iff]) ?_
        refine gI (by simp [ht, pickI_iff]) ?_
        refine gI (by simp [ht, pickI_iff]) ?_
        refine pI (by simp [ht, pickI_iff]) ?_
        refine condI (fun h8 => ?_) (fun h8 => ?_)
        · simp [ht, ncast, len_es, len_u, len_v] at h8
          cbv
          refine retF trivial trivial rfl rfl rfl ?_
          (exfalso; have q := hlt h7; omega)
        · simp [ht, ncast, len_es, len_u, len_v] at h8
          cbv
          refine drawL [3] [3, 8, 9, 10] [false, false, false, false, false, false, false, false, false, false, false, false, true, true] (by kernel_rfl) (by kernel_rfl) (by kernel_rfl) (by kernel_rfl) (by kernel_rfl) (by kernel_rfl) ?_
          cbv
          refine gI (by simp [ht, pickI_iff]) ?_
          refine gI (by simp [ht, pickI_iff]) ?_
          refine gI (by simp [ht, pickI_iff]) ?_
          refine gI (by simp [ht, pickI_iff]) ?_
          (refine idxK ht (l := nl) (cells := Node.cells) (cT := Node.cellsT t) (by simp only [ht]; exact j3) mxn (by simp only [ht]) (fun _ => rfl) (fun _ => (by simp only [ht, Node.cellsT]; done)) ?_)
          cbv
          refine gI (by simp [ht, pickI_iff]) ?_
          refine gI (by simp [ht, pickI_iff]) ?_
          refine .inl ?_
          refine callEQ (fun g9 => ⟨trivial, trivial, c_freeE ht _ (by (simp only [ht]; ((try simp only [ncast] at *); omega))) (by (simp only [ht]; ((try simp only [ncast] at *); omega))) (by omega) (by omega)⟩) rfl rfl (fun r10 er10 => ?_)
          simp only [ht] at er10
          rw [← hfv] at er10
          subst r10
          cbv
          refine gI (by simp [ht, pickI_iff]) ?_
          refine gI (by simp [ht, pickI_iff]) ?_
          refine gI (by simp [ht, pickI_iff]) ?_
          refine drawI [true, true, true, false, false, false, false, false, false, false, false, false, false, false, true, true, true, false, false, false, false, false, false, true, true, true, false, false, false, false, false, false, false, false, false, false, false, true, true, true, false, false, false, false, false, false, false, false, false, false, false, true, true, true, false, false, false, false, false, false, false, false, false, false, false, false, false, true, true] (by kernel_rfl) (by kernel_rfl) ?_
          cbv
          refine gI (by simp [ht, pickI_iff]) ?_
          refine gI (by simp [ht, pickI_iff]) ?_
          (refine idxKG ht (l := sl) (cells := Slot.cells) (cT := Slot.cellsT t) (by simp only [ht]; done) (hs2 (by assumption)).1 (by simp only [ht]) (fun _ => rfl) (fun _ => (by simp only [ht, Slot.cellsT] <;> rfl)) (fun g => by first | exact ⟨g, trivial⟩ | exact ⟨g, g, trivial⟩) ?_)
          cbv
          refine gI (by simp [ht, pickI_iff]) ?_
          refine gI (by simp [ht, pickI_iff]) ?_
          refine gI (by simp [ht, pickI_iff]) ?_
          refine gI (by simp [ht, pickI_iff]) ?_
          refine gI (by simp [ht, pickI_iff]) ?_
          (refine idxKG ht (l := nl) (cells := Node.cells) (cT := Node.cellsT t) (by simp only [ht]; exact j3) mxn (by simp only [ht]) (fun _ => rfl) (fun _ => (by simp only [ht, Node.cellsT]; done)) (fun g => by first | exact ⟨g, trivial⟩ | exact ⟨g, g, trivial⟩) ?_)
          cbv
          refine gI (by simp [ht, pickI_iff]) ?_
          refine gI (by simp [ht, pickI_iff]) ?_
          refine gI (by simp [ht, pickI_iff]) ?_
          refine pI (by simp [ht, pickI_iff]) ?_
          refine gI (by simp [ht, pickI_iff]) ?_
          refine gI (by simp [ht, pickI_iff]) ?_
          (refine idxKG ht (l := sl) (cells := Slot.cells) (cT := Slot.cellsT t) (by simp only [ht]; done) (hs2 (by assumption)).1 (by simp only [ht]) (fun _ => rfl) (fun _ => (by simp only [ht, Slot.cellsT] <;> rfl)) (fun g => by first | exact ⟨g, trivial⟩ | exact ⟨g, g, trivial⟩) ?_)
          cbv
          refine gI (by simp [ht, pickI_iff]) ?_
          refine gI (by simp [ht, pickI_iff]) ?_
          refine gI (by simp [ht, pickI_iff]) ?_
          refine gI (by simp [ht, pickI_iff]) ?_
          refine pI (by simp [ht, pickI_iff]) ?_
          refine gI (by simp [ht, pickI_iff]) ?_
          refine gI (by simp [ht, pickI_iff]) ?_
          (refine idxKG ht (l := bl) (cells := Slot.cells) (cT := Slot.cellsT t) (by simp only [ht]; done) (hs2 (by assumption)).2 (by simp only [ht]) (fun _ => rfl) (fun _ => (by simp only [ht, Slot.cellsT] <;> rfl)) (fun g => by first | exact ⟨g, trivial⟩ | exact ⟨g, g, trivial⟩) ?_)
          cbv
          refine gI (by simp [ht, pickI_iff]) ?_
          refine gI (by simp [ht, pickI_iff]) ?_
          refine gI (by simp [ht, pickI_iff]) ?_
          refine gI (by simp [ht, pickI_iff]) ?_
          refine gI (by simp [ht, pickI_iff]) ?_
          (refine idxKG ht (l := nl) (cells := Node.cells) (cT := Node.cellsT t) (by simp only [ht]; exact j3) mxn (by simp only [ht]) (fun _ => rfl) (fun _ => (by simp only [ht, Node.cellsT]; done)) (fun g => by first | exact ⟨g, trivial⟩ | exact ⟨g, g, trivial⟩) ?_)
          cbv
          refine gI (by simp [ht, pickI_iff]) ?_
          refine gI (by simp [ht, pickI_iff]) ?_
          refine gI (by simp [ht, pickI_iff]) ?_
          refine pI (by simp [ht, pickI_iff]) ?_
          refine gI (by simp [ht, pickI_iff]) ?_
          refine gI (by simp [ht, pickI_iff]) ?_
          (refine idxKG ht (l := bl) (cells := Slot.cells) (cT := Slot.cellsT t) (by simp only [ht]; done) (hs2 (by assumption)).2 (by simp only [ht]) (fun _ => rfl) (fun _ => (by simp only [ht, Slot.cellsT] <;> rfl)) (fun g => by first | exact ⟨g, trivial⟩ | exact ⟨g, g, trivial⟩) ?_)
          cbv
          refine gI (by simp [ht, pickI_iff]) ?_
          refine gI (by simp [ht, pickI_iff]) ?_
          refine gI (by simp [ht, pickI_iff]) ?_
          refine gI (by simp [ht, pickI_iff]) ?_
          refine gI (by simp [ht, pickI_iff]) ?_
          (refine idxKG ht (l := nl) (cells := Node.cells) (cT := Node.cellsT t) (by simp only [ht]; exact j3) mxn (by simp only [ht]) (fun _ => rfl) (fun _ => (by simp only [ht, Node.cellsT]; done)) (fun g => by first | exact ⟨g, trivial⟩ | exact ⟨g, g, trivial⟩) ?_)
          cbv
          refine gI (by simp [ht, pickI_iff]) ?_
          refine gI (by simp [ht, pickI_iff]) ?_
          refine gI (by simp [ht, pickI_iff]) ?_
          refine pI (by simp [ht, pickI_iff]) ?_
          refine gI (by simp [ht, pickI_iff]) ?_
          refine gI (by simp [ht, pickI_iff]) ?_
          (refine idxKG ht (l := sl) (cells := Slot.cells) (cT := Slot.cellsT t) (by simp only [ht]; done) (hs2 (by assumption)).1 (by simp only [ht]) (fun _ => rfl) (fun _ => (by simp only [ht, Slot.cellsT] <;> rfl)) (fun g => by first | exact ⟨g, trivial⟩ | exact ⟨g, g, trivial⟩) ?_)
          cbv
          refine gI (by simp [ht, pickI_iff]) ?_
          refine gI (by simp [ht, pickI_iff]) ?_
          refine gI (by simp [ht, pickI_iff]) ?_
          refine gI (by simp [ht, pickI_iff]) ?_
          refine gI (by simp [ht, pickI_iff]) ?_
          refine gI (by simp [ht, pickI_iff]) ?_
          (refine idxKG ht (l := nl) (cells := Node.cells) (cT := Node.cellsT t) (by simp only [ht]; exact j3) mxn (by simp only [ht]) (fun _ => rfl) (fun _ => (by simp only [ht, Node.cellsT]; done)) (fun g => by first | exact ⟨g, trivial⟩ | exact ⟨g, g, trivial⟩) ?_)
          cbv
          refine gI (by simp [ht, pickI_iff]) ?_
          refine gI (by simp [ht, pickI_iff]) ?_
          refine gI (by simp [ht, pickI_iff]) ?_
          refine gI (by simp [ht, pickI_iff]) ?_
          refine pI (by simp [ht, pickI_iff]) ?_
          refine condI (fun h11 => ?_) (fun h11 => ?_)
          · simp [ht, ncast, len_es, len_u, len_v] at h11
            cbv
            refine retF trivial trivial rfl rfl rfl ?_
            (exfalso; simp [hok] at h11; done)
          · simp [ht, ncast, len_es, len_u, len_v] at h11
            cbv
            refine loopC (_, _, _, _) (by simp only [ht]; rfl) (n - 1) ?_ ((hJ5 _ _ _ _ _).2 ?_)
            · omega
            · simp only [ht, ncast]
              (refine ⟨k + 1, ups nl (k + 1), i64_upN (by ((try simp only [ncast] at *); omega)), ?_, rfl, by ((try simp only [ncast] at *); omega), j3, j4⟩; rw [ups_succ mxn, ← j1, h7]; simp [hww])
    · simp [ht, ncast, len_es, len_u, len_v] at h6
      cbv
      refine gI (by simp [ht, pickI_iff]) ?_
      refine gI (by simp [ht, pickI_iff]) ?_
      refine gI (by simp [ht, pickI_iff]) ?_
      refine gI (by simp [ht, pickI_iff]) ?_
      refine pI (by simp [ht, pickI_iff]) ?_
      refine gI (by simp [ht, pickI_iff]) ?_
      refine gI (by simp [ht, pickI_iff]) ?_
      refine gI (by simp [ht, pickI_iff]) ?_
      refine gI (by simp [ht, pickI_iff]) ?_
      refine pI (by simp [ht, pickI_iff]) ?_
      refine gI (by simp [ht, pickI_iff]) ?_
      (refine callEQS (fun g9 => ⟨⟨g9, trivial⟩, by simp [ht], c_bareE ht (by simp only [ht]; exact j3)⟩) rfl rfl rfl (fun r9 er9 => ?_); simp only [ht] at er9; subst er9)
      cbv
      refine gI (by simp [ht, pickI_iff]) ?_
      refine gI (by simp [ht, pickI_iff]) ?_
      refine gI (by simp [ht, pickI_iff]) ?_
      refine pI (by simp [ht, pickI_iff]) ?_
      refine retF trivial trivial rfl rfl rfl ?_
      (have e := hse (by assumption); simp [ht, ncast, e.1, e.2]; done)
end Dem
end
