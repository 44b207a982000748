/- JOINED TEXTS: Co19, Co20. -/
import Derived.Test.YtegnablmooijmaaDoorJ25
import Derived.Test.YtegnablmooijmaaDoorJ29
set_option linter.unusedSimpArgs false
set_option linter.unusedVariables false
section
/- CONTRACTS: pool.Put. -/
open Go Dem Go.Proofs
namespace Dem
set_option maxRecDepth 100000
set_option maxHeartbeats 2000000
variable {t : Th}
theorem c_wputTextE (ht : TT t) (s : Str) (hs : s.length < 9223372036854775000) : FC 52 [ST s] [] (.ret (EStr (t _ fun _ => wputText s))) [] := by
  simp only [ht]; exact c_wputText ht s hs rfl
theorem c_vputE (ht : TT t) (a b c d : Int) (hu : (⟨a, b, c, d⟩ : Vec).u) : FC 53 [V4 a b c d] [] (.ret (EStr (t _ fun _ => vput ⟨a, b, c, d⟩))) [] := by
  obtain ⟨ha, hb, hc, hd⟩ : a < 18446744073709551616 ∧ b < 18446744073709551616 ∧ c < 18446744073709551616 ∧ d < 18446744073709551616 := hu
  have la := wput_len a
  have lb := wput_len b
  have lc := wput_len c
  have ld := wput_len d
  refine fc' ht (bx0 := []) Tryd.func53 (c := _) rfl rfl (N := 16) rfl (rs := _) rfl (n := 0) rfl rfl ?_
  cbv
  obtain ⟨J0, hJ0⟩ : ∃ J0 : Nat → List UInt8 × Int → Prop, ∀ n o i, J0 n (o, i) ↔ (∃ k : Nat, i = k ∧ k + n = 4 ∧ o = vpre ⟨a, b, c, d⟩ k) := ⟨fun n v => match v with | (o, i) => (∃ k : Nat, i = k ∧ k + n = 4 ∧ o = vpre ⟨a, b, c, d⟩ k), fun _ _ _ => Iff.rfl⟩
  refine loopU ⟨[3, 6, 7], [], []⟩ (σ := List UInt8 × Int) (fun v => [(3, .d (.str (t _ fun _ => v.1))), (7, .d (.int .i64 (v.2)))]) (fun v => []) J0 ?_
  cbv
  refine loopIn ⟨4, (_, _), (hJ0 _ _ _).2 ?_, by simp only [ht]; rfl, ?_⟩
  · exact ⟨0, rfl, rfl, rfl⟩
  rintro n ⟨o, i⟩ hj
  replace hj := (hJ0 _ _ _).1 hj
  obtain ⟨k, j1, j2, j3⟩ := hj
  have hk : (i = 0 ∧ k = 0) ∨ (i = 1 ∧ k = 1) ∨ (i = 2 ∧ k = 2) ∨ (i = 3 ∧ k = 3) ∨ (i = 4 ∧ k = 4) := by ((try simp only [ncast] at *); omega)
  rcases hk with ⟨rfl, rfl⟩ | ⟨rfl, rfl⟩ | ⟨rfl, rfl⟩ | ⟨rfl, rfl⟩ | ⟨rfl, rfl⟩
  · cbv
    refine condI (fun h1 => ?_) (fun h1 => ?_)
    · simp [ht, ncast] at h1
      cbv
      refine ⟨?_, ?_⟩
      · (simp [ht, j3, vput, vpre, Vec.at_, EStr]; done)
      cbv
      refine callEF trivial (c_wputE ht _ (by assumption)) trivial rfl rfl (fun r2 er2 => ?_)
      simp only [ht] at er2
      cbv
      refine ⟨?_, ?_⟩
      · (simp [ht, j3, vpre, Vec.at_, *]; omega)
      cbv
      refine loopC (_, _) (by simp only [ht]; rfl) (n - 1) ?_ ((hJ0 _ _ _).2 ?_)
      · omega
      · simp only [ht, ncast]
        first | exact ⟨1, by decide, by ((try simp only [ncast] at *); omega), by simp [vpre, Vec.at_, *]⟩ | exact ⟨2, by decide, by ((try simp only [ncast] at *); omega), by simp [vpre, Vec.at_, *]⟩ | exact ⟨3, by decide, by ((try simp only [ncast] at *); omega), by simp [vpre, Vec.at_, *]⟩ | exact ⟨4, by decide, by ((try simp only [ncast] at *); omega), by simp [vpre, Vec.at_, *]⟩
    · simp [ht, ncast] at h1
  · cbv
    refine condI (fun h3 => ?_) (fun h3 => ?_)
    · simp [ht, ncast] at h3
      cbv
      refine ⟨?_, ?_⟩
      · (simp [ht, j3, vput, vpre, Vec.at_, EStr]; done)
      cbv
      refine callEF trivial (c_wputE ht _ (by assumption)) trivial rfl rfl (fun r4 er4 => ?_)
      simp only [ht] at er4
      cbv
      refine ⟨?_, ?_⟩
      · (simp [ht, j3, vpre, Vec.at_, *]; omega)
      cbv
      refine loopC (_, _) (by simp only [ht]; rfl) (n - 1) ?_ ((hJ0 _ _ _).2 ?_)
      · omega
      · simp only [ht, ncast]
        first | exact ⟨1, by decide, by ((try simp only [ncast] at *); omega), by simp [vpre, Vec.at_, *]⟩ | exact ⟨2, by decide, by ((try simp only [ncast] at *); omega), by simp [vpre, Vec.at_, *]⟩ | exact ⟨3, by decide, by ((try simp only [ncast] at *); omega), by simp [vpre, Vec.at_, *]⟩ | exact ⟨4, by decide, by ((try simp only [ncast] at *); omega), by simp [vpre, Vec.at_, *]⟩
    · simp [ht, ncast] at h3
  · cbv
    refine condI (fun h5 => ?_) (fun h5 => ?_)
    · simp [ht, ncast] at h5
      cbv
      refine ⟨?_, ?_⟩
      · (simp [ht, j3, vput, vpre, Vec.at_, EStr]; done)
      cbv
      refine callEF trivial (c_wputE ht _ (by assumption)) trivial rfl rfl (fun r6 er6 => ?_)
      simp only [ht] at er6
      cbv
      refine ⟨?_, ?_⟩
      · (simp [ht, j3, vpre, Vec.at_, *]; omega)
      cbv
      refine loopC (_, _) (by simp only [ht]; rfl) (n - 1) ?_ ((hJ0 _ _ _).2 ?_)
      · omega
      · simp only [ht, ncast]
        first | exact ⟨1, by decide, by ((try simp only [ncast] at *); omega), by simp [vpre, Vec.at_, *]⟩ | exact ⟨2, by decide, by ((try simp only [ncast] at *); omega), by simp [vpre, Vec.at_, *]⟩ | exact ⟨3, by decide, by ((try simp only [ncast] at *); omega), by simp [vpre, Vec.at_, *]⟩ | exact ⟨4, by decide, by ((try simp only [ncast] at *); omega), by simp [vpre, Vec.at_, *]⟩
    · simp [ht, ncast] at h5
  · cbv
    refine condI (fun h7 => ?_) (fun h7 => ?_)
    · simp [ht, ncast] at h7
      cbv
      refine ⟨?_, ?_⟩
      · (simp [ht, j3, vput, vpre, Vec.at_, EStr]; done)
      cbv
      refine callEF trivial (c_wputE ht _ (by assumption)) trivial rfl rfl (fun r8 er8 => ?_)
      simp only [ht] at er8
      cbv
      refine ⟨?_, ?_⟩
      · (simp [ht, j3, vpre, Vec.at_, *]; omega)
      cbv
      refine loopC (_, _) (by simp only [ht]; rfl) (n - 1) ?_ ((hJ0 _ _ _).2 ?_)
      · omega
      · simp only [ht, ncast]
        first | exact ⟨1, by decide, by ((try simp only [ncast] at *); omega), by simp [vpre, Vec.at_, *]⟩ | exact ⟨2, by decide, by ((try simp only [ncast] at *); omega), by simp [vpre, Vec.at_, *]⟩ | exact ⟨3, by decide, by ((try simp only [ncast] at *); omega), by simp [vpre, Vec.at_, *]⟩ | exact ⟨4, by decide, by ((try simp only [ncast] at *); omega), by simp [vpre, Vec.at_, *]⟩
    · simp [ht, ncast] at h7
  · cbv
    refine condI (fun h9 => ?_) (fun h9 => ?_)
    · simp [ht, ncast] at h9
    · simp [ht, ncast] at h9
      cbv
      refine retF trivial trivial rfl rfl rfl ?_
      (simp [ht, j3, vput, vpre, Vec.at_, EStr]; done)
theorem c_lputE (ht : TT t) {l : List Pair} {es : List (List D)} (hes : es = l.map Pair.cells) (hl : l.length < 1000000000) (hsm : ∀ p ∈ l, p.sm) (hn : (lput l).length < 9223372036854775000) : FC 73 [SL es] [] (.ret (EStr (t _ fun _ => lput l))) [] := by
  have hlw : IntKind.u64.wrap (es.length : Int) = l.length := by rw [wrapU64, hes, List.length_map]; omega
  refine fc' ht (bx0 := []) Tryd.func73 (c := _) rfl rfl (N := 30) rfl (rs := _) rfl (n := 0) rfl rfl ?_
  cbv
  have len_es : es.length = l.length := by rw [hes, List.length_map]
  refine callEF trivial (c_lrightE ht (by assumption) (by assumption) (by assumption)) trivial rfl rfl (fun r0 er0 => ?_)
  simp only [ht] at er0
  cbv
  refine condI (fun h1 => ?_) (fun h1 => ?_)
  · simp [ht, ncast, len_es] at h1
    cbv
    refine retF trivial trivial rfl rfl rfl ?_
    (simp only [ht, ncast, EStr, lput]; grind)
  · simp [ht, ncast, len_es] at h1
    cbv
    refine callEF trivial (c_wputE ht _ (by (simp only [ht]; ((try simp only [ncast] at *); omega)))) trivial rfl rfl (fun r2 er2 => ?_)
    simp only [ht] at er2
    (try rw [hlw] at er2)
    cbv
    obtain ⟨J3, hJ3⟩ : ∃ J3 : Nat → List UInt8 × Int → Prop, ∀ n o i, J3 n (o, i) ↔ (∃ k : Nat, i = k ∧ k + n = l.length ∧ lput l = o ++ ((l.drop k).map lput1).flatten) := ⟨fun n v => match v with | (o, i) => (∃ k : Nat, i = k ∧ k + n = l.length ∧ lput l = o ++ ((l.drop k).map lput1).flatten), fun _ _ _ => Iff.rfl⟩
    refine loopU ⟨[3, 13, 14, 15], [], []⟩ (σ := List UInt8 × Int) (fun v => [(3, .d (.str (t _ fun _ => v.1))), (15, .d (.int .i64 (t _ fun _ => v.2)))]) (fun v => []) J3 ?_
    cbv
    refine loopIn ⟨l.length, (_, _), (hJ3 _ _ _).2 ?_, by simp only [ht]; rfl, ?_⟩
    · (simp only [ht, ncast, EStr, lput]; grind)
    rintro n ⟨o, i⟩ hj
    replace hj := (hJ3 _ _ _).1 hj
    obtain ⟨k, rfl, j1, j4⟩ := hj
    cbv
    refine condI (fun h4 => ?_) (fun h4 => ?_)
    · simp [ht, ncast, len_es] at h4
      cbv
      refine idxM ht hes (cT := Pair.cellsT t) (by (simp only [ht, ncast]; omega)) (by (simp only [ht, ncast]; omega)) (fun _ => rfl) (fun _ => rfl) (fun x5 mx5 => ?_)
      simp [ht, ncast] at mx5
      rw [flat_at mx5, lput1] at j4
      have hl2 := congrArg List.length j4
      simp [wputText] at hl2
      have hk1 : (x5).key.length < 9223372036854775000 := by ((try simp only [ncast] at *); omega)
      have hv1 : (x5).value.length < 9223372036854775000 := by ((try simp only [ncast] at *); omega)
      cbv
      refine drawI [false, false, false, false, false, false, false, false, true, true] (by kernel_rfl) (by kernel_rfl) ?_
      cbv
      refine gI (by simp [ht, pickI_iff]) ?_
      refine gI (by simp [ht, pickI_iff]) ?_
      refine gI (by simp [ht, pickI_iff]) ?_
      refine .inl ?_
      refine callEQ (fun g6 => ⟨trivial, trivial, c_wputTextE ht _ (by assumption)⟩) rfl rfl (fun r7 er7 => ?_)
      simp only [ht] at er7
      cbv
      refine gI (by simp [ht, pickI_iff]) ?_
      refine gI (by simp [ht, pickI_iff]) ?_
      refine .inl ?_
      refine callEQ (fun g8 => ⟨trivial, trivial, c_wputTextE ht _ (by assumption)⟩) rfl rfl (fun r9 er9 => ?_)
      simp only [ht] at er9
      cbv
      refine gI (by simp [ht, pickI_iff, cutC, ncast, EStr, lput]; grind) ?_
      refine ⟨?_, ?_⟩
      · (simp [ht, wputText, *]; ((try simp only [ncast] at *); omega))
      cbv
      refine loopC (_, _) (by simp only [ht]; rfl) (n - 1) ?_ ((hJ3 _ _ _).2 ?_)
      · omega
      · simp only [ht, ncast]
        exact ⟨k + 1, i64_upN (by ((try simp only [ncast] at *); omega)), by ((try simp only [ncast] at *); omega), by rw [j4]; simp [*]⟩
    · simp [ht, ncast, len_es] at h4
      cbv
      refine retF trivial trivial rfl rfl rfl ?_
      (rw [List.drop_eq_nil_of_le (by ((try simp only [ncast] at *); omega)), List.map_nil, List.flatten_nil, List.append_nil] at j4; simp only [ht, j4]; done)
end Dem
end
section
/- CONTRACTS: pool.Put. -/
open Go Dem Go.Proofs
namespace Dem
set_option maxRecDepth 100000
set_option maxHeartbeats 2000000
variable {t : Th}
theorem c_nputE (ht : TT t) (nm : Str) (a b c d : Int) {lb : List Pair} {lr : List (List D)} (hlr : lr = lb.map Pair.cells) (up : Bool) (hu : (⟨a, b, c, d⟩ : Vec).u) (hl : lb.length < 1000000000) (hsm : ∀ p ∈ lb, p.sm) (hn : (nput ⟨nm, ⟨a, b, c, d⟩, lb, up⟩).length < 9223372036854775000) :
    FC 51 [.agg [ST nm, U64 a, U64 b, U64 c, U64 d, SL lr, BL up]] [] (.ret (EStr (t _ fun _ => nput ⟨nm, ⟨a, b, c, d⟩, lb, up⟩))) [] := by
  have hn2 := hn
  simp only [nput, wputText, List.length_append] at hn2
  refine fc' ht (bx0 := []) Tryd.func51 (c := _) rfl rfl (N := 20) rfl (rs := _) rfl (n := 0) rfl rfl ?_
  cbv
  have len_lr : lr.length = lb.length := by rw [hlr, List.length_map]
  refine condI (fun h0 => ?_) (fun h0 => ?_)
  · cbv
    refine drawI [false, false, false, false, false, false, false, false, false, false, false, false, false, true, true] (by kernel_rfl) (by kernel_rfl) ?_
    cbv
    refine gI (by simp [ht, pickI_iff]) ?_
    refine gI (by simp [ht, pickI_iff]) ?_
    refine .inl ?_
    refine callEQ (fun g1 => ⟨trivial, trivial, c_wputTextE ht _ (by omega)⟩) rfl rfl (fun r2 er2 => ?_)
    simp only [ht] at er2
    have glr2 : (r2).length = (wput nm.length).length + nm.length := by rw [er2, wputText, List.length_append]
    cbv
    refine gI (by simp [ht, pickI_iff]) ?_
    refine gI (by simp [ht, pickI_iff]) ?_
    refine .inl ?_
    refine callEQ (fun g3 => ⟨trivial, trivial, c_vputE ht _ _ _ _ (by assumption)⟩) rfl rfl (fun r4 er4 => ?_)
    simp only [ht] at er4
    have glr4 : (r4).length ≤ 40 := by rw [er4]; exact vput_len _
    cbv
    refine gI (by simp [ht, pickI_iff, cutC, ncast, EStr, nput]; omega) ?_
    refine gI (by simp [ht, pickI_iff]) ?_
    refine gI (by simp [ht, pickI_iff]) ?_
    refine .inl ?_
    refine callEQ (fun g5 => ⟨trivial, trivial, c_lputE ht (by assumption) (by assumption) (by assumption) (by omega)⟩) rfl rfl (fun r6 er6 => ?_)
    simp only [ht] at er6
    have glr6 : (r6).length = (lput lb).length := by rw [er6]
    cbv
    refine gI (by simp [ht, pickI_iff, cutC, ncast, EStr, nput]; omega) ?_
    refine gI (by simp [ht, pickI_iff]) ?_
    refine .inl ?_
    refine callEQ (fun g7 => ⟨trivial, trivial, c_wputE ht _ (by omega)⟩) rfl rfl (fun r8 er8 => ?_)
    simp only [ht] at er8
    have glr8 : (r8).length ≤ 10 := by rw [er8]; exact wput_len _
    cbv
    refine ⟨?_, ?_⟩
    · (simp [ht, ncast, hlr]; omega)
    cbv
    refine retF trivial trivial rfl rfl rfl ?_
    (simp [ht, EStr, nput, *]; done)
  · cbv
    refine drawI [false, false, false, false, false, false, false, false, false, false, false, false, false, true, true] (by kernel_rfl) (by kernel_rfl) ?_
    cbv
    refine gI (by simp [ht, pickI_iff]) ?_
    refine gI (by simp [ht, pickI_iff]) ?_
    refine .inl ?_
    refine callEQ (fun g9 => ⟨trivial, trivial, c_wputTextE ht _ (by omega)⟩) rfl rfl (fun r10 er10 => ?_)
    simp only [ht] at er10
    have glr10 : (r10).length = (wput nm.length).length + nm.length := by rw [er10, wputText, List.length_append]
    cbv
    refine gI (by simp [ht, pickI_iff]) ?_
    refine gI (by simp [ht, pickI_iff]) ?_
    refine .inl ?_
    refine callEQ (fun g11 => ⟨trivial, trivial, c_vputE ht _ _ _ _ (by assumption)⟩) rfl rfl (fun r12 er12 => ?_)
    simp only [ht] at er12
    have glr12 : (r12).length ≤ 40 := by rw [er12]; exact vput_len _
    cbv
    refine gI (by simp [ht, pickI_iff, cutC, ncast, EStr, nput]; omega) ?_
    refine gI (by simp [ht, pickI_iff]) ?_
    refine gI (by simp [ht, pickI_iff]) ?_
    refine .inl ?_
    refine callEQ (fun g13 => ⟨trivial, trivial, c_lputE ht (by assumption) (by assumption) (by assumption) (by omega)⟩) rfl rfl (fun r14 er14 => ?_)
    simp only [ht] at er14
    have glr14 : (r14).length = (lput lb).length := by rw [er14]
    cbv
    refine gI (by simp [ht, pickI_iff, cutC, ncast, EStr, nput]; omega) ?_
    refine gI (by simp [ht, pickI_iff]) ?_
    refine .inl ?_
    refine callEQ (fun g15 => ⟨trivial, trivial, c_wputE ht _ (by omega)⟩) rfl rfl (fun r16 er16 => ?_)
    simp only [ht] at er16
    have glr16 : (r16).length ≤ 10 := by rw [er16]; exact wput_len _
    cbv
    refine ⟨?_, ?_⟩
    · (simp [ht, ncast, hlr]; omega)
    cbv
    refine retF trivial trivial rfl rfl rfl ?_
    (simp [ht, EStr, nput, *]; done)
theorem c_pputE (ht : TT t) {l : List Node} {ps : List Place} {es qs : List (List D)} (hes : es = l.map Node.cells) (hqs : qs = ps.map Place.cells) (hl : l.length < 1000000000) (hpl : ps.length < 1000000000) (hsm : ∀ x ∈ l, x.sm) (hu : ∀ x ∈ l, x.cap.u)
    (hxu : ∀ x ∈ ps, x.v.u ∧ x.job < 18446744073709551616) (hn : (pput ⟨l, ps⟩).length < 9223372036854775000) :
    FC 24 [.agg [SL es, SL qs]] [] (.ret (EStr (t _ fun _ => pput ⟨l, ps⟩))) [] := by
  have hlw : IntKind.u64.wrap (es.length : Int) = l.length := by rw [wrapU64, hes, List.length_map]; omega
  have hqw : IntKind.u64.wrap (qs.length : Int) = ps.length := by rw [wrapU64, hqs, List.length_map]; omega
  refine fc' ht (bx0 := []) Tryd.func24 (c := _) rfl rfl (N := 54) rfl (rs := _) rfl (n := 0) rfl rfl ?_
  cbv
  have len_es : es.length = l.length := by rw [hes, List.length_map]
  have len_qs : qs.length = ps.length := by rw [hqs, List.length_map]
  refine callEF trivial (c_wputE ht _ (by (simp only [ht]; ((try simp only [ncast] at *); omega)))) trivial rfl rfl (fun r0 er0 => ?_)
  simp only [ht] at er0
  (try rw [hlw] at er0)
  (try rw [hqw] at er0)
  have glr0 := congrArg List.length er0
  (try have eps : r0 = wput (ps.length : Int) := er0)
  cbv
  obtain ⟨J1, hJ1⟩ : ∃ J1 : Nat → List UInt8 × Int → Prop, ∀ n o i, J1 n (o, i) ↔ (∃ k : Nat, i = k ∧ k + n = l.length ∧ pput ⟨l, ps⟩ = o ++ ((l.drop k).map nput).flatten ++ wput ps.length ++ (ps.map xput).flatten) := ⟨fun n v => match v with | (o, i) => (∃ k : Nat, i = k ∧ k + n = l.length ∧ pput ⟨l, ps⟩ = o ++ ((l.drop k).map nput).flatten ++ wput ps.length ++ (ps.map xput).flatten), fun _ _ _ => Iff.rfl⟩
  refine loopU ⟨[1, 3, 14, 15, 16], [], []⟩ (σ := List UInt8 × Int) (fun v => [(3, .d (.str (t _ fun _ => v.1))), (16, .d (.int .i64 (t _ fun _ => v.2)))]) (fun v => []) J1 ?_
  cbv
  refine loopIn ⟨l.length, (_, _), (hJ1 _ _ _).2 ?_, by simp only [ht]; rfl, ?_⟩
  · exact ⟨0, rfl, by simp, by simp [pput, *]⟩
  rintro n ⟨o, i⟩ hj
  replace hj := (hJ1 _ _ _).1 hj
  obtain ⟨k, rfl, j1, j4⟩ := hj
  cbv
  refine condI (fun h2 => ?_) (fun h2 => ?_)
  · simp [ht, ncast, len_es, len_qs] at h2
    cbv
    refine idxM ht hes (cT := Node.cellsT t) (by (simp only [ht, ncast]; omega)) (by (simp only [ht, ncast]; omega)) (fun _ => rfl) (fun _ => (by (simp only [ht, Node.cellsT]; done))) (fun x3 mx3 => ?_)
    simp [ht, ncast] at mx3
    rw [flat_at mx3] at j4
    have hl2 := congrArg List.length j4
    simp at hl2
    have hs1 := hsm _ (List.mem_of_getElem? mx3)
    have hu1 := hu _ (List.mem_of_getElem? mx3)
    have hnp : (nput x3).length < 9223372036854775000 := by ((try simp only [ncast] at *); omega)
    obtain ⟨nx, hnx⟩ : ∃ nx, nx = nput x3 := ⟨_, rfl⟩
    rw [← hnx] at hl2 j4
    cbv
    (refine callEF trivial (c_nputE ht _ _ _ _ _ (by simp only [ht]) _ hu1 hs1.2.1 hs1.2.2 hnp) trivial rfl rfl (fun r9 er9 => ?_); simp only [ht] at er9; have gl9 : r9 = nx := er9.trans hnx.symm; subst gl9)
    cbv
    refine ⟨?_, ?_⟩
    · (simp only [ht, ncast] at *; omega)
    cbv
    refine loopC (_, _) (by simp only [ht]; rfl) (n - 1) ?_ ((hJ1 _ _ _).2 ?_)
    · omega
    · simp only [ht, ncast]
      exact ⟨k + 1, i64_upN (by ((try simp only [ncast] at *); omega)), by ((try simp only [ncast] at *); omega), by rw [j4]; simp [*]⟩
  · simp [ht, ncast, len_es, len_qs] at h2
    cbv
    refine callEF trivial (c_wputE ht _ (by (simp only [ht]; ((try simp only [ncast] at *); omega)))) trivial rfl rfl (fun r4 er4 => ?_)
    simp only [ht] at er4
    (try rw [hlw] at er4)
    (try rw [hqw] at er4)
    have glr4 := congrArg List.length er4
    (try have eps : r4 = wput (ps.length : Int) := er4)
    cbv
    refine ⟨?_, ?_⟩
    · (simp only [ht, ncast, EStr]; grind)
    cbv
    obtain ⟨J5, hJ5⟩ : ∃ J5 : Nat → List UInt8 × Int → Prop, ∀ n o i, J5 n (o, i) ↔ (∃ k : Nat, i = k ∧ k + n = ps.length ∧ pput ⟨l, ps⟩ = o ++ ((ps.drop k).map xput).flatten) := ⟨fun n v => match v with | (o, i) => (∃ k : Nat, i = k ∧ k + n = ps.length ∧ pput ⟨l, ps⟩ = o ++ ((ps.drop k).map xput).flatten), fun _ _ _ => Iff.rfl⟩
    refine loopU ⟨[3, 33, 34, 35], [], []⟩ (σ := List UInt8 × Int) (fun v => [(3, .d (.str (t _ fun _ => v.1))), (35, .d (.int .i64 (t _ fun _ => v.2)))]) (fun v => []) J5 ?_
    cbv
    refine loopIn ⟨ps.length, (_, _), (hJ5 _ _ _).2 ?_, by simp only [ht]; rfl, ?_⟩
    · exact ⟨0, rfl, by simp, by rw [j4, List.drop_eq_nil_of_le (show l.length ≤ k by ((try simp only [ncast] at *); omega))]; simp [eps, ht]⟩
    rintro n ⟨o, i⟩ hj
    replace hj := (hJ5 _ _ _).1 hj
    obtain ⟨k, rfl, j1, j4⟩ := hj
    cbv
    refine condI (fun h6 => ?_) (fun h6 => ?_)
    · simp [ht, ncast, len_es, len_qs] at h6
      cbv
      refine idxM ht hqs (cT := Place.cellsT t) (by (simp only [ht, ncast]; omega)) (by (simp only [ht, ncast]; omega)) (fun _ => rfl) (fun _ => rfl) (fun x7 mx7 => ?_)
      simp [ht, ncast] at mx7
      rw [flat_at mx7, xput] at j4
      have hl2 := congrArg List.length j4
      simp [wputText] at hl2
      have hu1 := hxu _ (List.mem_of_getElem? mx7)
      clear mx7
      obtain ⟨jb, nd, ⟨v1, v2, v3, v4⟩⟩ := x7
      simp only at hu1 hl2
      cbv
      refine drawI [false, false, false, false, false, false, false, false, false, false, false, false, true, true] (by kernel_rfl) (by kernel_rfl) ?_
      cbv
      refine gI (by simp [ht, pickI_iff]) ?_
      refine gI (by simp [ht, pickI_iff]) ?_
      refine gI (by simp [ht, pickI_iff]) ?_
      refine .inl ?_
      refine callEQ (fun g8 => ⟨trivial, trivial, c_wputE ht _ (by omega)⟩) rfl rfl (fun r9 er9 => ?_)
      simp only [ht] at er9
      (try rw [hlw] at er9)
      (try rw [hqw] at er9)
      have glr9 := congrArg List.length er9
      (try have eps : r9 = wput (ps.length : Int) := er9)
      cbv
      refine gI (by simp [ht, pickI_iff]) ?_
      refine gI (by simp [ht, pickI_iff]) ?_
      refine .inl ?_
      refine callEQ (fun g10 => ⟨trivial, trivial, c_wputTextE ht _ (by omega)⟩) rfl rfl (fun r11 er11 => ?_)
      simp only [ht] at er11
      have glr11 := congrArg List.length er11
      simp only [wputText, List.length_append] at glr11
      cbv
      refine gI (by simp [ht, pickI_iff, cutC, ncast, EStr]; omega) ?_
      refine gI (by simp [ht, pickI_iff]) ?_
      refine gI (by simp [ht, pickI_iff]) ?_
      refine .inl ?_
      refine callEQ (fun g12 => ⟨trivial, trivial, c_vputE ht _ _ _ _ (by (simp [ht, *]; done))⟩) rfl rfl (fun r13 er13 => ?_)
      simp only [ht] at er13
      have glr13 := congrArg List.length er13
      cbv
      refine gI (by simp [ht, pickI_iff, cutC, ncast, EStr]; omega) ?_
      refine ⟨?_, ?_⟩
      · (simp [ht, ncast, hes, hqs]; omega)
      cbv
      refine loopC (_, _) (by simp only [ht]; rfl) (n - 1) ?_ ((hJ5 _ _ _).2 ?_)
      · omega
      · simp only [ht, ncast]
        exact ⟨k + 1, i64_upN (by ((try simp only [ncast] at *); omega)), by ((try simp only [ncast] at *); omega), by rw [j4]; simp [*]⟩
    · simp [ht, ncast, len_es, len_qs] at h6
      cbv
      refine retF trivial trivial rfl rfl rfl ?_
      (rw [List.drop_eq_nil_of_le (by omega)] at j4; simp only [ht, ncast, EStr]; grind)
end Dem
end
