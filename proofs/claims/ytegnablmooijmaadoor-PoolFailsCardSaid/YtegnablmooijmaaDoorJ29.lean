/- JOINED TEXTS: Co15, Co16, Co17, Co18. -/
import Derived.Test.YtegnablmooijmaaDoorJ21
import Derived.Test.YtegnablmooijmaaDoorJ25
import Derived.Test.YtegnablmooijmaaDoorJ27
import Derived.Test.YtegnablmooijmaaDoorJ28
set_option linter.unusedSimpArgs false
set_option linter.unusedVariables false
section
/- CONTRACTS: wire.Get. -/
open Go Dem Go.Proofs
namespace Dem
set_option maxRecDepth 100000
set_option maxHeartbeats 2000000
variable {t : Th}
theorem c_wputE (ht : TT t) (u : Int) (hu : u < 18446744073709551616) : FC 50 [U64 u] [] (.ret (EStr (t _ fun _ => wput u))) [] := by
  simp only [ht]; exact c_wput ht u hu rfl
theorem c_wclose (ht : TT t) (s : Str) (p u next : Int) (ok : Bool) (hu : u < 18446744073709551616) (hn : 0 < next → 0 ≤ p ∧ p ≤ next ∧ next ≤ s.length) {r : Got} (hr : r = wclose s p u next) :
    FD 87 [.ptr 3 0, .ptr 2 0, .ptr 0 0, .ptr 1 0, .ptr 4 0] [.var [ST s], .var [I64 p], .var [U64 u], .var [I64 next], .var [BL ok]] (.ret (.tup [])) [.var [ST s], .var [I64 p], .var [U64 r.u], .var [I64 r.next], .var [BL r.ok]] := by
  refine fdC ht (bx0 := [.var [ST s], .var [I64 p], .var [U64 u], .var [I64 next], .var [BL ok]]) Tryd.func87 (c := _) rfl rfl (N := 18) rfl (rs := _) rfl (n := 5) rfl rfl ?_
  cbv
  refine drawI [true, true, true, false, false, false, false, false, false, true, true, true] (by kernel_rfl) (by kernel_rfl) ?_
  cbv
  refine gI (by simp [ht, pickI_iff]) ?_
  refine callEQ (fun g0 => ⟨by simp [ht] at g0 ⊢; exact g0, trivial, c_wputE ht _ (by assumption)⟩) rfl rfl (fun r1 er1 => ?_)
  simp only [ht] at er1
  cbv
  refine gI (by simp [ht, pickI_iff]) ?_
  refine gI (by simp [ht, pickI_iff]) ?_
  refine gI (by simp [ht, pickI_iff]) ?_
  refine gI (by simp [ht, pickI_iff, cutC, ncast, wclose]; grind) ?_
  refine gI (by simp [ht, pickI_iff]) ?_
  refine pI (by simp [ht, pickI_iff]) ?_
  refine condI (fun h2 => ?_) (fun h2 => ?_)
  · simp [ht, ncast] at h2
    cbv
    refine retF trivial trivial rfl ?_ rfl rfl
    (have e : wclose s p u next = Got.no := (by rw [wclose, if_neg]; rintro ⟨g1, g2⟩; rw [← er1] at g2; rcases h2 with h2 | h2; (· omega); (· exact h2 (by simp [cutL, g2]))); have e2 : (decide (0 < next) && decide (r1 = cutL s (some p) (some next))) = false := (by rcases h2 with h2 | h2; (· simp; intro h; omega); (· simp [h2])); rw [hr, e]; simp [sealT, seals1, ht, Got.no, e2]; done)
  · simp [ht, ncast] at h2
    cbv
    refine retF trivial trivial rfl ?_ rfl rfl
    (have e : wclose s p u next = ⟨u, next, true⟩ := (by rw [wclose, if_pos]; refine ⟨h2.1, ?_⟩; obtain ⟨g1, g2, g3⟩ := hn h2.1; rw [← er1, h2.2]; simp [cutL]); rw [hr, e]; simp [sealT, seals1, ht, h2.1, h2.2]; done)
def wclosed (s : Str) (p : Int) (r : Got) : List Box := [.var [ST s], .var [I64 p], .var [U64 r.u], .var [I64 r.next], .var [BL r.ok]]
theorem c_wcloseE (ht : TT t) (s : Str) (p u next : Int) (ok : Bool) (hu : u < 18446744073709551616) (hn : 0 < next → 0 ≤ p ∧ p ≤ next ∧ next ≤ s.length) :
    FD 87 [.ptr 3 0, .ptr 2 0, .ptr 0 0, .ptr 1 0, .ptr 4 0] [.var [ST s], .var [I64 p], .var [U64 u], .var [I64 next], .var [BL ok]] (.ret (.tup [])) (wclosed s p (t _ fun _ => wclose s p u next)) := by
  simp only [ht]; exact c_wclose ht s p u next ok hu hn rfl
theorem deferE {ρ : Type} {FD : Nat → List AV → List Box → Res → List Box → Prop} {f : Nat} {caps : List AV} {bx : List Box} {K : List Box → Prop} {B : ρ → List Box} {r0 : ρ} (h : FD f caps bx (.ret (.tup [])) (B r0)) (hK : ∀ r, r = r0 → K (B r)) : DeferIn FD f caps bx K := deferI h (hK _ rfl)
def EGot (r : Got) : AV := .tup [U64 r.u, I64 r.next, BL r.ok]
theorem c_wgetE (ht : TT t) (s : Str) (p : Int) (hs : s.length < 9223372036854775000) (hp : p < 9223372036854775808) : FC 74 [ST s, I64 p] [] (.ret (EGot (t _ fun _ => wget s p))) [] := by
  refine fcD ht (bx0 := []) Tryd.func74 (c := _) rfl rfl (N := 48) rfl (rs := _) rfl (n := 0) rfl rfl rfl ?_
  cbv
  refine gI (by simp [ht, pickI_iff]) ?_
  refine gI (by simp [ht, pickI_iff]) ?_
  refine gI (by simp [ht, pickI_iff]) ?_
  refine gI (by simp [ht, pickI_iff]) ?_
  refine pI (by simp [ht, pickI_iff]) ?_
  refine condI (fun h0 => ?_) (fun h0 => ?_)
  · simp [ht, ncast] at h0
    cbv
    (refine deferE (c_wcloseE ht s p _ _ _ (by decide) (by intro h; cases h)) (fun q hq => ?_); simp only [ht] at hq)
    cbv
    refine retF trivial trivial rfl rfl rfl ?_
    (have e : wget s p = q := (by rw [hq, wclose, if_neg (by ((try simp only [ncast] at *); omega)), wget, wfound, if_pos (by ((try simp only [ncast] at *); omega))]); simp only [ht, e]; done)
  · simp [ht, ncast] at h0
    cbv
    obtain ⟨a, ha⟩ : ∃ a : Nat, p = a := ⟨p.toNat, by ((try simp only [ncast] at *); omega)⟩
    have hw : IntKind.i64.wrap (p + 10) = p + 10 := wrapI64 (by ((try simp only [ncast] at *); omega)) (by ((try simp only [ncast] at *); omega))
    obtain ⟨J1, hJ1⟩ : ∃ J1 : Nat → Int × Int → Prop, ∀ n i u, J1 n (i, u) ↔ (∃ j : Nat, i = p + j ∧ j + n = 10 ∧ j ≤ 10 ∧ (0 ≤ u ∧ u < 2 ^ (7 * j) ∧ u < 18446744073709551616) ∧ wscan 10 0 (s.drop a) 0 = wscan n j (s.drop (a + j)) u) := ⟨fun n v => match v with | (i, u) => (∃ j : Nat, i = p + j ∧ j + n = 10 ∧ j ≤ 10 ∧ (0 ≤ u ∧ u < 2 ^ (7 * j) ∧ u < 18446744073709551616) ∧ wscan 10 0 (s.drop a) 0 = wscan n j (s.drop (a + j)) u), fun _ _ _ => Iff.rfl⟩
    refine loopU ⟨[2, 3, 4, 5, 6, 7], [], []⟩ (σ := Int × Int) (fun v => [(7, .d (.int .i64 (t _ fun _ => v.1)))]) (fun v => [(2, .var [.d (.int .u64 (t _ fun _ => v.2))]), (3, .var [AV.d (D.int IntKind.i64 0)])]) J1 ?_
    cbv
    refine loopIn ⟨10, (_, _), (hJ1 _ _ _).2 ?_, by simp only [ht]; rfl, ?_⟩
    · exact ⟨0, by simp, by simp, by simp, by simp, by simp⟩
    rintro n ⟨i, u⟩ hj
    replace hj := (hJ1 _ _ _).1 hj
    obtain ⟨j, hi, j1, j2, j3, j4⟩ := hj
    cbv
    refine gI (by simp [ht, pickI_iff]) ?_
    refine gI (by simp [ht, pickI_iff]) ?_
    refine gI (by simp [ht, pickI_iff]) ?_
    refine gI (by simp [ht, pickI_iff]) ?_
    refine pI (by simp [ht, pickI_iff]) ?_
    refine condI (fun h2 => ?_) (fun h2 => ?_)
    · simp [ht, ncast, hw] at h2
      cbv
      refine drawI [false, false, false, false, false, false, false, false, false, false, false, true, true] (by kernel_rfl) (by kernel_rfl) ?_
      cbv
      refine gI (by simp [ht, pickI_iff]) ?_
      refine gI (by simp [ht, pickI_iff]) ?_
      refine gI (by simp [ht, pickI_iff]) ?_
      refine gI (by simp [ht, pickI_iff, cutC, ncast, EGot]; grind) ?_
      refine gI (by simp [ht, pickI_iff]) ?_
      refine gI (by simp [ht, pickI_iff]) ?_
      refine gI (by simp [ht, pickI_iff]) ?_
      refine gI (by simp [ht, pickI_iff]) ?_
      refine gI (by simp [ht, pickI_iff]) ?_
      refine gI (by simp [ht, pickI_iff]) ?_
      refine gI (by (simp only [ht]; intro _; exact shOk hi (by ((try simp only [ncast] at *); omega)))) ?_
      refine ⟨?_, ?_⟩
      · (simp only [ht, ncast] at *; omega)
      cbv
      refine condI (fun h3 => ?_) (fun h3 => ?_)
      · simp [ht, ncast, hw] at h3
        cbv
        (refine deferE (c_wcloseE ht s p _ _ _ (by simp only [ht]; rw [orStep hi (by ((try simp only [ncast] at *); omega)) j3]; exact (wor_bd (by ((try simp only [ncast] at *); omega)) j3).2.2) (by simp only [ht]; intro _; rw [wrapI64 (by ((try simp only [ncast] at *); omega)) (by ((try simp only [ncast] at *); omega))]; ((try simp only [ncast] at *); omega))) (fun q hq => ?_); simp only [ht] at hq; rw [orStep hi (by ((try simp only [ncast] at *); omega)) j3, wrapI64 (x := i + 1) (by ((try simp only [ncast] at *); omega)) (by ((try simp only [ncast] at *); omega))] at hq)
        cbv
        refine retF trivial trivial rfl rfl rfl ?_
        (have e : wget s p = q := (by rw [hq]; exact wget_close ha hi (by ((try simp only [ncast] at *); omega)) (by ((try simp only [ncast] at *); omega)) j4 (by rw [List.getD_eq_getElem?_getD]; assumption)); simp only [ht, e]; done)
      · simp [ht, ncast, hw] at h3
        cbv
        refine loopC (_, _) (by simp only [ht]; rfl) (n - 1) ?_ ((hJ1 _ _ _).2 ?_)
        · ((try simp only [ncast] at *); omega)
        · simp only [ht, ncast]
          rw [orStep hi (by ((try simp only [ncast] at *); omega)) j3, wrapI64 (x := i + 1) (by ((try simp only [ncast] at *); omega)) (by ((try simp only [ncast] at *); omega))]
          refine ⟨j + 1, by ((try simp only [ncast] at *); omega), by ((try simp only [ncast] at *); omega), by ((try simp only [ncast] at *); omega), wor_bd (by ((try simp only [ncast] at *); omega)) j3, ?_⟩
          (rw [j4, wscan_step (by ((try simp only [ncast] at *); omega)) (by ((try simp only [ncast] at *); omega)), if_neg (by have e0 : i.toNat = a + j := (by ((try simp only [ncast] at *); omega)); rw [← e0, List.getD_eq_getElem?_getD]; ((try simp only [ncast] at *); omega)), show i.toNat = a + j by ((try simp only [ncast] at *); omega)])
    · simp [ht, ncast, hw] at h2
      cbv
      (refine deferE (c_wcloseE ht s p _ _ _ (by simp only [ht]; ((try simp only [ncast] at *); omega)) (by intro h; cases h)) (fun q hq => ?_); simp only [ht] at hq)
      cbv
      refine retF trivial trivial rfl rfl rfl ?_
      (have e : wget s p = q := (by rw [hq, wclose, if_neg (by ((try simp only [ncast] at *); omega)), wget, wget_none ha (by ((try simp only [ncast] at *); omega)) j4]); simp only [ht, e]; done)
end Dem
end
section
/- CONTRACTS: wire.GetText, vec.Get. -/
open Go Dem Go.Proofs
namespace Dem
set_option maxRecDepth 100000
set_option maxHeartbeats 2000000
variable {t : Th}
def EGotT (r : GotT) : AV := .tup [ST r.t, I64 r.next, BL r.ok]
theorem c_wgetTextE (ht : TT t) (s : Str) (p most : Int) (hs : s.length < 9223372036854775000) (hp : p < 9223372036854775808) (hm : most < 9223372036854775808) : FC 75 [ST s, I64 p, I64 most] [] (.ret (EGotT (t _ fun _ => wgetText s p most))) [] := by
  refine fc' ht (bx0 := []) Tryd.func75 (c := _) rfl rfl (N := 44) rfl (rs := _) rfl (n := 0) rfl rfl ?_
  cbv
  refine callEF trivial (c_wgetE ht _ _ (by assumption) (by assumption)) trivial rfl rfl (fun r0 er0 => ?_)
  simp only [ht] at er0
  have gb := wget_bd (s := s) (p := p)
  rw [← er0] at gb
  cbv
  refine gI (by simp [ht, pickI_iff]) ?_
  refine gI (by simp [ht, pickI_iff]) ?_
  refine pI (by simp [ht, pickI_iff]) ?_
  refine gI (by simp [ht, pickI_iff]) ?_
  refine gI (by simp [ht, pickI_iff]) ?_
  refine gI (by simp [ht, pickI_iff]) ?_
  refine gI (by simp [ht, pickI_iff]) ?_
  refine gI (by simp [ht, pickI_iff]) ?_
  refine gI (by simp [ht, pickI_iff]) ?_
  refine gI (by simp [ht, pickI_iff]) ?_
  refine gI (by simp [ht, pickI_iff]) ?_
  refine gI (by simp [ht, pickI_iff]) ?_
  refine pI (by simp [ht, pickI_iff]) ?_
  refine condI (fun h1 => ?_) (fun h1 => ?_)
  · simp [ht, ncast] at h1
    have q := text_no er0 gb hs hm h1
    cbv
    refine retF trivial trivial rfl rfl rfl ?_
    (simp only [ht, q, GotT.no]; done)
  · simp [ht, ncast] at h1
    have q := text_yes er0 gb hs hm h1
    cbv
    refine ⟨?_, ?_⟩
    · (simp only [ht]; exact q.2)
    cbv
    refine retF trivial trivial rfl rfl rfl ?_
    (simp only [ht, q, GotT.no]; done)
def EGotV (r : GotV) : AV := .tup [V4 r.v.a r.v.b r.v.c r.v.d, I64 r.next, BL r.ok]
theorem c_vgetE (ht : TT t) (s : Str) (p : Int) (hs : s.length < 9223372036854775000) (hp : p < 9223372036854775808) : FC 76 [ST s, I64 p] [] (.ret (EGotV (t _ fun _ => vget s p))) [] := by
  refine fc' ht (bx0 := []) Tryd.func76 (c := _) rfl rfl (N := 31) rfl (rs := _) rfl (n := 0) rfl rfl ?_
  cbv
  obtain ⟨J0, hJ0⟩ : ∃ J0 : Nat → Int × Int × Int × Int × Int × Int → Prop, ∀ n b i x0 x1 x2 x3, J0 n (b, i, x0, x1, x2, x3) ↔ (b < 9223372036854775808 ∧ (∃ k : Nat, i = k ∧ k + n = 4) ∧ vgetGo s 4 Vec.zero p = vgetGo s n ⟨x0, x1, x2, x3⟩ b) := ⟨fun n v => match v with | (b, i, x0, x1, x2, x3) => (b < 9223372036854775808 ∧ (∃ k : Nat, i = k ∧ k + n = 4) ∧ vgetGo s 4 Vec.zero p = vgetGo s n ⟨x0, x1, x2, x3⟩ b), fun _ _ _ _ _ _ _ => Iff.rfl⟩
  refine loopU ⟨[0, 1, 4, 11], [], []⟩ (σ := Int × Int × Int × Int × Int × Int) (fun v => [(1, .d (.int .i64 (t _ fun _ => v.1))), (11, .d (.int .i64 (v.2.1)))]) (fun v => [(0, .var [.d (.int .u64 (t _ fun _ => v.2.2.1)), .d (.int .u64 (t _ fun _ => v.2.2.2.1)), .d (.int .u64 (t _ fun _ => v.2.2.2.2.1)), .d (.int .u64 (t _ fun _ => v.2.2.2.2.2))])]) J0 ?_
  cbv
  refine loopIn ⟨4, (_, _, _, _, _, _), (hJ0 _ _ _ _ _ _ _).2 ?_, by simp only [ht]; rfl, ?_⟩
  · exact ⟨hp, ⟨0, rfl, rfl⟩, rfl⟩
  rintro n ⟨b, i, x0, x1, x2, x3⟩ hj
  replace hj := (hJ0 _ _ _ _ _ _ _).1 hj
  obtain ⟨j1, ⟨k, j2, j3⟩, j4⟩ := hj
  have hk : i = 0 ∨ i = 1 ∨ i = 2 ∨ i = 3 ∨ i = 4 := by ((try simp only [ncast] at *); omega)
  rcases hk with rfl | rfl | rfl | rfl | rfl
  · cbv
    refine condI (fun h1 => ?_) (fun h1 => ?_)
    · simp [ht, ncast] at h1
      cbv
      refine callEF trivial (c_wgetE ht _ _ (by assumption) (by (simp only [ht]; ((try simp only [ncast] at *); omega)))) trivial rfl rfl (fun r2 er2 => ?_)
      simp only [ht] at er2
      have gb := wget_bd (s := s) (p := b)
      rw [← er2] at gb
      obtain ⟨m, rfl⟩ : ∃ m, n = m + 1 := ⟨n - 1, by ((try simp only [ncast] at *); omega)⟩
      rw [vgetGo_step er2] at j4
      first | rw [show 3 - m = 0 by ((try simp only [ncast] at *); omega)] at j4 | rw [show 3 - m = 1 by ((try simp only [ncast] at *); omega)] at j4 | rw [show 3 - m = 2 by ((try simp only [ncast] at *); omega)] at j4 | rw [show 3 - m = 3 by ((try simp only [ncast] at *); omega)] at j4
      cbv
      refine condI (fun h3 => ?_) (fun h3 => ?_)
      · simp [ht, ncast] at h3
        cbv
        refine retF trivial trivial rfl rfl rfl ?_
        (simp only [ht, vget]; simp_all [GotV.no, Vec.zero]; done)
      · simp [ht, ncast] at h3
        cbv
        refine ⟨?_, ?_⟩
        · (simp only [ht, ncast] at *; omega)
        cbv
        refine loopC (_, _, _, _, _, _) (by simp only [ht]; rfl) m ?_ ((hJ0 _ _ _ _ _ _ _).2 ?_)
        · omega
        · simp only [ht, ncast]
          (have g := gb (by assumption); exact ⟨Int.lt_of_le_of_lt g.2.2.1 (by ((try simp only [ncast] at *); omega)), ⟨k + 1, by rw [wrapI64 (by decide) (by decide)]; ((try simp only [ncast] at *); omega), by ((try simp only [ncast] at *); omega)⟩, by rw [j4, if_pos (by assumption)]; rfl⟩)
    · simp [ht, ncast] at h1
  · cbv
    refine condI (fun h4 => ?_) (fun h4 => ?_)
    · simp [ht, ncast] at h4
      cbv
      refine callEF trivial (c_wgetE ht _ _ (by assumption) (by (simp only [ht]; ((try simp only [ncast] at *); omega)))) trivial rfl rfl (fun r5 er5 => ?_)
      simp only [ht] at er5
      have gb := wget_bd (s := s) (p := b)
      rw [← er5] at gb
      obtain ⟨m, rfl⟩ : ∃ m, n = m + 1 := ⟨n - 1, by ((try simp only [ncast] at *); omega)⟩
      rw [vgetGo_step er5] at j4
      first | rw [show 3 - m = 0 by ((try simp only [ncast] at *); omega)] at j4 | rw [show 3 - m = 1 by ((try simp only [ncast] at *); omega)] at j4 | rw [show 3 - m = 2 by ((try simp only [ncast] at *); omega)] at j4 | rw [show 3 - m = 3 by ((try simp only [ncast] at *); omega)] at j4
      cbv
      refine condI (fun h6 => ?_) (fun h6 => ?_)
      · simp [ht, ncast] at h6
        cbv
        refine retF trivial trivial rfl rfl rfl ?_
        (simp only [ht, vget]; simp_all [GotV.no, Vec.zero]; done)
      · simp [ht, ncast] at h6
        cbv
        refine ⟨?_, ?_⟩
        · (simp only [ht, ncast] at *; omega)
        cbv
        refine loopC (_, _, _, _, _, _) (by simp only [ht]; rfl) m ?_ ((hJ0 _ _ _ _ _ _ _).2 ?_)
        · omega
        · simp only [ht, ncast]
          (have g := gb (by assumption); exact ⟨Int.lt_of_le_of_lt g.2.2.1 (by ((try simp only [ncast] at *); omega)), ⟨k + 1, by rw [wrapI64 (by decide) (by decide)]; ((try simp only [ncast] at *); omega), by ((try simp only [ncast] at *); omega)⟩, by rw [j4, if_pos (by assumption)]; rfl⟩)
    · simp [ht, ncast] at h4
  · cbv
    refine condI (fun h7 => ?_) (fun h7 => ?_)
    · simp [ht, ncast] at h7
      cbv
      refine callEF trivial (c_wgetE ht _ _ (by assumption) (by (simp only [ht]; ((try simp only [ncast] at *); omega)))) trivial rfl rfl (fun r8 er8 => ?_)
      simp only [ht] at er8
      have gb := wget_bd (s := s) (p := b)
      rw [← er8] at gb
      obtain ⟨m, rfl⟩ : ∃ m, n = m + 1 := ⟨n - 1, by ((try simp only [ncast] at *); omega)⟩
      rw [vgetGo_step er8] at j4
      first | rw [show 3 - m = 0 by ((try simp only [ncast] at *); omega)] at j4 | rw [show 3 - m = 1 by ((try simp only [ncast] at *); omega)] at j4 | rw [show 3 - m = 2 by ((try simp only [ncast] at *); omega)] at j4 | rw [show 3 - m = 3 by ((try simp only [ncast] at *); omega)] at j4
      cbv
      refine condI (fun h9 => ?_) (fun h9 => ?_)
      · simp [ht, ncast] at h9
        cbv
        refine retF trivial trivial rfl rfl rfl ?_
        (simp only [ht, vget]; simp_all [GotV.no, Vec.zero]; done)
      · simp [ht, ncast] at h9
        cbv
        refine ⟨?_, ?_⟩
        · (simp only [ht, ncast] at *; omega)
        cbv
        refine loopC (_, _, _, _, _, _) (by simp only [ht]; rfl) m ?_ ((hJ0 _ _ _ _ _ _ _).2 ?_)
        · omega
        · simp only [ht, ncast]
          (have g := gb (by assumption); exact ⟨Int.lt_of_le_of_lt g.2.2.1 (by ((try simp only [ncast] at *); omega)), ⟨k + 1, by rw [wrapI64 (by decide) (by decide)]; ((try simp only [ncast] at *); omega), by ((try simp only [ncast] at *); omega)⟩, by rw [j4, if_pos (by assumption)]; rfl⟩)
    · simp [ht, ncast] at h7
  · cbv
    refine condI (fun h10 => ?_) (fun h10 => ?_)
    · simp [ht, ncast] at h10
      cbv
      refine callEF trivial (c_wgetE ht _ _ (by assumption) (by (simp only [ht]; ((try simp only [ncast] at *); omega)))) trivial rfl rfl (fun r11 er11 => ?_)
      simp only [ht] at er11
      have gb := wget_bd (s := s) (p := b)
      rw [← er11] at gb
      obtain ⟨m, rfl⟩ : ∃ m, n = m + 1 := ⟨n - 1, by ((try simp only [ncast] at *); omega)⟩
      rw [vgetGo_step er11] at j4
      first | rw [show 3 - m = 0 by ((try simp only [ncast] at *); omega)] at j4 | rw [show 3 - m = 1 by ((try simp only [ncast] at *); omega)] at j4 | rw [show 3 - m = 2 by ((try simp only [ncast] at *); omega)] at j4 | rw [show 3 - m = 3 by ((try simp only [ncast] at *); omega)] at j4
      cbv
      refine condI (fun h12 => ?_) (fun h12 => ?_)
      · simp [ht, ncast] at h12
        cbv
        refine retF trivial trivial rfl rfl rfl ?_
        (simp only [ht, vget]; simp_all [GotV.no, Vec.zero]; done)
      · simp [ht, ncast] at h12
        cbv
        refine ⟨?_, ?_⟩
        · (simp only [ht, ncast] at *; omega)
        cbv
        refine loopC (_, _, _, _, _, _) (by simp only [ht]; rfl) m ?_ ((hJ0 _ _ _ _ _ _ _).2 ?_)
        · omega
        · simp only [ht, ncast]
          (have g := gb (by assumption); exact ⟨Int.lt_of_le_of_lt g.2.2.1 (by ((try simp only [ncast] at *); omega)), ⟨k + 1, by rw [wrapI64 (by decide) (by decide)]; ((try simp only [ncast] at *); omega), by ((try simp only [ncast] at *); omega)⟩, by rw [j4, if_pos (by assumption)]; rfl⟩)
    · simp [ht, ncast] at h10
  · cbv
    refine condI (fun h13 => ?_) (fun h13 => ?_)
    · simp [ht, ncast] at h13
    · simp [ht, ncast] at h13
      cbv
      refine retF trivial trivial rfl rfl rfl ?_
      (have hn : n = 0 := (by ((try simp only [ncast] at *); omega)); rw [hn, vgetGo] at j4; simp only [ht, vget, j4]; done)
end Dem
end
section
/- CONTRACTS: label.Get. -/
open Go Dem Go.Proofs
namespace Dem
set_option maxRecDepth 100000
set_option maxHeartbeats 2000000
variable {t : Th}
def EGPair (r : GotX Pair) : AV := .tup [.agg [ST r.x.key, ST r.x.value], I64 r.next, BL r.ok]
def EGPairs (t : Th) (r : GotX (List Pair)) : AV := .tup [SL (t _ fun _ => r.x.map Pair.cells), I64 r.next, BL r.ok]
theorem c_gpairE (ht : TT t) (s : Str) (p : Int) (hs : s.length < 9223372036854775000) (hp : p < 9223372036854775808) : FC 89 [ST s, I64 p] [] (.ret (EGPair (t _ fun _ => gpair s p))) [] := by
  refine fc' ht (bx0 := []) Tryd.func89 (c := _) rfl rfl (N := 27) rfl (rs := _) rfl (n := 0) rfl rfl ?_
  cbv
  refine callEF trivial (c_wgetTextE ht _ _ _ (by assumption) (by assumption) (by omega)) trivial rfl rfl (fun r0 er0 => ?_)
  simp only [ht] at er0
  have gbr0 := wgetText_bd (s := s) (p := p) (m := 32) hs
  (try rw [← er0] at gbr0)
  (try obtain ⟨g1r0, g2r0, g3r0⟩ := gbr0)
  cbv
  refine condI (fun h1 => ?_) (fun h1 => ?_)
  · cbv
    refine callEF trivial (c_wgetTextE ht _ _ _ (by assumption) (by (refine Int.lt_of_le_of_lt (by assumption) (by ((try simp only [ncast] at *); omega)))) (by omega)) trivial rfl rfl (fun r2 er2 => ?_)
    simp only [ht] at er2
    have gbr2 := wgetText_bd (s := s) (p := p) (m := 32) hs
    (try rw [← er2] at gbr2)
    (try obtain ⟨g1r2, g2r2, g3r2⟩ := gbr2)
    cbv
    refine retF trivial trivial rfl rfl rfl ?_
    (simp only [ht, ncast, EGPair, gpair]; grind)
  · cbv
    refine retF trivial trivial rfl rfl rfl ?_
    (simp only [ht, ncast, EGPair, gpair]; grind)
theorem c_gpairsE (ht : TT t) (s : Str) (p most : Int) (hs : s.length < 9223372036854775000) (hp : p < 9223372036854775808) (hm : 0 ≤ most ∧ most < 100000000) : FC 88 [ST s, I64 p, I64 most, .fn 89 []] [] (.ret (EGPairs t (t _ fun _ => gall s p most (gpair s)))) [] := by
  have hmw : IntKind.u64.wrap most = most := by rw [wrapU64]; omega
  refine fc' ht (bx0 := []) Tryd.func88 (c := _) rfl rfl (N := 51) rfl (rs := _) rfl (n := 0) rfl rfl ?_
  cbv
  refine callEF trivial (c_wgetE ht _ _ (by assumption) (by assumption)) trivial rfl rfl (fun r0 er0 => ?_)
  simp only [ht] at er0
  have gb := wget_bd (s := s) (p := p)
  rw [← er0] at gb
  cbv
  refine gI (by simp [ht, pickI_iff]) ?_
  refine gI (by simp [ht, pickI_iff]) ?_
  refine gI (by simp [ht, pickI_iff]) ?_
  refine gI (by simp [ht, pickI_iff]) ?_
  refine pI (by simp [ht, pickI_iff]) ?_
  refine condI (fun h1 => ?_) (fun h1 => ?_)
  · simp [ht, ncast, hmw] at h1
    cbv
    refine retF trivial trivial rfl rfl rfl ?_
    (rw [show gall s p most (gpair s) = GotX.noL from by rw [gall, if_neg (by rw [← er0]; rintro ⟨g1, g2⟩; simp_all; ((try simp only [ncast] at *); omega))]]; simp [ht, GotX.noL]; done)
  · simp [ht, ncast, hmw] at h1
    cbv
    obtain ⟨J2, hJ2⟩ : ∃ J2 : Nat → Int × List (List D) × Int → Prop, ∀ n a o i, J2 n (a, o, i) ↔ (∃ (k : Nat) (rs : List Pair), i = k ∧ k + n = r0.u.toNat ∧ o = rs.map Pair.cells ∧ rs.length = k ∧ a < 9223372036854775808 ∧ gall s p most (gpair s) = gsome (gpair s) n rs a) := ⟨fun n v => match v with | (a, o, i) => (∃ (k : Nat) (rs : List Pair), i = k ∧ k + n = r0.u.toNat ∧ o = rs.map Pair.cells ∧ rs.length = k ∧ a < 9223372036854775808 ∧ gall s p most (gpair s) = gsome (gpair s) n rs a), fun _ _ _ _ => Iff.rfl⟩
    refine loopU ⟨[0, 1, 3, 8, 30, 31], [(8, 2)], []⟩ (σ := Int × List (List D) × Int) (fun v => [(1, .d (.int .i64 (t _ fun _ => v.1))), (8, .ow 0 2 (t _ fun _ => (v.2.1).length)), (31, .d (.int .u64 (t _ fun _ => v.2.2)))]) (fun v => [(0, .row 2 (t _ fun _ => v.2.1))]) J2 ?_
    cbv
    refine loopIn ⟨r0.u.toNat, (_, [], _), (hJ2 _ _ _ _).2 ?_, by simp only [ht]; rfl, ?_⟩
    · (have g := gb h1.1; exact ⟨0, [], rfl, by ((try simp only [ncast] at *); omega), rfl, rfl, Int.lt_of_le_of_lt g.2.2.1 (by ((try simp only [ncast] at *); omega)), by rw [gall, if_pos (by rw [← er0]; exact h1), ← er0]⟩)
    rintro n ⟨a, o, i⟩ hj
    replace hj := (hJ2 _ _ _ _).1 hj
    obtain ⟨k, rs, j1, j3, j2, j5, j6, j4⟩ := hj
    have len_o : o.length = rs.length := by rw [j2, List.length_map]
    cbv
    refine condI (fun h3 => ?_) (fun h3 => ?_)
    · simp [ht, ncast, len_o, hmw] at h3
      cbv
      refine callEF trivial (c_gpairE ht _ _ (by assumption) (by (simp only [ht]; ((try simp only [ncast] at *); omega)))) trivial rfl rfl (fun r4 er4 => ?_)
      simp only [ht] at er4
      have gb2 := gpair_bd (s := s) (p := a) hs
      rw [← er4] at gb2
      obtain ⟨m, rfl⟩ : ∃ m, n = m + 1 := ⟨n - 1, by ((try simp only [ncast] at *); omega)⟩
      rw [gsome_step er4] at j4
      cbv
      refine condI (fun h5 => ?_) (fun h5 => ?_)
      · simp [ht, ncast, len_o, hmw] at h5
        cbv
        refine retF trivial trivial rfl rfl rfl ?_
        (simp only [ht]; simp_all [GotX.noL]; done)
      · simp [ht, ncast, len_o, hmw] at h5
        cbv
        refine ⟨?_, ?_⟩
        · (simp only [ht, true_and]; exact apBig j2 (fun _ => rfl) rfl (by omega) (by decide))
        cbv
        refine loopC (_, _, _) (by simp only [ht, ← List.length_append]; rfl) m ?_ ((hJ2 _ _ _ _).2 ?_)
        · omega
        · simp only [ht, ncast]
          exact ⟨k + 1, rs ++ [(r4).x], by rw [wrapU64]; ((try simp only [ncast] at *); omega), by ((try simp only [ncast] at *); omega), by rw [j2]; simp, by simp; ((try simp only [ncast] at *); omega), Int.lt_of_le_of_lt gb2 (by ((try simp only [ncast] at *); omega)), by rw [j4, if_pos (by assumption)]⟩
    · simp [ht, ncast, len_o, hmw] at h3
      cbv
      refine retF trivial (by simp [ht]) rfl rfl rfl ?_
      (have hn : n = 0 := (by ((try simp only [ncast] at *); omega)); rw [hn, gsome] at j4; simp only [ht, j4, j2]; done)
theorem c_lgetE (ht : TT t) (s : Str) (p : Int) (hs : s.length < 9223372036854775000) (hp : p < 9223372036854775808) : FC 77 [ST s, I64 p] [] (.ret (EGPairs t (t _ fun _ => lget s p))) [] := by
  refine fc' ht (bx0 := []) Tryd.func77 (c := _) rfl rfl (N := 23) rfl (rs := _) rfl (n := 0) rfl rfl ?_
  cbv
  refine callES trivial (c_gpairsE ht _ _ _ (by assumption) (by assumption) (by omega)) trivial rfl rfl rfl (fun r0 er0 => ?_)
  simp only [ht] at er0
  have glr0 := gall_len (s := s) (p := p) (m := 8) (get := gpair s)
  have gsr0 := gall_all (s := s) (p := p) (m := 8) (get := gpair s) (q := Pair.sm) (fun p => gpair_sm hs)
  rw [← er0] at glr0 gsr0
  cbv
  refine gI (by simp [ht, pickI_iff]) ?_
  refine callEQ (fun g1 => ⟨by simp [ht] at g1 ⊢; exact g1, trivial, c_lrightE ht (thE ht rfl) (by ((try simp only [ncast] at *); omega)) (by assumption)⟩) rfl rfl (fun r2 er2 => ?_)
  simp only [ht] at er2
  cbv
  refine gI (by simp [ht, pickI_iff]) ?_
  refine pI (by simp [ht, pickI_iff]) ?_
  refine condI (fun h3 => ?_) (fun h3 => ?_)
  · simp [ht, ncast] at h3
    cbv
    refine retF trivial trivial rfl rfl rfl ?_
    (simp only [ht, ncast, EGPairs, GotX.noL, lget]; grind)
  · simp [ht, ncast] at h3
    cbv
    refine retF trivial trivial rfl rfl rfl ?_
    (simp only [ht, ncast, EGPairs, GotX.noL, lget]; grind)
end Dem
end
section
/- CONTRACTS: pool.Get. -/
open Go Dem Go.Proofs
namespace Dem
set_option maxRecDepth 100000
set_option maxHeartbeats 2000000
variable {t : Th}
def EGNode (t : Th) (r : GotX Node) : AV := .tup [ENode t r.x, I64 r.next, BL r.ok]
def EGPlace (r : GotX Place) : AV := .tup [.agg [U64 r.x.job, ST r.x.node, U64 r.x.v.a, U64 r.x.v.b, U64 r.x.v.c, U64 r.x.v.d], I64 r.next, BL r.ok]
def EGNodes (t : Th) (r : GotX (List Node)) : AV := .tup [SL (t _ fun _ => r.x.map Node.cells), I64 r.next, BL r.ok]
def EGPlaces (t : Th) (r : GotX (List Place)) : AV := .tup [SL (t _ fun _ => r.x.map Place.cells), I64 r.next, BL r.ok]
def EGPool (t : Th) (r : GotX Pool) : AV := .tup [EPool t r.x, I64 r.next, BL r.ok]
theorem c_gnodeE (ht : TT t) (s : Str) (p : Int) (hs : s.length < 9223372036854775000) (hp : p < 9223372036854775808) : FC 55 [ST s, I64 p] [] (.ret (EGNode t (t _ fun _ => gnode s p))) [] := by
  refine fc' ht (bx0 := []) Tryd.func55 (c := _) rfl rfl (N := 58) rfl (rs := _) rfl (n := 0) rfl rfl ?_
  cbv
  refine callEF trivial (c_wgetTextE ht _ _ _ (by assumption) (by assumption) (by omega)) trivial rfl rfl (fun r0 er0 => ?_)
  simp only [ht] at er0
  have gr0 := (wgetText_bd (s := s) (p := p) (m := 32) hs).2.1
  rw [← er0] at gr0
  cbv
  refine condI (fun h1 => ?_) (fun h1 => ?_)
  · simp [ht, ncast] at h1
    cbv
    refine retF trivial trivial rfl rfl rfl ?_
    (simp only [ht, ncast, EGNode, ENode, gnode, GotX.noN, Node.zero, Vec.zero]; grind)
  · simp [ht, ncast] at h1
    cbv
    refine callEF trivial (c_vgetE ht _ _ (by assumption) (by (refine Int.lt_of_le_of_lt (by assumption) (by ((try simp only [ncast] at *); omega))))) trivial rfl rfl (fun r2 er2 => ?_)
    simp only [ht] at er2
    have gr2 := vget_bd (s := s) (p := r0.next)
    rw [← er2] at gr2
    cbv
    refine condI (fun h3 => ?_) (fun h3 => ?_)
    · simp [ht, ncast] at h3
      cbv
      refine retF trivial trivial rfl rfl rfl ?_
      (simp only [ht, ncast, EGNode, ENode, gnode, GotX.noN, Node.zero, Vec.zero]; grind)
    · simp [ht, ncast] at h3
      cbv
      refine callES trivial (c_lgetE ht _ _ (by assumption) (by (refine Int.lt_of_le_of_lt (by assumption) (by ((try simp only [ncast] at *); omega))))) trivial rfl rfl rfl (fun r4 er4 => ?_)
      simp only [ht] at er4
      have gr4 : (r4).next ≤ s.length := by rw [er4]; exact lget_bd hs
      cbv
      refine condI (fun h5 => ?_) (fun h5 => ?_)
      · simp [ht, ncast] at h5
        cbv
        refine retF trivial trivial rfl rfl rfl ?_
        (simp only [ht, ncast, EGNode, ENode, gnode, GotX.noN, Node.zero, Vec.zero]; grind)
      · simp [ht, ncast] at h5
        cbv
        refine callEF trivial (c_wgetE ht _ _ (by assumption) (by (refine Int.lt_of_le_of_lt (by assumption) (by ((try simp only [ncast] at *); omega))))) trivial rfl rfl (fun r6 er6 => ?_)
        simp only [ht] at er6
        cbv
        refine gI (by simp [ht, pickI_iff]) ?_
        refine gI (by simp [ht, pickI_iff]) ?_
        refine pI (by simp [ht, pickI_iff]) ?_
        refine retF trivial trivial rfl rfl rfl ?_
        (simp only [ht, ncast, EGNode, ENode, gnode, GotX.noN, Node.zero, Vec.zero]; grind)
theorem c_gcopyE (ht : TT t) (s : Str) (p : Int) (hs : s.length < 9223372036854775000) (hp : p < 9223372036854775808) : FC 57 [ST s, I64 p] [] (.ret (EGPlace (t _ fun _ => gcopy s p))) [] := by
  refine fc' ht (bx0 := []) Tryd.func57 (c := _) rfl rfl (N := 40) rfl (rs := _) rfl (n := 0) rfl rfl ?_
  cbv
  refine callEF trivial (c_wgetE ht _ _ (by assumption) (by assumption)) trivial rfl rfl (fun r0 er0 => ?_)
  simp only [ht] at er0
  have gr0 : (r0).next ≤ s.length := by rw [er0]; exact wget_le
  cbv
  refine condI (fun h1 => ?_) (fun h1 => ?_)
  · simp [ht, ncast] at h1
    cbv
    refine retF trivial trivial rfl rfl rfl ?_
    (simp only [ht, ncast, EGPlace, gcopy, GotX.noP, Vec.zero]; grind)
  · simp [ht, ncast] at h1
    cbv
    refine callEF trivial (c_wgetTextE ht _ _ _ (by assumption) (by (refine Int.lt_of_le_of_lt (by assumption) (by ((try simp only [ncast] at *); omega)))) (by omega)) trivial rfl rfl (fun r2 er2 => ?_)
    simp only [ht] at er2
    have gr2 : (r2).next ≤ s.length := by rw [er2]; exact (wgetText_bd hs).2.1
    cbv
    refine condI (fun h3 => ?_) (fun h3 => ?_)
    · simp [ht, ncast] at h3
      cbv
      refine retF trivial trivial rfl rfl rfl ?_
      (simp only [ht, ncast, EGPlace, gcopy, GotX.noP, Vec.zero]; grind)
    · simp [ht, ncast] at h3
      cbv
      refine callEF trivial (c_vgetE ht _ _ (by assumption) (by (refine Int.lt_of_le_of_lt (by assumption) (by ((try simp only [ncast] at *); omega))))) trivial rfl rfl (fun r4 er4 => ?_)
      simp only [ht] at er4
      cbv
      refine retF trivial trivial rfl rfl rfl ?_
      (simp only [ht, ncast, EGPlace, gcopy, GotX.noP, Vec.zero]; grind)
theorem c_gnodesE (ht : TT t) (s : Str) (p most : Int) (hs : s.length < 9223372036854775000) (hp : p < 9223372036854775808) (hm : 0 ≤ most ∧ most < 100000000) : FC 54 [ST s, I64 p, I64 most, .fn 55 []] [] (.ret (EGNodes t (t _ fun _ => gall s p most (gnode s)))) [] := by
  have hmw : IntKind.u64.wrap most = most := by rw [wrapU64]; omega
  refine fc' ht (bx0 := []) Tryd.func54 (c := _) rfl rfl (N := 51) rfl (rs := _) rfl (n := 0) rfl rfl ?_
  cbv
  refine callEF trivial (c_wgetE ht _ _ (by assumption) (by assumption)) trivial rfl rfl (fun r0 er0 => ?_)
  simp only [ht] at er0
  have gb := wget_bd (s := s) (p := p)
  rw [← er0] at gb
  cbv
  refine gI (by simp [ht, pickI_iff]) ?_
  refine gI (by simp [ht, pickI_iff]) ?_
  refine gI (by simp [ht, pickI_iff]) ?_
  refine gI (by simp [ht, pickI_iff]) ?_
  refine pI (by simp [ht, pickI_iff]) ?_
  refine condI (fun h1 => ?_) (fun h1 => ?_)
  · simp [ht, ncast, hmw] at h1
    cbv
    refine retF trivial trivial rfl rfl rfl ?_
    (rw [show gall s p most (gnode s) = GotX.noL from by rw [gall, if_neg (by rw [← er0]; rintro ⟨g1, g2⟩; simp_all; ((try simp only [ncast] at *); omega))]]; simp [ht, GotX.noL]; done)
  · simp [ht, ncast, hmw] at h1
    cbv
    obtain ⟨J2, hJ2⟩ : ∃ J2 : Nat → Int × List (List D) × Int → Prop, ∀ n a o i, J2 n (a, o, i) ↔ (∃ (k : Nat) (rs : List Node), i = k ∧ k + n = r0.u.toNat ∧ o = rs.map Node.cells ∧ rs.length = k ∧ a < 9223372036854775808 ∧ gall s p most (gnode s) = gsome (gnode s) n rs a) := ⟨fun n v => match v with | (a, o, i) => (∃ (k : Nat) (rs : List Node), i = k ∧ k + n = r0.u.toNat ∧ o = rs.map Node.cells ∧ rs.length = k ∧ a < 9223372036854775808 ∧ gall s p most (gnode s) = gsome (gnode s) n rs a), fun _ _ _ _ => Iff.rfl⟩
    refine loopU ⟨[0, 1, 3, 8, 30, 31], [(8, 7)], []⟩ (σ := Int × List (List D) × Int) (fun v => [(1, .d (.int .i64 (t _ fun _ => v.1))), (8, .ow 0 7 (t _ fun _ => (v.2.1).length)), (31, .d (.int .u64 (t _ fun _ => v.2.2)))]) (fun v => [(0, .row 7 (t _ fun _ => v.2.1))]) J2 ?_
    cbv
    refine loopIn ⟨r0.u.toNat, (_, [], _), (hJ2 _ _ _ _).2 ?_, by simp only [ht]; rfl, ?_⟩
    · (have g := gb h1.1; exact ⟨0, [], rfl, by ((try simp only [ncast] at *); omega), rfl, rfl, Int.lt_of_le_of_lt g.2.2.1 (by ((try simp only [ncast] at *); omega)), by rw [gall, if_pos (by rw [← er0]; exact h1), ← er0]⟩)
    rintro n ⟨a, o, i⟩ hj
    replace hj := (hJ2 _ _ _ _).1 hj
    obtain ⟨k, rs, j1, j3, j2, j5, j6, j4⟩ := hj
    have len_o : o.length = rs.length := by rw [j2, List.length_map]
    cbv
    refine condI (fun h3 => ?_) (fun h3 => ?_)
    · simp [ht, ncast, len_o, hmw] at h3
      cbv
      refine callES trivial (c_gnodeE ht _ _ (by assumption) (by (simp only [ht]; ((try simp only [ncast] at *); omega)))) trivial rfl rfl rfl (fun r4 er4 => ?_)
      simp only [ht] at er4
      have gb2 := gnode_bd (s := s) (p := a)
      rw [← er4] at gb2
      obtain ⟨m, rfl⟩ : ∃ m, n = m + 1 := ⟨n - 1, by ((try simp only [ncast] at *); omega)⟩
      rw [gsome_step er4] at j4
      cbv
      refine condI (fun h5 => ?_) (fun h5 => ?_)
      · simp [ht, ncast, len_o, hmw] at h5
        cbv
        refine retF trivial trivial rfl rfl rfl ?_
        (simp only [ht]; simp_all [GotX.noL]; done)
      · simp [ht, ncast, len_o, hmw] at h5
        cbv
        refine ⟨?_, ?_⟩
        · (simp only [ht, true_and]; exact apBig j2 (fun _ => rfl) rfl (by omega) (by decide))
        cbv
        refine loopC (_, _, _) (by simp only [ht, ← List.length_append]; rfl) m ?_ ((hJ2 _ _ _ _).2 ?_)
        · omega
        · simp only [ht, ncast]
          exact ⟨k + 1, rs ++ [(r4).x], by rw [wrapU64]; ((try simp only [ncast] at *); omega), by ((try simp only [ncast] at *); omega), by rw [j2]; simp [ht], by simp; ((try simp only [ncast] at *); omega), Int.lt_of_le_of_lt gb2 (by ((try simp only [ncast] at *); omega)), by rw [j4, if_pos (by assumption)]⟩
    · simp [ht, ncast, len_o, hmw] at h3
      cbv
      refine retF trivial (by simp [ht]) rfl rfl rfl ?_
      (have hn : n = 0 := (by ((try simp only [ncast] at *); omega)); rw [hn, gsome] at j4; simp only [ht, j4, j2]; done)
theorem c_gplacesE (ht : TT t) (s : Str) (p most : Int) (hs : s.length < 9223372036854775000) (hp : p < 9223372036854775808) (hm : 0 ≤ most ∧ most < 100000000) : FC 56 [ST s, I64 p, I64 most, .fn 57 []] [] (.ret (EGPlaces t (t _ fun _ => gall s p most (gcopy s)))) [] := by
  have hmw : IntKind.u64.wrap most = most := by rw [wrapU64]; omega
  refine fc' ht (bx0 := []) Tryd.func56 (c := _) rfl rfl (N := 51) rfl (rs := _) rfl (n := 0) rfl rfl ?_
  cbv
  refine callEF trivial (c_wgetE ht _ _ (by assumption) (by assumption)) trivial rfl rfl (fun r0 er0 => ?_)
  simp only [ht] at er0
  have gb := wget_bd (s := s) (p := p)
  rw [← er0] at gb
  cbv
  refine gI (by simp [ht, pickI_iff]) ?_
  refine gI (by simp [ht, pickI_iff]) ?_
  refine gI (by simp [ht, pickI_iff]) ?_
  refine gI (by simp [ht, pickI_iff]) ?_
  refine pI (by simp [ht, pickI_iff]) ?_
  refine condI (fun h1 => ?_) (fun h1 => ?_)
  · simp [ht, ncast, hmw] at h1
    cbv
    refine retF trivial trivial rfl rfl rfl ?_
    (rw [show gall s p most (gcopy s) = GotX.noL from by rw [gall, if_neg (by rw [← er0]; rintro ⟨g1, g2⟩; simp_all; ((try simp only [ncast] at *); omega))]]; simp [ht, GotX.noL]; done)
  · simp [ht, ncast, hmw] at h1
    cbv
    obtain ⟨J2, hJ2⟩ : ∃ J2 : Nat → Int × List (List D) × Int → Prop, ∀ n a o i, J2 n (a, o, i) ↔ (∃ (k : Nat) (rs : List Place), i = k ∧ k + n = r0.u.toNat ∧ o = rs.map Place.cells ∧ rs.length = k ∧ a < 9223372036854775808 ∧ gall s p most (gcopy s) = gsome (gcopy s) n rs a) := ⟨fun n v => match v with | (a, o, i) => (∃ (k : Nat) (rs : List Place), i = k ∧ k + n = r0.u.toNat ∧ o = rs.map Place.cells ∧ rs.length = k ∧ a < 9223372036854775808 ∧ gall s p most (gcopy s) = gsome (gcopy s) n rs a), fun _ _ _ _ => Iff.rfl⟩
    refine loopU ⟨[0, 1, 3, 8, 30, 31], [(8, 6)], []⟩ (σ := Int × List (List D) × Int) (fun v => [(1, .d (.int .i64 (t _ fun _ => v.1))), (8, .ow 0 6 (t _ fun _ => (v.2.1).length)), (31, .d (.int .u64 (t _ fun _ => v.2.2)))]) (fun v => [(0, .row 6 (t _ fun _ => v.2.1))]) J2 ?_
    cbv
    refine loopIn ⟨r0.u.toNat, (_, [], _), (hJ2 _ _ _ _).2 ?_, by simp only [ht]; rfl, ?_⟩
    · (have g := gb h1.1; exact ⟨0, [], rfl, by ((try simp only [ncast] at *); omega), rfl, rfl, Int.lt_of_le_of_lt g.2.2.1 (by ((try simp only [ncast] at *); omega)), by rw [gall, if_pos (by rw [← er0]; exact h1), ← er0]⟩)
    rintro n ⟨a, o, i⟩ hj
    replace hj := (hJ2 _ _ _ _).1 hj
    obtain ⟨k, rs, j1, j3, j2, j5, j6, j4⟩ := hj
    have len_o : o.length = rs.length := by rw [j2, List.length_map]
    cbv
    refine condI (fun h3 => ?_) (fun h3 => ?_)
    · simp [ht, ncast, len_o, hmw] at h3
      cbv
      refine callEF trivial (c_gcopyE ht _ _ (by assumption) (by (simp only [ht]; ((try simp only [ncast] at *); omega)))) trivial rfl rfl (fun r4 er4 => ?_)
      simp only [ht] at er4
      have gb2 := gcopy_bd (s := s) (p := a)
      rw [← er4] at gb2
      obtain ⟨m, rfl⟩ : ∃ m, n = m + 1 := ⟨n - 1, by ((try simp only [ncast] at *); omega)⟩
      rw [gsome_step er4] at j4
      cbv
      refine condI (fun h5 => ?_) (fun h5 => ?_)
      · simp [ht, ncast, len_o, hmw] at h5
        cbv
        refine retF trivial trivial rfl rfl rfl ?_
        (simp only [ht]; simp_all [GotX.noL]; done)
      · simp [ht, ncast, len_o, hmw] at h5
        cbv
        refine ⟨?_, ?_⟩
        · (simp only [ht, true_and]; exact apBig j2 (fun _ => rfl) rfl (by omega) (by decide))
        cbv
        refine loopC (_, _, _) (by simp only [ht, ← List.length_append]; rfl) m ?_ ((hJ2 _ _ _ _).2 ?_)
        · omega
        · simp only [ht, ncast]
          exact ⟨k + 1, rs ++ [(r4).x], by rw [wrapU64]; ((try simp only [ncast] at *); omega), by ((try simp only [ncast] at *); omega), by rw [j2]; simp [ht], by simp; ((try simp only [ncast] at *); omega), Int.lt_of_le_of_lt gb2 (by ((try simp only [ncast] at *); omega)), by rw [j4, if_pos (by assumption)]⟩
    · simp [ht, ncast, len_o, hmw] at h3
      cbv
      refine retF trivial (by simp [ht]) rfl rfl rfl ?_
      (have hn : n = 0 := (by ((try simp only [ncast] at *); omega)); rw [hn, gsome] at j4; simp only [ht, j4, j2]; done)
theorem c_pgetE (ht : TT t) (s : Str) (p : Int) (hs : s.length < 9223372036854775000) (hp : p < 9223372036854775808) : FC 25 [ST s, I64 p] [] (.ret (EGPool t (t _ fun _ => pget s p))) [] := by
  refine fc' ht (bx0 := []) Tryd.func25 (c := _) rfl rfl (N := 36) rfl (rs := _) rfl (n := 0) rfl rfl ?_
  cbv
  refine callES trivial (c_gnodesE ht _ _ _ (by assumption) (by assumption) (by omega)) trivial rfl rfl rfl (fun r0 er0 => ?_)
  simp only [ht] at er0
  have gr0 : (r0).next ≤ s.length := by rw [er0]; exact gall_bd (fun p => gnode_bd)
  have lr0 : ((r0).x.length : Int) ≤ 16 := by rw [er0]; exact gall_len
  have sr0 : ∀ x ∈ (r0).x, x.sm := by rw [er0]; exact gall_all (fun p => gnode_sm hs)
  cbv
  refine condI (fun h1 => ?_) (fun h1 => ?_)
  · simp [ht, ncast] at h1
    cbv
    refine retF trivial trivial rfl rfl rfl ?_
    (simp only [ht, ncast, EGPool, EPool, pget, GotX.noPool]; grind)
  · simp [ht, ncast] at h1
    cbv
    refine callES trivial (c_gplacesE ht _ _ _ (by assumption) (by (refine Int.lt_of_le_of_lt (by assumption) (by ((try simp only [ncast] at *); omega)))) (by omega)) trivial rfl rfl rfl (fun r2 er2 => ?_)
    simp only [ht] at er2
    have lr2 : ((r2).x.length : Int) ≤ 256 := by rw [er2]; exact gall_len
    cbv
    refine gI (by simp [ht, pickI_iff]) ?_
    refine callEQ (fun g3 => ⟨by simp [ht] at g3 ⊢; exact g3, trivial, c_prightE ht (thE ht rfl) (thE ht rfl) (by ((try simp only [ncast] at *); omega)) (by ((try simp only [ncast] at *); omega)) (by assumption)⟩) rfl rfl (fun r4 er4 => ?_)
    simp only [ht] at er4
    cbv
    refine gI (by simp [ht, pickI_iff]) ?_
    refine pI (by simp [ht, pickI_iff]) ?_
    refine condI (fun h5 => ?_) (fun h5 => ?_)
    · simp [ht, ncast] at h5
      cbv
      refine retF trivial trivial rfl rfl rfl ?_
      (simp only [ht, ncast, EGPool, EPool, pget, GotX.noPool]; grind)
    · simp [ht, ncast] at h5
      cbv
      refine retF trivial trivial rfl rfl rfl ?_
      (simp only [ht, ncast, EGPool, EPool, pget, GotX.noPool]; grind)
end Dem
end
