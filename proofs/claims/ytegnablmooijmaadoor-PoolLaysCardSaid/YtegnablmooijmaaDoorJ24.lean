/- JOINED TEXTS: Co1, Co9, Co10, Co11, Co12. -/
import Derived.Test.YtegnablmooijmaaDoorJ21
import Derived.Test.YtegnablmooijmaaDoorJ23
import Derived.Laws.Externs
set_option linter.unusedSimpArgs false
set_option linter.unusedVariables false
section
/- CONTRACTS: numbers and amounts. -/
open Go Dem Go.Proofs
namespace Dem
set_option maxRecDepth 100000
variable {t : Th}

theorem c_Add64 (x y : Int) {r s : Int} (hr : r = (((x.toNat + y.toNat) % 18446744073709551616 : Nat) : Int)) (hs : s = (((x.toNat + y.toNat) / 18446744073709551616 : Nat) : Int)) :
    FC 79 [.d (.int .u64 x), .d (.int .u64 y), .d (.int .u64 0)] [] (.ret (.tup [.d (.int .u64 r), .d (.int .u64 s)])) [] := by
  refine fcX Tryd.func79 (by kernel_rfl) (by kernel_rfl) (by kernel_rfl) (e := add64Entry) (by kernel_rfl) ?_
  intro β w vs ok h
  simp only [RepAs, RepA, RepD] at h
  obtain ⟨_, _, rfl, rfl, _, _, rfl, rfl, _, _, rfl, rfl, rfl⟩ := h
  refine ⟨.tuple #[.int .u64 r, .int .u64 s], ?_, ?_⟩
  · subst hr hs; rfl
  · simp only [RepA, RepAs, RepD]; exact ⟨_, rfl, _, _, rfl, rfl, _, _, rfl, rfl, rfl⟩

def sub64E : Array Value → Sem Value := fun args => do
  let (x, y, b) ← Extern.MathBitsCarry.three "Sub64" args
  pure (Extern.MathBitsCarry.pair ((x + Extern.MathBitsCarry.m64 - y - b) % Extern.MathBitsCarry.m64) (if x < y + b then 1 else 0))

theorem c_Sub64 (x y : Int) {r s : Int} (hr : r = (((x.toNat + 18446744073709551616 - y.toNat) % 18446744073709551616 : Nat) : Int)) (hs : s = ((if x.toNat < y.toNat then 1 else 0 : Nat) : Int)) :
    FC 90 [.d (.int .u64 x), .d (.int .u64 y), .d (.int .u64 0)] [] (.ret (.tup [.d (.int .u64 r), .d (.int .u64 s)])) [] := by
  refine fcX Tryd.func90 (by kernel_rfl) (by kernel_rfl) (by kernel_rfl) (e := sub64E) (by kernel_rfl) ?_
  intro β w vs ok h
  simp only [RepAs, RepA, RepD] at h
  obtain ⟨_, _, rfl, rfl, _, _, rfl, rfl, _, _, rfl, rfl, rfl⟩ := h
  refine ⟨.tuple #[.int .u64 r, .int .u64 s], ?_, ?_⟩
  · subst hr hs; rfl
  · simp only [RepA, RepAs, RepD]; exact ⟨_, rfl, _, _, rfl, rfl, _, _, rfl, rfl, rfl⟩

theorem c_wireAdd (ht : TT t) (x y : Int) {r : Int} {ok : Bool} (h : (r, ok) = addM x y) :
    FC 60 [.d (.int .u64 x), .d (.int .u64 y)] [] (.ret (.tup [.d (.int .u64 r), .d (.bool ok)])) [] := by
  obtain ⟨a, ha⟩ : ∃ a : Int, a = (((x.toNat + y.toNat) % 18446744073709551616 : Nat) : Int) := ⟨_, rfl⟩
  obtain ⟨b, hb⟩ : ∃ b : Int, b = (((x.toNat + y.toNat) / 18446744073709551616 : Nat) : Int) := ⟨_, rfl⟩
  refine fc' ht (bx0 := []) Tryd.func60 (c := _) rfl rfl (N := 17) rfl (rs := _) rfl (n := 0) rfl rfl ?_
  cbv
  refine callF trivial (c_Add64 x y ha hb) trivial rfl rfl ?_
  cbv
  refine condI (fun hc => ?_) (fun hc => ?_)
  · cbv
    refine retF trivial trivial rfl rfl rfl ?_
    simp only [ht, ncast, Bool.not_eq_true', decide_eq_false_iff_not] at hc ha hb
    simp only [addM] at h
    rw [if_neg (by omega)] at h
    cases h; rfl
  · cbv
    refine retF trivial trivial rfl rfl rfl ?_
    simp only [ht, ncast, Bool.not_eq_false', decide_eq_true_eq] at hc ha hb
    simp only [addM] at h
    rw [if_pos (by omega)] at h
    cases h
    rw [ha, Nat.mod_eq_of_lt (by omega)]

theorem c_wireSub (ht : TT t) (x y : Int) {r : Int} {ok : Bool} (h : (r, ok) = subM x y) :
    FC 78 [.d (.int .u64 x), .d (.int .u64 y)] [] (.ret (.tup [.d (.int .u64 r), .d (.bool ok)])) [] := by
  obtain ⟨a, ha⟩ : ∃ a : Int, a = (((x.toNat + 18446744073709551616 - y.toNat) % 18446744073709551616 : Nat) : Int) := ⟨_, rfl⟩
  obtain ⟨b, hb⟩ : ∃ b : Int, b = ((if x.toNat < y.toNat then 1 else 0 : Nat) : Int) := ⟨_, rfl⟩
  refine fc' ht (bx0 := []) Tryd.func78 (c := _) rfl rfl (N := 17) rfl (rs := _) rfl (n := 0) rfl rfl ?_
  cbv
  refine callF trivial (c_Sub64 x y ha hb) trivial rfl rfl ?_
  cbv
  refine condI (fun hc => ?_) (fun hc => ?_)
  · cbv
    refine retF trivial trivial rfl rfl rfl ?_
    simp only [ht, ncast, Bool.not_eq_true', decide_eq_false_iff_not] at hc ha hb
    simp only [subM] at h
    by_cases hlt : x.toNat < y.toNat
    · rw [if_pos hlt] at h; cases h; rfl
    · rw [if_neg hlt] at hb; exact absurd (by rw [hb]; rfl) hc
  · cbv
    refine retF trivial trivial rfl rfl rfl ?_
    simp only [ht, ncast, Bool.not_eq_false', decide_eq_true_eq] at hc ha hb
    simp only [subM] at h
    by_cases hlt : x.toNat < y.toNat
    · rw [if_pos hlt] at hb; rw [hb] at hc; exact absurd hc (by decide)
    · rw [if_neg hlt] at h; cases h
      have e : (x.toNat + 18446744073709551616 - y.toNat) % 18446744073709551616 = (x.toNat - y.toNat) % 18446744073709551616 := by omega
      rw [ha, e]

/-- amount by amount -/
theorem c_both (ht : TT t) (a0 a1 a2 a3 b0 b1 b2 b3 : Int) (op : Int → Int → Int × Bool) (F : Nat) (hop : ∀ (x y r : Int) (ok : Bool), (r, ok) = op x y → FC F [.d (.int .u64 x), .d (.int .u64 y)] [] (.ret (.tup [.d (.int .u64 r), .d (.bool ok)])) [])
    {r0 r1 r2 r3 : Int} {ok : Bool} (h : (⟨r0, r1, r2, r3⟩, ok) = both op ⟨a0, a1, a2, a3⟩ ⟨b0, b1, b2, b3⟩) :
    FC 59 [.agg [.d (.int .u64 a0), .d (.int .u64 a1), .d (.int .u64 a2), .d (.int .u64 a3)], .agg [.d (.int .u64 b0), .d (.int .u64 b1), .d (.int .u64 b2), .d (.int .u64 b3)], .fn F []] []
      (.ret (.tup [.agg [.d (.int .u64 r0), .d (.int .u64 r1), .d (.int .u64 r2), .d (.int .u64 r3)], .d (.bool ok)])) [] := by
  obtain ⟨⟨s0, k0⟩, e0⟩ : ∃ s, s = op a0 b0 := ⟨_, rfl⟩
  obtain ⟨⟨s1, k1⟩, e1⟩ : ∃ s, s = op a1 b1 := ⟨_, rfl⟩
  obtain ⟨⟨s2, k2⟩, e2⟩ : ∃ s, s = op a2 b2 := ⟨_, rfl⟩
  obtain ⟨⟨s3, k3⟩, e3⟩ : ∃ s, s = op a3 b3 := ⟨_, rfl⟩
  have h0 : (k0 && k1 && k2 && k3) = false → r0 = 0 ∧ r1 = 0 ∧ r2 = 0 ∧ r3 = 0 ∧ ok = false := by
    intro hk; simp only [both, ← e0, ← e1, ← e2, ← e3] at h; rw [if_neg (by rw [hk]; simp)] at h; cases h; exact ⟨rfl, rfl, rfl, rfl, rfl⟩
  have h1 : (k0 && k1 && k2 && k3) = true → r0 = s0 ∧ r1 = s1 ∧ r2 = s2 ∧ r3 = s3 ∧ ok = true := by
    intro hk; simp only [both, ← e0, ← e1, ← e2, ← e3] at h; rw [if_pos hk] at h; cases h; exact ⟨rfl, rfl, rfl, rfl, rfl⟩
  clear h
  have fin : ∀ {bx : List Box}, (k0 && k1 && k2 && k3) = false → RetT 0 True (AV.tup [.agg [.d (.int .u64 0), .d (.int .u64 0), .d (.int .u64 0), .d (.int .u64 0)], .d (.bool false)]) bx (some (True, AV.tup [.agg [.d (.int .u64 0), .d (.int .u64 0), .d (.int .u64 0), .d (.int .u64 0)], .d (.bool false)]))
      (.ret (.tup [.agg [.d (.int .u64 r0), .d (.int .u64 r1), .d (.int .u64 r2), .d (.int .u64 r3)], .d (.bool ok)])) [] := by
    intro bx hk
    obtain ⟨rfl, rfl, rfl, rfl, rfl⟩ := h0 hk
    exact retF trivial trivial rfl rfl rfl rfl
  refine fc' ht (bx0 := []) Tryd.func59 (c := _) rfl rfl (N := 34) rfl (rs := _) rfl (n := 0) rfl rfl ?_
  cbv
  refine loopU ⟨[2, 3, 4, 6, 12, 13], [], []⟩ (σ := Nat) (fun j => [(13, .d (.int .i64 j))]) (fun j => [(0, .var [.d (.int .u64 (bif Nat.blt 0 j then s0 else a0)), .d (.int .u64 (bif Nat.blt 1 j then s1 else a1)), .d (.int .u64 (bif Nat.blt 2 j then s2 else a2)), .d (.int .u64 (bif Nat.blt 3 j then s3 else a3))])])
    (fun n j => n + j = 4 ∧ (0 < j → k0 = true) ∧ (1 < j → k1 = true) ∧ (2 < j → k2 = true) ∧ (3 < j → k3 = true)) ?_
  cbv
  refine loopIn ⟨4, 0, ⟨rfl, by omega, by omega, by omega, by omega⟩, rfl, ?_⟩
  rintro n j ⟨hn, g0, g1, g2, g3⟩
  have hj : j = 0 ∨ j = 1 ∨ j = 2 ∨ j = 3 ∨ j = 4 := by omega
  rcases hj with rfl | rfl | rfl | rfl | rfl
  · cbv
    refine condT (by simp [ht]) ?_
    cbv
    refine ⟨by simp [ht], by simp [ht], callF trivial (hop _ _ _ _ e0) trivial rfl rfl ?_⟩
    cbv
    refine condI (fun hc => ?_) (fun hc => ?_)
    · simp only [ht, Bool.not_eq_true'] at hc
      cbv
      exact fin (by simp [hc])
    · simp only [ht, Bool.not_eq_false'] at hc
      cbv
      refine ⟨by simp [ht], ?_⟩
      trace_state
      refine loopIn ⟨3 - 0, 0 + 1, ⟨⟨by omega, by omega, by simp_all, by simp_all, by simp_all, by simp_all⟩, ?_⟩⟩
      simp only [ht]; rfl
  · cbv
    refine condT (by simp [ht]) ?_
    cbv
    refine ⟨by simp [ht], by simp [ht], callF trivial (hop _ _ _ _ e1) trivial rfl rfl ?_⟩
    cbv
    refine condI (fun hc => ?_) (fun hc => ?_)
    · simp only [ht, Bool.not_eq_true'] at hc
      cbv
      exact fin (by simp [hc])
    · simp only [ht, Bool.not_eq_false'] at hc
      cbv
      refine ⟨by simp [ht], ?_⟩
      trace_state
      refine loopIn ⟨3 - 1, 1 + 1, ⟨⟨by omega, by omega, by simp_all, by simp_all, by simp_all, by simp_all⟩, ?_⟩⟩
      simp only [ht]; rfl
  · cbv
    refine condT (by simp [ht]) ?_
    cbv
    refine ⟨by simp [ht], by simp [ht], callF trivial (hop _ _ _ _ e2) trivial rfl rfl ?_⟩
    cbv
    refine condI (fun hc => ?_) (fun hc => ?_)
    · simp only [ht, Bool.not_eq_true'] at hc
      cbv
      exact fin (by simp [hc])
    · simp only [ht, Bool.not_eq_false'] at hc
      cbv
      refine ⟨by simp [ht], ?_⟩
      trace_state
      refine loopIn ⟨3 - 2, 2 + 1, ⟨⟨by omega, by omega, by simp_all, by simp_all, by simp_all, by simp_all⟩, ?_⟩⟩
      simp only [ht]; rfl
  · cbv
    refine condT (by simp [ht]) ?_
    cbv
    refine ⟨by simp [ht], by simp [ht], callF trivial (hop _ _ _ _ e3) trivial rfl rfl ?_⟩
    cbv
    refine condI (fun hc => ?_) (fun hc => ?_)
    · simp only [ht, Bool.not_eq_true'] at hc
      cbv
      exact fin (by simp [hc])
    · simp only [ht, Bool.not_eq_false'] at hc
      cbv
      refine ⟨by simp [ht], ?_⟩
      trace_state
      refine loopIn ⟨3 - 3, 3 + 1, ⟨⟨by omega, by omega, by simp_all, by simp_all, by simp_all, by simp_all⟩, ?_⟩⟩
      simp only [ht]; rfl
  · cbv
    refine condF (by simp [ht]) ?_
    cbv
    obtain ⟨rfl, rfl, rfl, rfl, rfl⟩ := h1 (by simp [g0, g1, g2, g3])
    exact retF trivial trivial rfl rfl rfl rfl

theorem c_vadd (ht : TT t) (a0 a1 a2 a3 b0 b1 b2 b3 : Int) {r0 r1 r2 r3 : Int} {ok : Bool} (h : (⟨r0, r1, r2, r3⟩, ok) = vadd ⟨a0, a1, a2, a3⟩ ⟨b0, b1, b2, b3⟩) :
    FC 28 [V4 a0 a1 a2 a3, V4 b0 b1 b2 b3] [] (.ret (.tup [V4 r0 r1 r2 r3, BL ok])) [] := by
  refine fc' ht (bx0 := []) Tryd.func28 (c := _) rfl rfl (N := 11) rfl (rs := _) rfl (n := 0) rfl rfl ?_
  cbv
  refine callF trivial (c_both ht _ _ _ _ _ _ _ _ addM 60 (fun x y r ok => c_wireAdd ht x y) h) trivial rfl rfl ?_
  cbv
  exact retF trivial trivial rfl rfl rfl rfl

theorem c_vsub (ht : TT t) (a0 a1 a2 a3 b0 b1 b2 b3 : Int) {r0 r1 r2 r3 : Int} {ok : Bool} (h : (⟨r0, r1, r2, r3⟩, ok) = vsub ⟨a0, a1, a2, a3⟩ ⟨b0, b1, b2, b3⟩) :
    FC 58 [V4 a0 a1 a2 a3, V4 b0 b1 b2 b3] [] (.ret (.tup [V4 r0 r1 r2 r3, BL ok])) [] := by
  refine fc' ht (bx0 := []) Tryd.func58 (c := _) rfl rfl (N := 11) rfl (rs := _) rfl (n := 0) rfl rfl ?_
  cbv
  refine callF trivial (c_both ht _ _ _ _ _ _ _ _ subM 78 (fun x y r ok => c_wireSub ht x y) h) trivial rfl rfl ?_
  cbv
  exact retF trivial trivial rfl rfl rfl rfl

theorem c_vfits (ht : TT t) (a0 a1 a2 a3 b0 b1 b2 b3 : Int) {ok : Bool} (h : ok = vfits ⟨a0, a1, a2, a3⟩ ⟨b0, b1, b2, b3⟩) :
    FC 29 [V4 a0 a1 a2 a3, V4 b0 b1 b2 b3] [] (.ret (BL ok)) [] := by
  obtain ⟨⟨⟨r0, r1, r2, r3⟩, k⟩, e⟩ : ∃ s, s = vsub ⟨b0, b1, b2, b3⟩ ⟨a0, a1, a2, a3⟩ := ⟨_, rfl⟩
  have hk : ok = k := by rw [h]; unfold vfits; rw [← e]
  refine fc' ht (bx0 := []) Tryd.func29 (c := _) rfl rfl (N := 14) rfl (rs := _) rfl (n := 0) rfl rfl ?_
  cbv
  refine callF trivial (c_vsub ht _ _ _ _ _ _ _ _ e) trivial rfl rfl ?_
  cbv
  exact retF trivial trivial rfl rfl rfl (by rw [hk])
end Dem
end
section
/- CONTRACTS: pool: Free. -/
open Go Dem Go.Proofs
namespace Dem
set_option maxRecDepth 100000
variable {t : Th}

theorem c_free (ht : TT t) (name : Str) {l : List Node} {ps : List Place} {es qs : List (List D)} (hes : es = l.map Node.cells) (hqs : qs = ps.map Place.cells) (hl : l.length < 9223372036854775807) (hpl : ps.length < 9223372036854775807) {a b c d : Int} {ok : Bool} (hr : pfree name l ps = (⟨a, b, c, d⟩, ok)) :
    FC 27 [.agg [SL es, SL qs], ST name] [] (.ret (.tup [V4 a b c d, BL ok])) [] := by
  have hrows : ∀ r ∈ qs, r.length = 6 := by rw [hqs]; intro r hr; obtain ⟨y, _, rfl⟩ := List.mem_map.1 hr; rfl
  have hel : qs.length = ps.length := by rw [hqs, List.length_map]
  obtain ⟨x, ok0, hf⟩ : ∃ x ok0, pfind name l = (x, ok0) := ⟨_, _, rfl⟩
  obtain ⟨nm, ⟨a0, b0, c0, d0⟩, lb, up⟩ := x
  obtain ⟨lr, hlr⟩ : ∃ lr, lr = lb.map Pair.cells := ⟨_, rfl⟩
  obtain ⟨J, hJ⟩ : ∃ J : Nat → (Vec × Bool) × Nat → Prop, ∀ n v, J n v ↔ (v.2 + n = ps.length ∧ (ps.drop v.2).foldl (freeStep name) v.1 = ps.foldl (freeStep name) (⟨a0, b0, c0, d0⟩, ok0)) := ⟨fun n v => v.2 + n = ps.length ∧ (ps.drop v.2).foldl (freeStep name) v.1 = ps.foldl (freeStep name) (⟨a0, b0, c0, d0⟩, ok0), fun _ _ => Iff.rfl⟩
  refine fc' ht (bx0 := []) Tryd.func27 (c := _) rfl rfl (N := 45) rfl (rs := _) rfl (n := 0) rfl rfl ?_
  cbv
  refine callS trivial (c_find ht name hes hl hf hlr) trivial rfl rfl rfl ?_
  cbv
  refine loopU ⟨[1, 4, 7, 8, 20, 21, 22], [], []⟩ (σ := (Vec × Bool) × Nat) (fun v => [(7, BL (t _ fun _ => v.1.2)), (22, I64 (t _ fun _ => (v.2 : Int)))]) (fun v => [(1, .var [.d (.int .u64 (t _ fun _ => v.1.1.a)), .d (.int .u64 (t _ fun _ => v.1.1.b)), .d (.int .u64 (t _ fun _ => v.1.1.c)), .d (.int .u64 (t _ fun _ => v.1.1.d))])]) J ?_
  cbv
  refine loopIn ⟨ps.length, ((⟨a0, b0, c0, d0⟩, ok0), 0), (hJ _ _).2 ⟨by simp, by simp⟩, by simp only [ht]; rfl, ?_⟩
  rintro n ⟨⟨⟨a1, b1, c1, d1⟩, ok1⟩, k⟩ hj
  obtain ⟨j1, j2⟩ := (hJ _ _).1 hj
  clear hj
  simp only at j1 j2
  cbv
  refine condI (fun h => ?_) (fun h => ?_)
  · have hk : k < ps.length := by simp [ht, ncast] at h; omega
    clear h
    obtain ⟨x, hx⟩ : ∃ x, ps[k]? = some x := ⟨ps[k], by simp⟩
    obtain ⟨jb, nd, ⟨v1, v2, v3, v4⟩⟩ := x
    have hd : ps.drop k = ⟨jb, nd, ⟨v1, v2, v3, v4⟩⟩ :: ps.drop (k + 1) := by
      rw [List.drop_eq_getElem_cons hk]; congr 1
      rw [List.getElem?_eq_getElem hk] at hx; exact Option.some.inj hx
    rw [hd, List.foldl_cons] at j2
    cbv
    refine idxI [.int .u64 jb, .str nd, .int .u64 v1, .int .u64 v2, .int .u64 v3, .int .u64 v4] ?_ ?_ ?_
    · simp only [ht, ncast]; exact ⟨by omega, by omega, hrows⟩
    · simp [ht, ncast, hqs, hx]
    cbv
    repeat (first | refine gI (by first | (simp [ht, pickI_iff]; done) | (simp [ht, pickI_iff]; intros; simp_all; done)) ?_ | refine pI (by first | (simp [ht, pickI_iff]; done) | (simp [ht, pickI_iff]; intros; simp_all; done)) ?_)
    refine condI (fun hb => ?_) (fun hb => ?_)
    · have hb' : (ok1 && decide (nd = name)) = true := by simp [ht] at hb ⊢; exact hb
      clear hb
      obtain ⟨⟨⟨r0, r1, r2, r3⟩, okr⟩, hv⟩ : ∃ s, s = vsub ⟨a1, b1, c1, d1⟩ ⟨v1, v2, v3, v4⟩ := ⟨_, rfl⟩
      have hst : freeStep name (⟨a1, b1, c1, d1⟩, ok1) ⟨jb, nd, ⟨v1, v2, v3, v4⟩⟩ = (⟨r0, r1, r2, r3⟩, okr) := by simp only [freeStep, hb', if_true]; exact hv.symm
      rw [hst] at j2
      cbv
      refine callF trivial (c_vsub ht _ _ _ _ _ _ _ _ (by simp only [ht]; exact hv)) trivial rfl rfl ?_
      cbv
      refine loopIn ⟨n - 1, ((⟨r0, r1, r2, r3⟩, okr), k + 1), ⟨by omega, (hJ _ _).2 ⟨by show k + 1 + (n - 1) = _; omega, j2⟩⟩, ?_⟩
      simp only [ht, ncast, Int.ofNat_eq_natCast, i64_upN (show k < 9223372036854775807 by omega)]; rfl
    · have hb' : (ok1 && decide (nd = name)) = false := by simp [ht] at hb ⊢; exact hb
      clear hb
      have hst : freeStep name (⟨a1, b1, c1, d1⟩, ok1) ⟨jb, nd, ⟨v1, v2, v3, v4⟩⟩ = (⟨a1, b1, c1, d1⟩, ok1) := by simp [freeStep, hb']
      rw [hst] at j2
      cbv
      refine loopIn ⟨n - 1, ((⟨a1, b1, c1, d1⟩, ok1), k + 1), ⟨by omega, (hJ _ _).2 ⟨by show k + 1 + (n - 1) = _; omega, j2⟩⟩, ?_⟩
      simp only [ht, ncast, Int.ofNat_eq_natCast, i64_upN (show k < 9223372036854775807 by omega)]; rfl
  · have hk : k = ps.length := by simp [ht, ncast] at h; omega
    clear h
    rw [hk, List.drop_length, List.foldl_nil] at j2
    have hfin : (if ok1 then ((⟨a1, b1, c1, d1⟩ : Vec), ok1) else (Vec.zero, false)) = (⟨a, b, c, d⟩, ok) := by rw [← hr, pfree, hf, ← j2]
    cbv
    refine condI (fun hb => ?_) (fun hb => ?_)
    · have hb' : ok1 = false := by simpa [ht] using hb
      clear hb
      subst hb'
      obtain ⟨⟨rfl, rfl, rfl, rfl⟩, rfl⟩ : (a = 0 ∧ b = 0 ∧ c = 0 ∧ d = 0) ∧ ok = false := by simpa [Vec.zero, eq_comm] using hfin
      cbv
      exact retF trivial trivial rfl rfl rfl rfl
    · have hb' : ok1 = true := by simpa [ht] using hb
      clear hb
      subst hb'
      obtain ⟨⟨rfl, rfl, rfl, rfl⟩, rfl⟩ : (a1 = a ∧ b1 = b ∧ c1 = c ∧ d1 = d) ∧ true = ok := by simpa using hfin
      cbv
      refine retF trivial trivial rfl rfl rfl ?_
      simp only [ht]
end Dem
end
section
/- CONTRACTS: pool: room, Of. -/
open Go Dem Go.Proofs
namespace Dem
set_option maxRecDepth 100000
variable {t : Th}

theorem c_room (ht : TT t) (name : Str) (v0 v1 v2 v3 : Int) {l : List Node} {ps : List Place} {es qs : List (List D)} (hes : es = l.map Node.cells) (hqs : qs = ps.map Place.cells) (hl : l.length < 9223372036854775807) (hpl : ps.length < 9223372036854775807) {r : Int} (hr : r = proom name ⟨v0, v1, v2, v3⟩ l ps) :
    FC 34 [.agg [SL es, SL qs], ST name, V4 v0 v1 v2 v3] [] (.ret (I64 r)) [] := by
  obtain ⟨x, ok0, hf⟩ : ∃ x ok0, pfind name l = (x, ok0) := ⟨_, _, rfl⟩
  obtain ⟨nm, ⟨a0, b0, c0, d0⟩, lb, up⟩ := x
  obtain ⟨lr, hlr⟩ : ∃ lr, lr = lb.map Pair.cells := ⟨_, rfl⟩
  obtain ⟨⟨a1, b1, c1, d1⟩, ok1, hg⟩ : ∃ x ok1, pfree name l ps = (x, ok1) := ⟨_, _, rfl⟩
  obtain ⟨ft, hft⟩ : ∃ ft, ft = vfits ⟨v0, v1, v2, v3⟩ ⟨a1, b1, c1, d1⟩ := ⟨_, rfl⟩
  simp only [proom, hf, hg, ← hft] at hr
  refine fc' ht (bx0 := []) Tryd.func34 (c := _) rfl rfl (N := 39) rfl (rs := _) rfl (n := 0) rfl rfl ?_
  cbv
  refine callS trivial (c_find ht name hes hl hf hlr) trivial rfl rfl rfl ?_
  cbv
  refine callF trivial (c_free ht name hes hqs hl hpl hg) trivial rfl rfl ?_
  cbv
  refine condI (fun hb => ?_) (fun hb => ?_)
  · have hb' : ok0 = false := by simpa [ht] using hb
    clear hb
    cbv
    refine retF trivial trivial rfl rfl rfl ?_
    simp [hr, hb']
  · have hb' : ok0 = true := by simpa [ht] using hb
    clear hb
    cbv
    refine condI (fun hc => ?_) (fun hc => ?_)
    · have hc' : up = false := by simpa [ht] using hc
      clear hc
      cbv
      refine retF trivial trivial rfl rfl rfl ?_
      simp [hr, hb', hc']
    · have hc' : up = true := by simpa [ht] using hc
      clear hc
      cbv
      repeat (first | refine gI (by first | (simp [ht, pickI_iff]; done) | (simp [ht, pickI_iff]; intros; simp_all; done)) ?_ | refine pI (by first | (simp [ht, pickI_iff]; done) | (simp [ht, pickI_iff]; intros; simp_all; done)) ?_)
      refine callQ (fun hgg => ⟨by simp [ht] at hgg ⊢; exact hgg, trivial, c_vfits ht _ _ _ _ _ _ _ _ hft⟩) rfl rfl ?_
      cbv
      repeat (first | refine gI (by first | (simp [ht, pickI_iff]; done) | (simp [ht, pickI_iff]; intros; simp_all; done)) ?_ | refine pI (by first | (simp [ht, pickI_iff]; done) | (simp [ht, pickI_iff]; intros; simp_all; done)) ?_)
      refine condI (fun hd => ?_) (fun hd => ?_)
      · have hd' : (!ok1 || !ft) = true := by revert hd; simp only [ht]; cases ok1 <;> cases ft <;> simp
        clear hd
        cbv
        refine retF trivial trivial rfl rfl rfl ?_
        simp [hr, hb', hc', hd']
      · have hd' : (!ok1 || !ft) = false := by revert hd; simp only [ht]; cases ok1 <;> cases ft <;> simp
        clear hd
        cbv
        refine retF trivial trivial rfl rfl rfl ?_
        simp [hr, hb', hc', hd']



theorem c_of (ht : TT t) (job : Int) {ps : List Place} {es qs : List (List D)} (hqs : qs = ps.map Place.cells) (hpl : ps.length < 1000000) {r : List (List D)} (hr : r = (pof job ps).map strRow) :
    FC 17 [.agg [SL es, SL qs], U64 job] [] (.ret (SL r)) [] := by
  have hrows : ∀ r ∈ qs, r.length = 6 := by rw [hqs]; intro r hr; obtain ⟨y, _, rfl⟩ := List.mem_map.1 hr; rfl
  have hel : qs.length = ps.length := by rw [hqs, List.length_map]
  have hsub : ∀ k, (pof job (ps.take k)).length ≤ ps.length := by
    intro k; unfold pof; rw [List.length_map]
    exact Nat.le_trans (List.length_filter_le _ _) (by rw [List.length_take]; omega)
  obtain ⟨J, hJ⟩ : ∃ J : Nat → List (List D) × Nat → Prop, ∀ n v, J n v ↔ (v.2 + n = ps.length ∧ v.1 = (pof job (ps.take v.2)).map strRow) := ⟨fun n v => v.2 + n = ps.length ∧ v.1 = (pof job (ps.take v.2)).map strRow, fun _ _ => Iff.rfl⟩
  refine fc' ht (bx0 := []) Tryd.func17 (c := _) rfl rfl (N := 26) rfl (rs := _) rfl (n := 0) rfl rfl ?_
  cbv
  refine loopU ⟨[1, 5, 9, 10, 11], [(5, 1)], []⟩ (σ := List (List D) × Nat) (fun v => [(5, .ow 0 1 (t _ fun _ => v.1.length)), (11, I64 (t _ fun _ => (v.2 : Int)))]) (fun v => [(0, .row 1 (t _ fun _ => v.1))]) J ?_
  cbv
  refine loopIn ⟨ps.length, ([], 0), (hJ _ _).2 ⟨by simp, by simp [pof]⟩, by simp only [ht]; rfl, ?_⟩
  rintro n ⟨out, k⟩ hj
  obtain ⟨j1, j2⟩ := (hJ _ _).1 hj
  clear hj
  simp only at j1 j2
  cbv
  refine condI (fun h => ?_) (fun h => ?_)
  · have hk : k < ps.length := by simp [ht, ncast] at h; omega
    clear h
    obtain ⟨x, hx⟩ : ∃ x, ps[k]? = some x := ⟨ps[k], by simp⟩
    have htk := take_snoc hx
    obtain ⟨jb, nd, ⟨v1, v2, v3, v4⟩⟩ := x
    cbv
    refine idxI [.int .u64 jb, .str nd, .int .u64 v1, .int .u64 v2, .int .u64 v3, .int .u64 v4] ?_ ?_ ?_
    · simp only [ht, ncast]; exact ⟨by omega, by omega, hrows⟩
    · simp [ht, ncast, hqs, hx]
    cbv
    refine condI (fun hb => ?_) (fun hb => ?_)
    · have hb' : jb = job := by simpa [ht] using hb
      clear hb
      have hnew : (pof job (ps.take (k + 1))).map strRow = out ++ [[.str nd]] := by
        rw [j2, htk]; simp [pof, List.filter_append, hb']
      have hlen : out.length ≤ ps.length := by rw [j2, List.length_map]; exact hsub k
      cbv
      refine ⟨?_, loopIn ⟨n - 1, (out ++ [[.str nd]], k + 1), ⟨by omega, (hJ _ _).2 ⟨by show k + 1 + (n - 1) = _; omega, hnew.symm⟩⟩, ?_⟩⟩
      · simp only [ht]
        refine ⟨by simp, by simp; omega, ?_⟩
        intro r hr
        rcases List.mem_append.1 hr with hr | hr
        · rw [j2] at hr; obtain ⟨z, _, rfl⟩ := List.mem_map.1 hr; rfl
        · simp at hr; subst hr; rfl
      · simp only [ht, ncast, Int.ofNat_eq_natCast, List.length_append, i64_upN (show k < 9223372036854775807 by omega)]; rfl
    · have hb' : ¬ jb = job := by simpa [ht] using hb
      clear hb
      have hnew : (pof job (ps.take (k + 1))).map strRow = out := by
        rw [j2, htk]; simp [pof, List.filter_append, hb']
      cbv
      refine loopIn ⟨n - 1, (out, k + 1), ⟨by omega, (hJ _ _).2 ⟨by show k + 1 + (n - 1) = _; omega, hnew.symm⟩⟩, ?_⟩
      simp only [ht, ncast, Int.ofNat_eq_natCast, i64_upN (show k < 9223372036854775807 by omega)]; rfl
  · have hk : k = ps.length := by simp [ht, ncast] at h; omega
    clear h
    rw [hk, List.take_length, ← hr] at j2
    subst j2
    cbv
    refine retF trivial ?_ rfl rfl rfl ?_
    · simp only [ht]
    · simp only [ht]
end Dem
end
section
/- CONTRACTS: pool: as told by one value; Lay. -/
open Go Dem Go.Proofs
namespace Dem
set_option maxRecDepth 100000
variable {t : Th}
theorem c_findE (ht : TT t) (name : Str) {l : List Node} {es ps : List (List D)} (hes : es = l.map Node.cells) (hl : l.length < 9223372036854775807) :
    FC 18 [.agg [SL es, SL ps], ST name] [] (.ret (ENodeB t (t _ fun _ => pfind name l))) [] := by
  simp only [ht]
  generalize hr : pfind name l = r
  obtain ⟨⟨nm, ⟨a, b, c, d⟩, lb, up⟩, ok⟩ := r
  exact (by simpa only [ENodeB, ENode, ht] using c_find ht name hes hl hr rfl)
theorem c_freeE (ht : TT t) (name : Str) {l : List Node} {ps : List Place} {es qs : List (List D)} (hes : es = l.map Node.cells) (hqs : qs = ps.map Place.cells) (hl : l.length < 9223372036854775807) (hpl : ps.length < 9223372036854775807) :
    FC 27 [.agg [SL es, SL qs], ST name] [] (.ret (EVB (t _ fun _ => pfree name l ps))) [] := by
  simp only [ht]
  generalize hr : pfree name l ps = r
  obtain ⟨⟨a, b, c, d⟩, ok⟩ := r
  exact c_free ht name hes hqs hl hpl hr
theorem c_vfitsE (ht : TT t) (a b c d e f g h : Int) : FC 29 [V4 a b c d, V4 e f g h] [] (.ret (EBool (t _ fun _ => vfits ⟨a, b, c, d⟩ ⟨e, f, g, h⟩))) [] := by
  simp only [ht]; exact c_vfits ht _ _ _ _ _ _ _ _ rfl
theorem c_roomE (ht : TT t) (name : Str) (v0 v1 v2 v3 : Int) {l : List Node} {ps : List Place} {es qs : List (List D)} (hes : es = l.map Node.cells) (hqs : qs = ps.map Place.cells) (hl : l.length < 9223372036854775807) (hpl : ps.length < 9223372036854775807) :
    FC 34 [.agg [SL es, SL qs], ST name, V4 v0 v1 v2 v3] [] (.ret (EInt (t _ fun _ => proom name ⟨v0, v1, v2, v3⟩ l ps))) [] := by
  refine fc' ht (bx0 := []) Tryd.func34 (c := _) rfl rfl (N := 39) rfl (rs := _) rfl (n := 0) rfl rfl ?_
  cbv
  refine callES trivial (c_findE ht _ (by assumption) (by assumption)) trivial rfl rfl rfl (fun r0 er0 => ?_)
  simp only [ht] at er0
  cbv
  refine callEF trivial (c_freeE ht _ (by assumption) (by assumption) (by assumption) (by assumption)) trivial rfl rfl (fun r1 er1 => ?_)
  simp only [ht] at er1
  cbv
  refine condI (fun h2 => ?_) (fun h2 => ?_)
  · simp [ht, ncast] at h2
    cbv
    refine retF trivial trivial rfl rfl rfl ?_
    (simp only [ht, ncast, EInt, proom]; grind)
  · simp [ht, ncast] at h2
    cbv
    refine condI (fun h3 => ?_) (fun h3 => ?_)
    · simp [ht, ncast] at h3
      cbv
      refine retF trivial trivial rfl rfl rfl ?_
      (simp only [ht, ncast, EInt, proom]; grind)
    · simp [ht, ncast] at h3
      cbv
      refine gI (by simp [ht, pickI_iff]) ?_
      refine gI (by simp [ht, pickI_iff]) ?_
      refine callEQ (fun g4 => ⟨by simp [ht] at g4 ⊢; exact g4, trivial, c_vfitsE ht _ _ _ _ _ _ _ _⟩) rfl rfl (fun r5 er5 => ?_)
      simp only [ht] at er5
      cbv
      refine gI (by simp [ht, pickI_iff]) ?_
      refine pI (by simp [ht, pickI_iff]) ?_
      refine condI (fun h6 => ?_) (fun h6 => ?_)
      · simp [ht, ncast] at h6
        cbv
        refine retF trivial trivial rfl rfl rfl ?_
        (simp_all [ht, EInt, proom]; done)
      · simp [ht, ncast] at h6
        cbv
        refine retF trivial trivial rfl rfl rfl ?_
        (simp_all [ht, EInt, proom]; done)
theorem c_clonePlaceE (ht : TT t) {ps : List Place} {es : List (List D)} (hes : es = ps.map Place.cells) (hs : ps.length < 1000000000) :
    FC 33 [SL es] [] (.ret (.ow 0 6 (t _ fun _ => (ps.map Place.cells).length))) [.row 6 (t _ fun _ => ps.map Place.cells)] := by
  simp only [ht]; subst hes
  refine c_clonePlace ht ?_ ?_ (by simp)
  · intro r hr; obtain ⟨y, _, rfl⟩ := List.mem_map.1 hr; rfl
  · simp; omega
theorem c_layE (ht : TT t) (job : Int) (v0 v1 v2 v3 : Int) {l : List Node} {ps : List Place} {names : List Str} {es qs ns : List (List D)} (hes : es = l.map Node.cells) (hqs : qs = ps.map Place.cells) (hns : ns = names.map strRow) (hl : l.length < 1000000000) (hpl : ps.length < 100000000) (hnl : names.length < 100000000) :
    FC 13 [.agg [SL es, SL qs], U64 job, SL ns, V4 v0 v1 v2 v3] [] (.ret (EPoolE t (t _ fun _ => play ⟨l, ps⟩ job names ⟨v0, v1, v2, v3⟩))) [] := by
  refine fc' ht (bx0 := []) Tryd.func13 (c := _) rfl rfl (N := 45) rfl (rs := _) rfl (n := 0) rfl rfl ?_
  cbv
  have len_es : es.length = l.length := by rw [hes, List.length_map]
  have len_qs : qs.length = ps.length := by rw [hqs, List.length_map]
  have len_ns : ns.length = names.length := by rw [hns, List.length_map]
  refine drawI [false, false, false, false, false, false, false, true] (by kernel_rfl) (by kernel_rfl) ?_
  cbv
  refine gI (by simp [ht, pickI_iff]) ?_
  refine gI (by simp [ht, pickI_iff]) ?_
  refine gI (by simp [ht, pickI_iff]) ?_
  refine gI (by simp [ht, pickI_iff]) ?_
  refine .inr (bornO trivial (c_clonePlaceE ht (by assumption) (by omega)) trivial rfl (.inr rfl) rfl ?_)
  cbv
  refine gI (by simp [ht, pickI_iff]) ?_
  obtain ⟨J0, hJ0⟩ : ∃ J0 : Nat → Int × List (List D) → Prop, ∀ n i u, J0 n (i, u) ↔ (∃ (k : Nat) (rs : List Place), i = k ∧ k + n = names.length ∧ u = rs.map Place.cells ∧ rs.length = ps.length + k ∧ playGo l job ⟨v0, v1, v2, v3⟩ names ps = playGo l job ⟨v0, v1, v2, v3⟩ (names.drop k) rs) := ⟨fun n v => match v with | (i, u) => (∃ (k : Nat) (rs : List Place), i = k ∧ k + n = names.length ∧ u = rs.map Place.cells ∧ rs.length = ps.length + k ∧ playGo l job ⟨v0, v1, v2, v3⟩ names ps = playGo l job ⟨v0, v1, v2, v3⟩ (names.drop k) rs), fun _ _ _ => Iff.rfl⟩
  refine loopU ⟨[1, 4, 7, 8, 10, 20, 21, 22], [], []⟩ (σ := Int × List (List D)) (fun v => [(22, .d (.int .i64 (t _ fun _ => v.1)))]) (fun v => [(2, .var [AV.cl [], AV.cl []]), (4, .row 6 (t _ fun _ => v.2)), (3, .var [AV.d (D.sl es), .ow 4 6 (t _ fun _ => (v.2).length)])]) J0 ?_
  cbv
  refine loopIn ⟨names.length, (_, _), (hJ0 _ _ _).2 ?_, by simp only [ht]; rfl, ?_⟩
  · exact ⟨0, ps, rfl, by simp, by simp [ht], by simp, by simp⟩
  rintro n ⟨i, u⟩ hj
  replace hj := (hJ0 _ _ _).1 hj
  obtain ⟨k, rs, rfl, j1, j2, j3, j4⟩ := hj
  have len_u : u.length = rs.length := by rw [j2, List.length_map]
  cbv
  refine condI (fun h1 => ?_) (fun h1 => ?_)
  · simp [ht, ncast, len_es, len_qs, len_ns, len_u] at h1
    cbv
    refine idxM ht hns (cT := strCellsT t) (by (simp only [ht, ncast]; omega)) (by (simp only [ht, ncast]; omega)) (fun _ => rfl) (fun _ => rfl) (fun x2 mx2 => ?_)
    simp [ht, ncast] at mx2
    rw [drop_at mx2, playGo] at j4
    cbv
    refine callEF trivial (c_roomE ht _ _ _ _ _ (by assumption) (by (simp only [ht]; ((try simp only [ncast] at *); omega))) (by omega) (by omega)) (by simp [ht]) rfl rfl (fun r3 er3 => ?_)
    simp only [ht] at er3
    cbv
    refine condI (fun h4 => ?_) (fun h4 => ?_)
    · simp [ht, ncast, len_es, len_qs, len_ns, len_u] at h4
      cbv
      refine retF trivial trivial rfl rfl rfl ?_
      (simp only [ht, ncast, EPoolE, EPool, play, playGo]; grind)
    · simp [ht, ncast, len_es, len_qs, len_ns, len_u] at h4
      cbv
      refine ⟨?_, ?_⟩
      · (simp only [ht, true_and]; exact apBig j2 (fun _ => rfl) rfl (by omega) (by decide))
      cbv
      refine loopC (_, _) (by simp only [ht, ← List.length_append]; rfl) (n - 1) ?_ ((hJ0 _ _ _).2 ?_)
      · omega
      · simp only [ht, ncast]
        refine ⟨k + 1, rs ++ [⟨job, x2, ⟨v0, v1, v2, v3⟩⟩], i64_upN (by omega), by omega, ?_, by simp; omega, ?_⟩
        · (simp [ht, EPoolE, EPool, play, playGo, *]; done)
        · (simp_all [ht, EPoolE, EPool, play, playGo]; done)
  · simp [ht, ncast, len_es, len_qs, len_ns, len_u] at h1
    cbv
    refine retF trivial (by simp [ht]) rfl rfl rfl ?_
    (rw [List.drop_eq_nil_of_le (by omega), playGo] at j4; simp [ht, play, j4, hes, j2]; done)
end Dem
end
section
/- CONTRACTS: pool: turn, Mend, Bare; lists held against each other; Same. -/
open Go Dem Go.Proofs
namespace Dem
set_option maxRecDepth 100000
variable {t : Th}
theorem c_placeE (ht : TT t) (name : Str) {l : List Node} {es ps : List (List D)} (hes : es = l.map Node.cells) (hl : l.length < 9223372036854775807) :
    FC 38 [.agg [SL es, SL ps], ST name] [] (.ret (EInt (t _ fun _ => idxOf (fun x => decide (x.name = name)) l))) [] := by
  simp only [ht]; exact c_place ht name hes hl rfl
theorem c_cloneNodeE (ht : TT t) {l : List Node} {es : List (List D)} (hes : es = l.map Node.cells) (hs : l.length < 1000000000) :
    FC 49 [SL es] [] (.ret (.ow 0 7 (t _ fun _ => (l.map Node.cells).length))) [.row 7 (t _ fun _ => l.map Node.cells)] := by
  simp only [ht]; subst hes
  refine c_cloneNode ht ?_ ?_ (by simp)
  · intro r hr; obtain ⟨y, _, rfl⟩ := List.mem_map.1 hr; rfl
  · simp; omega
theorem c_turnE (ht : TT t) (name : Str) (up : Bool) {l : List Node} {ps : List Place} {es qs : List (List D)} (hes : es = l.map Node.cells) (hqs : qs = ps.map Place.cells) (hl : l.length < 1000000000) :
    FC 43 [.agg [SL es, SL qs], ST name, BL up] [] (.ret (EPoolE t (t _ fun _ => pturn ⟨l, ps⟩ name up))) [] := by
  refine fc' ht (bx0 := []) Tryd.func43 (c := _) rfl rfl (N := 35) rfl (rs := _) rfl (n := 0) rfl rfl ?_
  cbv
  have len_es : es.length = l.length := by rw [hes, List.length_map]
  have len_qs : qs.length = ps.length := by rw [hqs, List.length_map]
  refine callEF trivial (c_placeE ht _ (by assumption) (by omega)) trivial rfl rfl (fun r0 er0 => ?_)
  simp only [ht] at er0
  have ec := idxOf_cases er0
  clear er0
  rcases ec with ⟨e1, e2, e3⟩ | ⟨i, x, hi, hil, e1, e2, e3, e4⟩
  · cbv
    refine condI (fun h1 => ?_) (fun h1 => ?_)
    · simp [ht, ncast, len_es, len_qs] at h1
      cbv
      refine retF trivial trivial rfl rfl rfl ?_
      (simp [ht, EPoolE, EPool, pturn, *]; done)
    · simp [ht, ncast, len_es, len_qs] at h1
      omega
  · cbv
    refine condI (fun h2 => ?_) (fun h2 => ?_)
    · simp [ht, ncast, len_es, len_qs] at h2
      cbv
      refine retF trivial trivial rfl rfl rfl ?_
      (simp only [ht, ncast, EPoolE, EPool, pturn]; grind)
    · simp [ht, ncast, len_es, len_qs] at h2
      cbv
      refine idxK ht hes (cT := Node.cellsT t) e1 (by assumption) (fun _ => rfl) (fun _ => (by (simp only [ht, Node.cellsT]; done))) ?_
      cbv
      refine condI (fun h4 => ?_) (fun h4 => ?_)
      · simp [ht, ncast, len_es, len_qs] at h4
        cbv
        refine retF trivial trivial rfl rfl rfl ?_
        (obtain ⟨_, rfl⟩ := List.getElem?_eq_some_iff.1 e1; simp [ht, EPoolE, EPool, pturn, spliceD, List.map_set, *]; done)
      · simp [ht, ncast, len_es, len_qs] at h4
        cbv
        refine callO trivial (c_cloneNodeE ht (by assumption) (by assumption)) trivial rfl (.inr rfl) ?_
        cbv
        refine ⟨?_, ?_⟩
        · (simp [ht, hi, e1, hil]; done)
        refine ⟨?_, ?_⟩
        · (simp [ht, hi, e1, hil]; done)
        cbv
        refine retF trivial (by simp [ht]) rfl rfl rfl ?_
        (obtain ⟨_, rfl⟩ := List.getElem?_eq_some_iff.1 e1; simp [ht, EPoolE, EPool, pturn, spliceD, List.map_set, *]; done)
theorem c_mendE (ht : TT t) (name : Str) {l : List Node} {ps : List Place} {es qs : List (List D)} (hes : es = l.map Node.cells) (hqs : qs = ps.map Place.cells) (hl : l.length < 1000000000) :
    FC 21 [.agg [SL es, SL qs], ST name] [] (.ret (EPoolE t (t _ fun _ => pturn ⟨l, ps⟩ name true))) [] := by
  refine fc' ht (bx0 := []) Tryd.func21 (c := _) rfl rfl (N := 11) rfl (rs := _) rfl (n := 0) rfl rfl ?_
  cbv
  have len_es : es.length = l.length := by rw [hes, List.length_map]
  have len_qs : qs.length = ps.length := by rw [hqs, List.length_map]
  refine callES trivial (c_turnE ht _ _ (by assumption) (by assumption) (by assumption)) trivial rfl rfl rfl (fun r0 er0 => ?_)
  simp only [ht] at er0
  cbv
  refine retF trivial trivial rfl rfl rfl ?_
  (simp [ht, EPoolE, EPool, *]; done)
theorem c_bareE (ht : TT t) {l : List Node} {es qs : List (List D)} (hes : es = l.map Node.cells) :
    FC 26 [.agg [SL es, SL qs]] [] (.ret (EPool t (t _ fun _ => ⟨l, []⟩))) [] := by
  refine fc' ht (bx0 := []) Tryd.func26 (c := _) rfl rfl (N := 6) rfl (rs := _) rfl (n := 0) rfl rfl ?_
  cbv
  have len_es : es.length = l.length := by rw [hes, List.length_map]
  refine retF trivial trivial rfl rfl rfl ?_
  (simp [ht, EPool, *]; done)
def Pair.cellsT (_ : Th) (x : Pair) : List D := [.str x.key, .str x.value]
theorem c_eqPairE (ht : TT t) {l m : List Pair} {es fs : List (List D)} (hes : es = l.map Pair.cells) (hfs : fs = m.map Pair.cells) (hl : l.length < 1000000000) (hm : m.length < 1000000000) :
    FC 63 [SL es, SL fs] [] (.ret (EBool (t _ fun _ => decide (l = m)))) [] := by
  refine fc' ht (bx0 := []) Tryd.func63 (c := _) rfl rfl (N := 26) rfl (rs := _) rfl (n := 0) rfl rfl ?_
  cbv
  have len_es : es.length = l.length := by rw [hes, List.length_map]
  have len_fs : fs.length = m.length := by rw [hfs, List.length_map]
  refine condI (fun h0 => ?_) (fun h0 => ?_)
  · simp [ht, ncast, len_es, len_fs] at h0
    cbv
    refine retF trivial trivial rfl rfl rfl ?_
    (simp [ht]; rintro rfl; simp_all; done)
  · simp [ht, ncast, len_es, len_fs] at h0
    cbv
    obtain ⟨J1, hJ1⟩ : ∃ J1 : Nat → Int → Prop, ∀ n i, J1 n i ↔ (∃ k : Nat, i = k ∧ k + n = l.length ∧ l.length = m.length ∧ decide (l = m) = decide (l.drop k = m.drop k)) := ⟨fun n v => match v with | i => (∃ k : Nat, i = k ∧ k + n = l.length ∧ l.length = m.length ∧ decide (l = m) = decide (l.drop k = m.drop k)), fun _ _ => Iff.rfl⟩
    refine loopU ⟨[0, 1, 12, 13], [], []⟩ (σ := Int) (fun v => [(13, .d (.int .i64 (t _ fun _ => v)))]) (fun v => []) J1 ?_
    cbv
    refine loopIn ⟨l.length, _, (hJ1 _ _).2 ?_, by simp only [ht]; rfl, ?_⟩
    · (simp only [ht, ncast, EBool, pair_eq]; grind)
    rintro n i hj
    replace hj := (hJ1 _ _).1 hj
    obtain ⟨k, rfl, j1, j2, j4⟩ := hj
    cbv
    refine condI (fun h2 => ?_) (fun h2 => ?_)
    · simp [ht, ncast, len_es, len_fs] at h2
      cbv
      refine drawI [false, false, false, false, false, false, false, false, true] (by kernel_rfl) (by kernel_rfl) ?_
      cbv
      refine gI (by simp [ht, pickI_iff]) ?_
      refine gI (by simp [ht, pickI_iff]) ?_
      refine idxM ht hes (cT := Pair.cellsT t) (by (simp only [ht, ncast]; omega)) (by (simp only [ht, ncast]; omega)) (fun _ => rfl) (fun _ => rfl) (fun x3 mx3 => ?_)
      simp [ht, ncast] at mx3
      rw [drop_at mx3] at j4
      cbv
      refine gI (by simp [ht, pickI_iff]) ?_
      refine gI (by simp [ht, pickI_iff]) ?_
      refine gI (by simp [ht, pickI_iff]) ?_
      refine idxM ht hfs (cT := Pair.cellsT t) (by (simp only [ht, ncast]; omega)) (by (simp only [ht, ncast]; omega)) (fun _ => rfl) (fun _ => rfl) (fun x4 mx4 => ?_)
      simp [ht, ncast] at mx4
      rw [drop_at mx4] at j4
      cbv
      refine gI (by simp [ht, pickI_iff]) ?_
      refine condI (fun h5 => ?_) (fun h5 => ?_)
      · simp [ht, ncast, len_es, len_fs] at h5
        cbv
        refine retF trivial trivial rfl rfl rfl ?_
        (simp [ht]; rintro rfl; simp_all; done)
      · simp [ht, ncast, len_es, len_fs] at h5
        cbv
        refine loopC _ rfl (n - 1) ?_ ((hJ1 _ _).2 ?_)
        · omega
        · simp only [ht, ncast]
          refine ⟨k + 1, i64_upN (by omega), by omega, by omega, ?_⟩
          (simp [ht, EBool, pair_eq, *]; done)
    · simp [ht, ncast, len_es, len_fs] at h2
      cbv
      refine retF trivial trivial rfl rfl rfl ?_
      (simp [ht, j4, List.drop_eq_nil_of_le (show l.length ≤ k by omega), List.drop_eq_nil_of_le (show m.length ≤ k by omega)]; done)
theorem c_eqPlaceE (ht : TT t) {l m : List Place} {es fs : List (List D)} (hes : es = l.map Place.cells) (hfs : fs = m.map Place.cells) (hl : l.length < 1000000000) (hm : m.length < 1000000000) :
    FC 37 [SL es, SL fs] [] (.ret (EBool (t _ fun _ => decide (l = m)))) [] := by
  refine fc' ht (bx0 := []) Tryd.func37 (c := _) rfl rfl (N := 26) rfl (rs := _) rfl (n := 0) rfl rfl ?_
  cbv
  have len_es : es.length = l.length := by rw [hes, List.length_map]
  have len_fs : fs.length = m.length := by rw [hfs, List.length_map]
  refine condI (fun h0 => ?_) (fun h0 => ?_)
  · simp [ht, ncast, len_es, len_fs] at h0
    cbv
    refine retF trivial trivial rfl rfl rfl ?_
    (simp [ht]; rintro rfl; simp_all; done)
  · simp [ht, ncast, len_es, len_fs] at h0
    cbv
    obtain ⟨J1, hJ1⟩ : ∃ J1 : Nat → Int → Prop, ∀ n i, J1 n i ↔ (∃ k : Nat, i = k ∧ k + n = l.length ∧ l.length = m.length ∧ decide (l = m) = decide (l.drop k = m.drop k)) := ⟨fun n v => match v with | i => (∃ k : Nat, i = k ∧ k + n = l.length ∧ l.length = m.length ∧ decide (l = m) = decide (l.drop k = m.drop k)), fun _ _ => Iff.rfl⟩
    refine loopU ⟨[0, 1, 12, 13], [], []⟩ (σ := Int) (fun v => [(13, .d (.int .i64 (t _ fun _ => v)))]) (fun v => []) J1 ?_
    cbv
    refine loopIn ⟨l.length, _, (hJ1 _ _).2 ?_, by simp only [ht]; rfl, ?_⟩
    · (simp only [ht, ncast, EBool, place_eq, vec_eq]; grind)
    rintro n i hj
    replace hj := (hJ1 _ _).1 hj
    obtain ⟨k, rfl, j1, j2, j4⟩ := hj
    cbv
    refine condI (fun h2 => ?_) (fun h2 => ?_)
    · simp [ht, ncast, len_es, len_fs] at h2
      cbv
      refine drawI [false, false, false, false, false, false, false, false, true] (by kernel_rfl) (by kernel_rfl) ?_
      cbv
      refine gI (by simp [ht, pickI_iff]) ?_
      refine gI (by simp [ht, pickI_iff]) ?_
      refine idxM ht hes (cT := Place.cellsT t) (by (simp only [ht, ncast]; omega)) (by (simp only [ht, ncast]; omega)) (fun _ => rfl) (fun _ => rfl) (fun x3 mx3 => ?_)
      simp [ht, ncast] at mx3
      rw [drop_at mx3] at j4
      cbv
      refine gI (by simp [ht, pickI_iff]) ?_
      refine gI (by simp [ht, pickI_iff]) ?_
      refine gI (by simp [ht, pickI_iff]) ?_
      refine idxM ht hfs (cT := Place.cellsT t) (by (simp only [ht, ncast]; omega)) (by (simp only [ht, ncast]; omega)) (fun _ => rfl) (fun _ => rfl) (fun x4 mx4 => ?_)
      simp [ht, ncast] at mx4
      rw [drop_at mx4] at j4
      cbv
      refine gI (by simp [ht, pickI_iff]) ?_
      refine condI (fun h5 => ?_) (fun h5 => ?_)
      · simp [ht, ncast, len_es, len_fs] at h5
        cbv
        refine retF trivial trivial rfl rfl rfl ?_
        (simp [ht]; rintro rfl; simp_all; done)
      · simp [ht, ncast, len_es, len_fs] at h5
        cbv
        refine loopC _ rfl (n - 1) ?_ ((hJ1 _ _).2 ?_)
        · omega
        · simp only [ht, ncast]
          refine ⟨k + 1, i64_upN (by omega), by omega, by omega, ?_⟩
          (simp [ht, EBool, place_eq, vec_eq, *]; done)
    · simp [ht, ncast, len_es, len_fs] at h2
      cbv
      refine retF trivial trivial rfl rfl rfl ?_
      (simp [ht, j4, List.drop_eq_nil_of_le (show l.length ≤ k by omega), List.drop_eq_nil_of_le (show m.length ≤ k by omega)]; done)
end Dem
end
