/- JOINED TEXTS: Co29, PlW, PlX, Pl7. -/
import Derived.Test.YtegnablmooijmaaDoorJ28
import Derived.Test.YtegnablmooijmaaDoorJ31
set_option linter.unusedSimpArgs false
set_option linter.unusedVariables false
section
/- CONTRACTS: the law of what stays right. -/
open Go Dem Go.Proofs
namespace Dem
set_option maxRecDepth 100000
set_option maxHeartbeats 4000000
variable {t : Th}
theorem c_vaddE (ht : TT t) (a0 a1 a2 a3 b0 b1 b2 b3 : Int) : FC 28 [V4 a0 a1 a2 a3, V4 b0 b1 b2 b3] [] (.ret (EVB (t _ fun _ => vadd ⟨a0, a1, a2, a3⟩ ⟨b0, b1, b2, b3⟩))) [] := by
  simp only [ht]; exact c_vadd ht _ _ _ _ _ _ _ _ rfl
theorem c_poolRight (ht : TT t) {l : List Laid} {es : List (List D)} (hes : es = l.map Laid.cells) (hu : ∀ x ∈ l, x.u) (hl : l.length < 9223372036854775808) :
    FC 8 [SL es] [] (.ret (BL true)) [] := by
  obtain ⟨⟨nl, pl⟩, hP⟩ : ∃ P, P = fillS l := ⟨_, rfl⟩
  have oks := (fillS_ok l).1
  have okw := (fillS_ok l).2
  have lim := fill_lim l
  rw [← hP] at oks okw lim
  have bn : nl.length ≤ 16 := oks.most
  have bp : pl.length ≤ 120 := lim.places
  have sm : ∀ x ∈ nl, x.sm := lim.sm
  have hR : pright ⟨nl, pl⟩ = true := pright_iff.2 oks
  refine fc' ht (bx0 := []) Tryd.func8 (c := _) rfl rfl (N := 110) rfl (rs := _) rfl (n := 0) rfl rfl ?_
  cbv
  have len_es : es.length = l.length := by rw [hes, List.length_map]
  refine callF trivial (c_examples ht) trivial rfl rfl ?_
  cbv
  refine condI (fun h0 => ?_) (fun h0 => ?_)
  · simp [ht, ncast, len_es] at h0
  · simp [ht, ncast, len_es] at h0
    cbv
    refine callES trivial (c_filledE ht (by assumption) (by assumption) (by assumption)) trivial rfl rfl rfl (fun r1 er1 => ?_)
    simp only [ht] at er1
    rw [← hP] at er1
    subst r1
    cbv
    obtain ⟨J2, hJ2⟩ : ∃ J2 : Nat → Int × List (List D) × List (List D) → Prop, ∀ n i u v, J2 n (i, u, v) ↔ (∃ k : Nat, i = k ∧ k + n = nl.length ∧ u = nl.map Node.cells ∧ v = pl.map Place.cells) := ⟨fun n v => match v with | (i, u, v) => (∃ k : Nat, i = k ∧ k + n = nl.length ∧ u = nl.map Node.cells ∧ v = pl.map Place.cells), fun _ _ _ _ => Iff.rfl⟩
    refine loopU ⟨[3, 4, 5], [], []⟩ (σ := Int × List (List D) × List (List D)) (fun v => [(5, .d (.int .i64 (t _ fun _ => v.1)))]) (fun v => [(0, .var [.d (.sl (t _ fun _ => v.2.1)), .d (.sl (t _ fun _ => v.2.2))])]) J2 ?_
    cbv
    refine loopIn ⟨nl.length, (_, _, _), (hJ2 _ _ _ _).2 ?_, by simp only [ht]; rfl, ?_⟩
    · exact ⟨0, rfl, by omega, rfl, rfl⟩
    rintro n ⟨i, u, v⟩ hj
    replace hj := (hJ2 _ _ _ _).1 hj
    obtain ⟨k, rfl, j2, j3, j4⟩ := hj
    have len_u : u.length = nl.length := by rw [j3, List.length_map]
    have len_v : v.length = pl.length := by rw [j4, List.length_map]
    have hmx : k < nl.length → ∃ x, nl[k]? = some x := fun h => ⟨_, List.getElem?_eq_getElem h⟩
    cbv
    refine condI (fun h3 => ?_) (fun h3 => ?_)
    · simp [ht, ncast, len_es, len_u, len_v] at h3
      cbv
      obtain ⟨xn, mxn⟩ := hmx (by assumption)
      obtain ⟨J4, hJ4⟩ : ∃ J4 : Nat → Int × Int × Int × Int × Int → Prop, ∀ m p a b c d, J4 m (p, a, b, c, d) ↔ (∃ q : Nat, p = q ∧ q + m = pl.length ∧ (⟨a, b, c, d⟩ : Vec) = vused xn.name (pl.take q)) := ⟨fun m v => match v with | (p, a, b, c, d) => (∃ q : Nat, p = q ∧ q + m = pl.length ∧ (⟨a, b, c, d⟩ : Vec) = vused xn.name (pl.take q)), fun _ _ _ _ _ _ => Iff.rfl⟩
      refine loopU ⟨[3, 4, 5, 6, 7], [], []⟩ (σ := Int × Int × Int × Int × Int) (fun v => [(7, .d (.int .i64 (t _ fun _ => v.1)))]) (fun v => [(1, .var [.d (.int .u64 (t _ fun _ => v.2.1)), .d (.int .u64 (t _ fun _ => v.2.2.1)), .d (.int .u64 (t _ fun _ => v.2.2.2.1)), .d (.int .u64 (t _ fun _ => v.2.2.2.2))])]) J4 ?_
      cbv
      refine loopIn ⟨pl.length, (_, _, _, _, _), (hJ4 _ _ _ _ _ _).2 ?_, by simp only [ht]; rfl, ?_⟩
      · exact ⟨0, rfl, by omega, rfl⟩
      rintro m ⟨p, a, b, c, d⟩ hj
      replace hj := (hJ4 _ _ _ _ _ _).1 hj
      obtain ⟨q, rfl, i2, i3⟩ := hj
      obtain ⟨fv, hfv⟩ : ∃ fv, fv = pfree xn.name nl pl := ⟨_, rfl⟩
      have hok : fv.2 = true := by rw [hfv]; exact oks.free _ (List.mem_of_getElem? mxn)
      have hall : pl.length ≤ q → vadd ⟨a, b, c, d⟩ fv.1 = (xn.cap, true) ∧ vfits ⟨a, b, c, d⟩ xn.cap = true := fun h => by have e := vused_all oks okw (List.mem_of_getElem? mxn); rw [i3, hfv, List.take_of_length_le h]; exact e
      cbv
      refine condI (fun h5 => ?_) (fun h5 => ?_)
      · simp [ht, ncast, len_es, len_u, len_v] at h5
        cbv
        refine drawI [false, false, false, false, false, false, false, false, false, false, false, false, true] (by kernel_rfl) (by kernel_rfl) ?_
        cbv
        refine gI (by simp [ht, pickI_iff]) ?_
        refine gI (by simp [ht, pickI_iff]) ?_
        refine gI (by simp [ht, pickI_iff]) ?_
        (refine idxM ht (l := pl) (cells := Place.cells) (cT := Place.cellsT t) (by simp only [ht]; exact j4) (by (simp only [ht, ncast]; omega)) (by (simp only [ht, ncast]; omega)) (fun _ => rfl) (fun _ => (by simp only [ht, Place.cellsT] <;> rfl)) (fun xp mxp => ?_); simp only [ht] at mxp; replace mxp : pl[q]? = some xp := mxp; obtain ⟨s2, hs2⟩ : ∃ s2, s2 = vused xn.name (pl.take (q + 1)) := ⟨_, rfl⟩; have hst : xp.node = xn.name → vadd ⟨a, b, c, d⟩ xp.v = (s2, true) := (fun h => by rw [i3, hs2]; exact vused_step oks okw (List.mem_of_getElem? mxn) mxp h); have hskip : ¬ xp.node = xn.name → vused xn.name (pl.take (q + 1)) = vused xn.name (pl.take q) := (fun h => by simp only [vused, here_take mxp, if_neg h, List.append_nil]))
        cbv
        refine gI (by simp [ht, pickI_iff]) ?_
        refine gI (by simp [ht, pickI_iff]) ?_
        refine gI (by simp [ht, pickI_iff]) ?_
        refine gI (by simp [ht, pickI_iff]) ?_
        refine gI (by simp [ht, pickI_iff]) ?_
        (refine idxK ht (l := nl) (cells := Node.cells) (cT := Node.cellsT t) (by simp only [ht]; exact j3) mxn (by simp only [ht]) (fun _ => rfl) (fun _ => (by simp only [ht, Node.cellsT]; done)) ?_)
        cbv
        refine gI (by simp [ht, pickI_iff]) ?_
        refine gI (by simp [ht, pickI_iff]) ?_
        refine condI (fun h6 => ?_) (fun h6 => ?_)
        · simp [ht, ncast, len_es, len_u, len_v] at h6
          cbv
          refine loopC (_, _, _, _, _) (by simp only [ht]; rfl) (m - 1) ?_ ((hJ4 _ _ _ _ _ _).2 ?_)
          · omega
          · simp only [ht, ncast]
            first | exact ⟨q + 1, i64_upN (by ((try simp only [ncast] at *); omega)), by ((try simp only [ncast] at *); omega), hs2⟩ | exact ⟨q + 1, i64_upN (by ((try simp only [ncast] at *); omega)), by ((try simp only [ncast] at *); omega), i3.trans (hskip (by assumption)).symm⟩
        · simp [ht, ncast, len_es, len_u, len_v] at h6
          cbv
          refine drawL [3] [3, 8, 9, 10] [false, false, false, false, false, false, false, false, false, false, false, false, true, true] (by kernel_rfl) (by kernel_rfl) (by kernel_rfl) (by kernel_rfl) (by kernel_rfl) (by kernel_rfl) ?_
          cbv
          refine gI (by simp [ht, pickI_iff]) ?_
          refine gI (by simp [ht, pickI_iff]) ?_
          refine gI (by simp [ht, pickI_iff]) ?_
          refine gI (by simp [ht, pickI_iff]) ?_
          (refine idxK ht (l := pl) (cells := Place.cells) (cT := Place.cellsT t) (by simp only [ht]; exact j4) mxp (by simp only [ht]) (fun _ => rfl) (fun _ => (by simp only [ht, Place.cellsT] <;> rfl)) ?_)
          cbv
          refine gI (by simp [ht, pickI_iff]) ?_
          refine gI (by simp [ht, pickI_iff]) ?_
          refine .inl ?_
          refine callEQ (fun g7 => ⟨trivial, trivial, c_vaddE ht _ _ _ _ _ _ _ _⟩) rfl rfl (fun r8 er8 => ?_)
          simp only [ht] at er8
          first | replace er8 := er8.trans (hst (by assumption)) | replace er8 := er8.trans (hall (by assumption)).1
          subst r8
          cbv
          refine gI (by simp [ht, pickI_iff]) ?_
          refine gI (by simp [ht, pickI_iff]) ?_
          refine gI (by simp [ht, pickI_iff]) ?_
          refine condI (fun h9 => ?_) (fun h9 => ?_)
          · simp [ht, ncast, len_es, len_u, len_v] at h9
          · simp [ht, ncast, len_es, len_u, len_v] at h9
            cbv
            refine loopC (_, _, _, _, _) (by simp only [ht]; rfl) (m - 1) ?_ ((hJ4 _ _ _ _ _ _).2 ?_)
            · omega
            · simp only [ht, ncast]
              first | exact ⟨q + 1, i64_upN (by ((try simp only [ncast] at *); omega)), by ((try simp only [ncast] at *); omega), hs2⟩ | exact ⟨q + 1, i64_upN (by ((try simp only [ncast] at *); omega)), by ((try simp only [ncast] at *); omega), i3.trans (hskip (by assumption)).symm⟩
      · simp [ht, ncast, len_es, len_u, len_v] at h5
        cbv
        refine drawL [3] [3, 8, 9, 10] [false, false, false, false, false, false, false, false, false, false, false, false, true, true] (by kernel_rfl) (by kernel_rfl) (by kernel_rfl) (by kernel_rfl) (by kernel_rfl) (by kernel_rfl) ?_
        cbv
        refine gI (by simp [ht, pickI_iff]) ?_
        refine gI (by simp [ht, pickI_iff]) ?_
        refine gI (by simp [ht, pickI_iff]) ?_
        refine gI (by simp [ht, pickI_iff]) ?_
        (refine idxK ht (l := nl) (cells := Node.cells) (cT := Node.cellsT t) (by simp only [ht]; exact j3) mxn (by simp only [ht]) (fun _ => rfl) (fun _ => (by simp only [ht, Node.cellsT]; done)) ?_)
        cbv
        refine gI (by simp [ht, pickI_iff]) ?_
        refine gI (by simp [ht, pickI_iff]) ?_
        refine .inl ?_
        refine callEQ (fun g10 => ⟨trivial, trivial, c_freeE ht _ (by (simp only [ht]; ((try simp only [ncast] at *); omega))) (by (simp only [ht]; ((try simp only [ncast] at *); omega))) (by omega) (by omega)⟩) rfl rfl (fun r11 er11 => ?_)
        simp only [ht] at er11
        rw [← hfv] at er11
        subst r11
        cbv
        refine gI (by simp [ht, pickI_iff]) ?_
        refine gI (by simp [ht, pickI_iff]) ?_
        refine gI (by simp [ht, pickI_iff]) ?_
        refine callEF trivial (c_vaddE ht _ _ _ _ _ _ _ _) trivial rfl rfl (fun r12 er12 => ?_)
        simp only [ht] at er12
        first | replace er12 := er12.trans (hst (by assumption)) | replace er12 := er12.trans (hall (by assumption)).1
        subst r12
        cbv
        refine drawI [true, true, true, true, true, true, true, false, false, false, false, false, false, false, true, true, true, false, false, false, false, false, false, false, true, true, true] (by kernel_rfl) (by kernel_rfl) ?_
        cbv
        refine gI (by simp [ht, pickI_iff]) ?_
        refine gI (by simp [ht, pickI_iff]) ?_
        refine pI (by simp [ht, pickI_iff]) ?_
        refine gI (by simp [ht, pickI_iff]) ?_
        refine gI (by simp [ht, pickI_iff]) ?_
        refine gI (by simp [ht, pickI_iff]) ?_
        refine gI (by simp [ht, pickI_iff]) ?_
        (refine idxKG ht (l := nl) (cells := Node.cells) (cT := Node.cellsT t) (by simp only [ht]; exact j3) mxn (by simp only [ht]) (fun _ => rfl) (fun _ => (by simp only [ht, Node.cellsT]; done)) (fun g => by first | exact ⟨g, trivial⟩ | exact ⟨g, g, trivial⟩) ?_)
        cbv
        refine gI (by simp [ht, pickI_iff]) ?_
        refine gI (by simp [ht, pickI_iff]) ?_
        refine gI (by simp [ht, pickI_iff]) ?_
        refine pI (by simp [ht, pickI_iff]) ?_
        refine gI (by simp [ht, pickI_iff]) ?_
        refine gI (by simp [ht, pickI_iff]) ?_
        refine gI (by simp [ht, pickI_iff]) ?_
        refine gI (by simp [ht, pickI_iff]) ?_
        (refine idxKG ht (l := nl) (cells := Node.cells) (cT := Node.cellsT t) (by simp only [ht]; exact j3) mxn (by simp only [ht]) (fun _ => rfl) (fun _ => (by simp only [ht, Node.cellsT]; done)) (fun g => by first | exact ⟨g, trivial⟩ | exact ⟨g, g, trivial⟩) ?_)
        cbv
        refine gI (by simp [ht, pickI_iff]) ?_
        refine gI (by simp [ht, pickI_iff]) ?_
        refine callEQ (fun g13 => ⟨by simp [ht] at g13 ⊢; exact g13, trivial, c_vfitsE ht _ _ _ _ _ _ _ _⟩) rfl rfl (fun r14 er14 => ?_)
        simp only [ht] at er14
        replace er14 := er14.trans (hall (by assumption)).2
        subst r14
        cbv
        refine gI (by simp [ht, pickI_iff]) ?_
        refine pI (by simp [ht, pickI_iff]) ?_
        refine condI (fun h15 => ?_) (fun h15 => ?_)
        · simp [ht, ncast, len_es, len_u, len_v] at h15
          cbv
          refine retF trivial trivial rfl rfl rfl ?_
          (exfalso; simp_all; done)
        · simp [ht, ncast, len_es, len_u, len_v] at h15
          cbv
          refine loopC (_, _, _) (by simp only [ht]; rfl) (n - 1) ?_ ((hJ2 _ _ _ _).2 ?_)
          · omega
          · simp only [ht, ncast]
            exact ⟨k + 1, i64_upN (by ((try simp only [ncast] at *); omega)), by ((try simp only [ncast] at *); omega), j3, j4⟩
    · simp [ht, ncast, len_es, len_u, len_v] at h3
      cbv
      refine gI (by simp [ht, pickI_iff]) ?_
      refine callEQ (fun g16 => ⟨trivial, trivial, c_prightE ht (by (simp only [ht]; ((try simp only [ncast] at *); omega))) (by (simp only [ht]; ((try simp only [ncast] at *); omega))) (by omega) (by omega) (by assumption)⟩) rfl rfl (fun r17 er17 => ?_)
      simp only [ht] at er17
      replace er17 := er17.trans hR
      subst r17
      cbv
      refine pI (by simp [ht, pickI_iff]) ?_
      refine retF trivial trivial rfl rfl rfl ?_
      (simp [ht]; done)
end Dem
end
section
/- PLAIN LAW: what is put is got where it stands; no beginning of it is. -/
open Go
namespace Dem
structure Law {α : Type} (get : Str → Int → GotX α) (p : Str) (x : α) : Prop where
  whole : ∀ (s a b : Str) (n : Int), s = a ++ (p ++ b) → n = a.length → get s n = ⟨x, n + p.length, true⟩
  torn : ∀ (s a : Str) (n : Int) (k : Nat), k < p.length → s = a ++ p.take k → n = a.length → (get s n).ok = false
theorem take_parts (p q : Str) (k : Nat) : (p ++ q).take k = if k < p.length then p.take k else p ++ q.take (k - p.length) := by
  rw [List.take_append]
  split
  · rename_i h; rw [show k - p.length = 0 by omega]; simp
  · rename_i h; rw [List.take_of_length_le (by omega)]
/- numbers -/
theorem wputF_pos : ∀ (n : Nat) (u : Int), 0 < (wputF n u).length
  | 0, _ => by simp [wputF]
  | n + 1, u => by unfold wputF; split <;> simp
theorem ofNat_lt {k : Nat} (h : k < 256) : (UInt8.ofNat k).toNat = k := by simp; omega
theorem wscan_put (b : Str) : ∀ (n j : Nat) (u acc : Int), n + j = 9 → 0 ≤ u → u * 2 ^ (7 * j) < 18446744073709551616 → wscan (n + 1) j (wputF n u ++ b) acc = some (acc + u * 2 ^ (7 * j), j + (wputF n u).length)
  | 0, j, u, acc, hj, h0, hu => by
    obtain rfl : j = 9 := by omega
    have hu2 : u < 2 := by
      have : (2 : Int) ^ (7 * 9) = 9223372036854775808 := by decide
      rw [this] at hu; omega
    have hb : (UInt8.ofNat (u % 256).toNat).toNat = u.toNat := by rw [ofNat_lt (by omega)]; omega
    simp only [wputF, List.singleton_append, wscan, hb]
    rw [if_pos (by omega)]
    simp only [wor, hb, List.length_singleton]
    have e : u = 0 ∨ u = 1 := by omega
    rcases e with rfl | rfl <;> simp
  | n + 1, j, u, acc, hj, h0, hu => by
    have hp : (0 : Int) < 2 ^ (7 * j) := Int.pow_pos (by decide)
    unfold wputF
    split
    · rename_i h
      have hb : (UInt8.ofNat (u.toNat % 128 + 128)).toNat = u.toNat % 128 + 128 := ofNat_lt (by omega)
      simp only [List.cons_append, wscan, hb]
      rw [if_neg (by omega)]
      have hpow : (2 : Int) ^ (7 * (j + 1)) = 2 ^ (7 * j) * 128 := by rw [show 7 * (j + 1) = 7 * j + 7 by omega, Int.pow_add]; rfl
      have hdm : u = 128 * (u / 128) + u % 128 := by omega
      have hle : u / 128 * 2 ^ (7 * (j + 1)) ≤ u * 2 ^ (7 * j) := by
        rw [hpow, show u / 128 * (2 ^ (7 * j) * 128) = (128 * (u / 128)) * 2 ^ (7 * j) by rw [Int.mul_comm (2 ^ (7 * j)) 128, ← Int.mul_assoc, Int.mul_comm (u / 128) 128]]
        exact Int.mul_le_mul_of_nonneg_right (by omega) (Int.le_of_lt hp)
      rw [wscan_put b n (j + 1) (u / 128) _ (by omega) (by omega) (by omega)]
      have hw : wor acc (UInt8.ofNat (u.toNat % 128 + 128)) j = acc + u % 128 * 2 ^ (7 * j) := by
        simp only [wor, hb]
        have hm : ((u.toNat % 128 + 128) % 128) = u.toNat % 128 := by omega
        rw [hm]
        have hc : ((u.toNat % 128 * 2 ^ (7 * j) : Nat) : Int) = u % 128 * 2 ^ (7 * j) := by
          rw [Int.natCast_mul, Int.natCast_pow, Int.natCast_emod, Int.toNat_of_nonneg h0]; rfl
        have hlt : u % 128 * 2 ^ (7 * j) ≤ u * 2 ^ (7 * j) := Int.mul_le_mul_of_nonneg_right (by omega) (Int.le_of_lt hp)
        rw [Nat.mod_eq_of_lt (by omega), hc]
      rw [hw, hpow]
      simp only [Option.some.injEq, Prod.mk.injEq, List.length_cons]
      refine ⟨?_, by omega⟩
      rw [Int.add_assoc]
      congr 1
      have : u * 2 ^ (7 * j) = (128 * (u / 128) + u % 128) * 2 ^ (7 * j) := by rw [← hdm]
      rw [this, Int.add_mul, Int.add_comm, Int.mul_comm (2 ^ (7 * j)) 128, ← Int.mul_assoc, Int.mul_comm (u / 128) 128]
    · rename_i h
      have hb : (UInt8.ofNat (u % 256).toNat).toNat = u.toNat := by rw [ofNat_lt (by omega)]; omega
      simp only [List.singleton_append, wscan, hb]
      rw [if_pos (by omega)]
      simp only [List.length_singleton, Option.some.injEq, Prod.mk.injEq, and_true]
      simp only [wor, hb]
      rw [Nat.mod_eq_of_lt (show u.toNat < 128 by omega)]
      have hc : ((u.toNat * 2 ^ (7 * j) : Nat) : Int) = u * 2 ^ (7 * j) := by rw [Int.natCast_mul, Int.natCast_pow, Int.toNat_of_nonneg h0]; rfl
      rw [Nat.mod_eq_of_lt (by omega), hc]
theorem wscan_torn : ∀ (n j m k : Nat) (u acc : Int), 0 ≤ u → k < (wputF n u).length → wscan m j ((wputF n u).take k) acc = none
  | n, j, 0, k, u, acc, _, _ => by simp [wscan]
  | 0, j, m + 1, k, u, acc, _, hk => by
    simp only [wputF, List.length_singleton] at hk ⊢
    obtain rfl : k = 0 := by omega
    simp [wscan]
  | n + 1, j, m + 1, k, u, acc, h0, hk => by
    unfold wputF at hk ⊢
    split
    · rename_i h
      rw [if_pos h] at hk
      cases k with
      | zero => simp [wscan]
      | succ k =>
        have hb : (UInt8.ofNat (u.toNat % 128 + 128)).toNat = u.toNat % 128 + 128 := ofNat_lt (by omega)
        simp only [List.take_succ_cons, wscan, hb]
        rw [if_neg (by omega)]
        exact wscan_torn n (j + 1) m k (u / 128) _ (by omega) (by simpa using hk)
    · rename_i h
      rw [if_neg h] at hk
      simp only [List.length_singleton] at hk
      obtain rfl : k = 0 := by omega
      simp [wscan]
def wgetX (s : Str) (p : Int) : GotX Int := ⟨(wget s p).u, (wget s p).next, (wget s p).ok⟩
theorem num_law {u : Int} (h0 : 0 ≤ u) (h1 : u < 18446744073709551616) : Law wgetX (wput u) u := by
  refine ⟨fun s a b n hs hn => ?_, fun s a n k hk hs hn => ?_⟩
  · subst hs hn
    have hd : (a ++ (wput u ++ b)).drop ((a.length : Int)).toNat = wput u ++ b := by simp
    have hl := wputF_pos 9 u
    have hf : wfound (a ++ (wput u ++ b)) (a.length : Int) = some (u, (wput u).length) := by
      unfold wfound
      rw [if_neg (by simp only [List.length_append]; unfold wput; omega), hd, wput, wscan_put b 9 0 u 0 (by omega) h0 (by simpa using h1)]
      simp
    unfold wgetX wget
    rw [hf]
    simp only [hd, List.take_left]
    rfl
  · subst hs hn
    have hf : wfound (a ++ (wput u).take k) (a.length : Int) = none := by
      unfold wfound
      split
      · rfl
      · rw [show (a ++ (wput u).take k).drop ((a.length : Int)).toNat = (wput u).take k by simp]
        exact wscan_torn 9 0 10 k u 0 h0 hk
    unfold wgetX wget
    rw [hf]
    rfl
theorem num_at {u : Int} (h0 : 0 ≤ u) (h1 : u < 18446744073709551616) {s a b : Str} {n : Int} (hs : s = a ++ (wput u ++ b)) (hn : n = a.length) : wget s n = ⟨u, n + (wput u).length, true⟩ := by
  have := (num_law h0 h1).whole s a b n hs hn
  unfold wgetX at this
  injection this with e1 e2 e3
  cases h : wget s n; simp_all
theorem num_torn {u : Int} (h0 : 0 ≤ u) (h1 : u < 18446744073709551616) {s a : Str} {n : Int} {k : Nat} (hk : k < (wput u).length) (hs : s = a ++ (wput u).take k) (hn : n = a.length) : (wget s n).ok = false :=
  (num_law h0 h1).torn s a n k hk hs hn
/- texts -/
def wgetTextX (m : Int) (s : Str) (p : Int) : GotX Str := ⟨(wgetText s p m).t, (wgetText s p m).next, (wgetText s p m).ok⟩
theorem text_law {t : Str} {m : Int} (ht : (t.length : Int) ≤ m) (hl : t.length < 18446744073709551616) : Law (wgetTextX m) (wputText t) t := by
  refine ⟨fun s a b n hs hn => ?_, fun s a n k hk hs hn => ?_⟩
  · have hg := num_at (u := t.length) (by omega) (by omega) (s := s) (a := a) (b := t ++ b) (n := n) (by rw [hs, wputText]; simp) hn
    unfold wgetTextX wgetText
    rw [hg]
    have hlen : s.length = a.length + ((wput t.length).length + (t.length + b.length)) := by rw [hs, wputText]; simp
    simp only
    rw [if_pos ⟨trivial, by omega, ht, by rw [hn, hlen]; omega⟩]
    have hd : (s.drop (n + ((wput t.length).length : Int)).toNat).take (t.length : Int).toNat = t := by
      rw [hs, hn, show ((a.length : Int) + ((wput t.length).length : Int)).toNat = (a ++ wput t.length).length by simp; omega, wputText]
      rw [show a ++ (wput t.length ++ t ++ b) = (a ++ wput t.length) ++ (t ++ b) by simp, List.drop_left, Int.toNat_natCast, List.take_left]
    rw [hd]
    simp only [wputText, List.length_append]
    congr 1
    omega
  · unfold wgetTextX wgetText
    rw [wputText, List.length_append] at hk
    rw [wputText, take_parts] at hs
    split at hs
    · rename_i hk1
      rw [if_neg]
      · rfl
      · rintro ⟨g, _⟩; rw [num_torn (u := t.length) (by omega) (by omega) hk1 hs hn] at g; cases g
    · rename_i hk1
      have hg := num_at (u := t.length) (by omega) (by omega) (s := s) (a := a) (b := t.take (k - (wput t.length).length)) (n := n) hs hn
      rw [hg]
      simp only
      rw [if_neg]
      · rfl
      · rintro ⟨_, _, _, g⟩
        rw [hs, hn] at g
        simp only [List.length_append, List.length_take] at g
        omega
theorem text_at {t : Str} {m : Int} (ht : (t.length : Int) ≤ m) (hl : t.length < 18446744073709551616) {s a b : Str} {n : Int} (hs : s = a ++ (wputText t ++ b)) (hn : n = a.length) : wgetText s n m = ⟨t, n + (wputText t).length, true⟩ := by
  have := (text_law ht hl).whole s a b n hs hn
  unfold wgetTextX at this
  injection this with e1 e2 e3
  cases h : wgetText s n m; simp_all
theorem text_torn {t : Str} {m : Int} (ht : (t.length : Int) ≤ m) (hl : t.length < 18446744073709551616) {s a : Str} {n : Int} {k : Nat} (hk : k < (wputText t).length) (hs : s = a ++ (wputText t).take k) (hn : n = a.length) : (wgetText s n m).ok = false :=
  (text_law ht hl).torn s a n k hk hs hn
end Dem
end
section
/- PLAIN LAW: labels, nodes, places and pools as bytes. -/
open Go
namespace Dem
/- amounts -/
def gvecX (s : Str) (p : Int) : GotX Vec := ⟨(vget s p).v, (vget s p).next, (vget s p).ok⟩
theorem vec_law {v : Vec} (hv : v.w) : Law gvecX (vput v) v := by
  obtain ⟨a0, b0, c0, d0⟩ := v
  rw [Vec.w, lt4] at hv
  simp only [Vec.at_] at hv
  obtain ⟨⟨h1, g1⟩, ⟨h2, g2⟩, ⟨h3, g3⟩, h4, g4⟩ := hv
  refine ⟨fun s a b n hs hn => ?_, fun s a n k hk hs hn => ?_⟩
  · have e1 := num_at h1 g1 (s := s) (a := a) (b := wput b0 ++ (wput c0 ++ (wput d0 ++ b))) (n := n) (by rw [hs, vput]; simp) hn
    have e2 := num_at h2 g2 (s := s) (a := a ++ wput a0) (b := wput c0 ++ (wput d0 ++ b)) (n := n + (wput a0).length) (by rw [hs, vput]; simp) (by rw [hn]; simp)
    have e3 := num_at h3 g3 (s := s) (a := a ++ wput a0 ++ wput b0) (b := wput d0 ++ b) (n := n + (wput a0).length + (wput b0).length) (by rw [hs, vput]; simp) (by rw [hn]; simp; omega)
    have e4 := num_at h4 g4 (s := s) (a := a ++ wput a0 ++ wput b0 ++ wput c0) (b := b) (n := n + (wput a0).length + (wput b0).length + (wput c0).length) (by rw [hs, vput]; simp) (by rw [hn]; simp; omega)
    simp only [gvecX, vget, vgetGo, e1, e2, e3, e4, if_true, Vec.put, vput, List.length_append]
    congr 1
    omega
  · have hk' : k < (wput a0).length + ((wput b0).length + ((wput c0).length + (wput d0).length)) := by simp [vput] at hk; omega
    rw [show vput ⟨a0, b0, c0, d0⟩ = wput a0 ++ (wput b0 ++ (wput c0 ++ wput d0)) by simp [vput], take_parts] at hs
    simp only [gvecX, vget]
    split at hs
    · rename_i hk1
      rw [vgetGo, num_torn h1 g1 hk1 hs hn]; rfl
    · rename_i hk1
      have e1 := num_at h1 g1 hs hn
      rw [vgetGo, e1]
      simp only [if_true]
      have hn2 : n + ((wput a0).length : Int) = ((a ++ wput a0).length : Nat) := by rw [hn]; simp
      rw [← List.append_assoc, take_parts] at hs
      split at hs
      · rename_i hk2
        rw [vgetGo, num_torn h2 g2 hk2 hs hn2]; rfl
      · rename_i hk2
        have e2 := num_at h2 g2 hs hn2
        rw [vgetGo, e2]
        simp only [if_true]
        have hn3 : n + ((wput a0).length : Int) + ((wput b0).length : Int) = ((a ++ wput a0 ++ wput b0).length : Nat) := by rw [hn]; simp; omega
        rw [← List.append_assoc, take_parts] at hs
        split at hs
        · rename_i hk3
          rw [vgetGo, num_torn h3 g3 hk3 hs hn3]; rfl
        · rename_i hk3
          have e3 := num_at h3 g3 hs hn3
          rw [vgetGo, e3]
          simp only [if_true]
          have hn4 : n + ((wput a0).length : Int) + ((wput b0).length : Int) + ((wput c0).length : Int) = ((a ++ wput a0 ++ wput b0 ++ wput c0).length : Nat) := by rw [hn]; simp; omega
          rw [← List.append_assoc] at hs
          rw [vgetGo, num_torn h4 g4 (by omega) hs hn4]; rfl
theorem vec_at {v : Vec} (hv : v.w) {s a b : Str} {n : Int} (hs : s = a ++ (vput v ++ b)) (hn : n = a.length) : vget s n = ⟨v, n + (vput v).length, true⟩ := by
  have := (vec_law hv).whole s a b n hs hn
  unfold gvecX at this
  injection this with e1 e2 e3
  cases h : vget s n; simp_all
theorem vec_torn {v : Vec} (hv : v.w) {s a : Str} {n : Int} {k : Nat} (hk : k < (vput v).length) (hs : s = a ++ (vput v).take k) (hn : n = a.length) : (vget s n).ok = false := (vec_law hv).torn s a n k hk hs hn
/- lists -/
theorem some_whole {α : Type} {get : Str → Int → GotX α} {put : α → Str} : ∀ (l : List α), (∀ x ∈ l, Law get (put x) x) → ∀ (s a b : Str) (n : Int) (acc : List α), s = a ++ ((l.map put).flatten ++ b) → n = a.length →
    gsome (get s) l.length acc n = ⟨acc ++ l, n + ((l.map put).flatten.length : Nat), true⟩
  | [], _, s, a, b, n, acc, _, _ => by simp [gsome]
  | x :: l, hl, s, a, b, n, acc, hs, hn => by
    have e := (hl x (by simp)).whole s a ((l.map put).flatten ++ b) n (by rw [hs]; simp) hn
    rw [List.length_cons, gsome, e]
    simp only [if_true]
    rw [some_whole l (fun y hy => hl y (by simp [hy])) s (a ++ put x) b _ _ (by rw [hs]; simp) (by rw [hn]; simp)]
    simp; omega
theorem some_torn {α : Type} {get : Str → Int → GotX α} {put : α → Str} : ∀ (l : List α), (∀ x ∈ l, Law get (put x) x) → ∀ (s a : Str) (n : Int) (k : Nat) (acc : List α), k < (l.map put).flatten.length → s = a ++ (l.map put).flatten.take k → n = a.length →
    (gsome (get s) l.length acc n).ok = false
  | [], _, s, a, n, k, acc, hk, _, _ => by simp at hk
  | x :: l, hl, s, a, n, k, acc, hk, hs, hn => by
    rw [List.map_cons, List.flatten_cons, take_parts] at hs
    rw [List.map_cons, List.flatten_cons, List.length_append] at hk
    rw [List.length_cons, gsome]
    split at hs
    · rename_i hk1
      rw [(hl x (by simp)).torn s a n k hk1 hs hn]; rfl
    · rename_i hk1
      rw [(hl x (by simp)).whole s a _ n hs hn]
      simp only [if_true]
      exact some_torn l (fun y hy => hl y (by simp [hy])) s (a ++ put x) _ (k - (put x).length) _ (by omega) (by rw [hs]; simp) (by rw [hn]; simp)
theorem all_law {α : Type} {get : Str → Int → GotX α} {put : α → Str} {l : List α} {m : Int} (hl : ∀ x ∈ l, Law get (put x) x) (hm : (l.length : Int) ≤ m) (hb : l.length < 18446744073709551616) : Law (fun s p => gall s p m (get s)) (wput l.length ++ (l.map put).flatten) l := by
  refine ⟨fun s a b n hs hn => ?_, fun s a n k hk hs hn => ?_⟩
  · have e := num_at (u := l.length) (by omega) (by omega) (s := s) (a := a) (b := (l.map put).flatten ++ b) (n := n) (by rw [hs]; simp) hn
    simp only [gall, e]
    rw [if_pos ⟨trivial, hm⟩, Int.toNat_natCast, some_whole l hl s (a ++ wput l.length) b _ _ (by rw [hs]; simp) (by rw [hn]; simp)]
    simp only [List.nil_append, List.length_append]
    congr 1
    omega
  · rw [take_parts] at hs
    rw [List.length_append] at hk
    simp only [gall]
    split at hs
    · rename_i hk1
      rw [if_neg]
      · rfl
      · rintro ⟨g, _⟩; rw [num_torn (u := l.length) (by omega) (by omega) hk1 hs hn] at g; cases g
    · rename_i hk1
      have e := num_at (u := l.length) (by omega) (by omega) hs hn
      rw [e]
      simp only
      rw [if_pos ⟨trivial, hm⟩, Int.toNat_natCast]
      exact some_torn l hl s (a ++ wput l.length) _ (k - (wput l.length).length) _ (by omega) (by rw [hs]; simp) (by rw [hn]; simp)
/- labels -/
theorem pair_law {q : Pair} (h1 : q.key.length ≤ 32) (h2 : q.value.length ≤ 32) : Law gpair (lput1 q) q := by
  refine ⟨fun s a b n hs hn => ?_, fun s a n k hk hs hn => ?_⟩
  · have e1 := text_at (t := q.key) (m := 32) (by omega) (by omega) (s := s) (a := a) (b := wputText q.value ++ b) (n := n) (by rw [hs, lput1]; simp) hn
    have e2 := text_at (t := q.value) (m := 32) (by omega) (by omega) (s := s) (a := a ++ wputText q.key) (b := b) (n := n + (wputText q.key).length) (by rw [hs, lput1]; simp) (by rw [hn]; simp)
    simp only [gpair, e1, e2, if_true, lput1, List.length_append]
    congr 1
    omega
  · rw [lput1, take_parts] at hs
    rw [lput1, List.length_append] at hk
    simp only [gpair]
    split at hs
    · rename_i hk1
      have e := text_torn (t := q.key) (m := 32) (by omega) (by omega) hk1 hs hn
      rw [e]
      simp [e]
    · rename_i hk1
      have e1 := text_at (t := q.key) (m := 32) (by omega) (by omega) hs hn
      rw [e1]
      simp only [if_true]
      exact text_torn (t := q.value) (m := 32) (by omega) (by omega) (k := k - (wputText q.key).length) (by omega) (a := a ++ wputText q.key) (by rw [hs]; simp) (by rw [hn]; simp)
theorem labels_law {l : List Pair} (hr : lright l = true) (h : ∀ q ∈ l, q.key.length ≤ 32 ∧ q.value.length ≤ 32) : Law lget (lput l) l := by
  have hl : l.length ≤ 8 := by unfold lright at hr; simp only [Bool.and_eq_true, decide_eq_true_eq] at hr; exact hr.2
  have L := all_law (get := gpair) (put := lput1) (l := l) (m := 8) (fun q hq => pair_law (h q hq).1 (h q hq).2) (by omega) (by omega)
  refine ⟨fun s a b n hs hn => ?_, fun s a n k hk hs hn => ?_⟩
  · unfold lput at hs ⊢
    rw [if_pos hr] at hs ⊢
    have e := L.whole s a b n hs hn
    unfold lget
    rw [e]
    simp [hr]
  · unfold lput at hs hk
    rw [if_pos hr] at hs hk
    have e := L.torn s a n k hk hs hn
    unfold lget
    rw [e]; rfl
/- nodes -/
structure Node.form (x : Node) : Prop where
  name : x.name.length ≤ 32
  cap : x.cap.w
  labs : lright x.labels = true
  pairs : ∀ q ∈ x.labels, q.key.length ≤ 32 ∧ q.value.length ≤ 32
theorem node_law {x : Node} (h : x.form) : Law gnode (nput x) x := by
  have LL := labels_law h.labs h.pairs
  obtain ⟨up0, hup⟩ : ∃ u : Int, u = (if x.up then 1 else 0) := ⟨_, rfl⟩
  have hu0 : 0 ≤ up0 ∧ up0 ≤ 1 := by rw [hup]; split <;> omega
  have hput : nput x = wputText x.name ++ (vput x.cap ++ (lput x.labels ++ wput up0)) := by simp [nput, hup]
  have hupe : decide (up0 = 1) = x.up := by rw [hup]; cases x.up <;> simp
  refine ⟨fun s a b n hs hn => ?_, fun s a n k hk hs hn => ?_⟩
  · rw [hput] at hs ⊢
    have e1 := text_at (t := x.name) (m := 32) (by have := h.name; omega) (by have := h.name; omega) (s := s) (a := a) (b := vput x.cap ++ (lput x.labels ++ (wput up0 ++ b))) (n := n) (by rw [hs]; simp) hn
    have e2 := vec_at h.cap (s := s) (a := a ++ wputText x.name) (b := lput x.labels ++ (wput up0 ++ b)) (n := n + (wputText x.name).length) (by rw [hs]; simp) (by rw [hn]; simp)
    have e3 := LL.whole s (a ++ wputText x.name ++ vput x.cap) (wput up0 ++ b) (n + (wputText x.name).length + (vput x.cap).length) (by rw [hs]; simp) (by rw [hn]; simp; omega)
    have e4 := num_at hu0.1 (by omega) (s := s) (a := a ++ wputText x.name ++ vput x.cap ++ lput x.labels) (b := b) (n := n + (wputText x.name).length + (vput x.cap).length + (lput x.labels).length) (by rw [hs]; simp) (by rw [hn]; simp; omega)
    simp only [gnode, e1, e2, e3, e4]
    simp only [Bool.not_true, Bool.false_eq_true, if_false, Bool.true_and, hupe, List.length_append]
    rw [show decide (up0 ≤ 1) = true by simpa using hu0.2]
    congr 1
    omega
  · rw [hput] at hs hk
    simp only [List.length_append] at hk
    rw [take_parts] at hs
    simp only [gnode]
    split at hs
    · rename_i hk1
      rw [text_torn (t := x.name) (m := 32) (by have := h.name; omega) (by have := h.name; omega) hk1 hs hn]; rfl
    · rename_i hk1
      have e1 := text_at (t := x.name) (m := 32) (by have := h.name; omega) (by have := h.name; omega) hs hn
      rw [e1]
      simp only [Bool.not_true, Bool.false_eq_true, if_false]
      have hn2 : n + ((wputText x.name).length : Int) = ((a ++ wputText x.name).length : Nat) := by rw [hn]; simp
      rw [← List.append_assoc, take_parts] at hs
      split at hs
      · rename_i hk2
        rw [vec_torn h.cap hk2 hs hn2]; rfl
      · rename_i hk2
        rw [vec_at h.cap hs hn2]
        simp only [Bool.not_true, Bool.false_eq_true, if_false]
        have hn3 : n + ((wputText x.name).length : Int) + ((vput x.cap).length : Int) = ((a ++ wputText x.name ++ vput x.cap).length : Nat) := by rw [hn]; simp; omega
        rw [← List.append_assoc, take_parts] at hs
        split at hs
        · rename_i hk3
          rw [LL.torn s _ _ _ hk3 hs hn3]; rfl
        · rename_i hk3
          rw [LL.whole s _ _ _ hs hn3]
          simp only [Bool.not_true, Bool.false_eq_true, if_false]
          have hn4 : n + ((wputText x.name).length : Int) + ((vput x.cap).length : Int) + ((lput x.labels).length : Int) = ((a ++ wputText x.name ++ vput x.cap ++ lput x.labels).length : Nat) := by rw [hn]; simp; omega
          rw [← List.append_assoc] at hs
          rw [num_torn hu0.1 (by omega) (by omega) hs hn4]; rfl
/- places -/
structure Place.form (x : Place) : Prop where
  job : 0 ≤ x.job ∧ x.job < 18446744073709551616
  name : x.node.length ≤ 32
  v : x.v.w
theorem place_law {x : Place} (h : x.form) : Law gcopy (xput x) x := by
  have hput : xput x = wput x.job ++ (wputText x.node ++ vput x.v) := by simp [xput]
  refine ⟨fun s a b n hs hn => ?_, fun s a n k hk hs hn => ?_⟩
  · rw [hput] at hs ⊢
    have e1 := num_at h.job.1 h.job.2 (s := s) (a := a) (b := wputText x.node ++ (vput x.v ++ b)) (n := n) (by rw [hs]; simp) hn
    have e2 := text_at (t := x.node) (m := 32) (by have := h.name; omega) (by have := h.name; omega) (s := s) (a := a ++ wput x.job) (b := vput x.v ++ b) (n := n + (wput x.job).length) (by rw [hs]; simp) (by rw [hn]; simp)
    have e3 := vec_at h.v (s := s) (a := a ++ wput x.job ++ wputText x.node) (b := b) (n := n + (wput x.job).length + (wputText x.node).length) (by rw [hs]; simp) (by rw [hn]; simp; omega)
    simp only [gcopy, e1, e2, e3]
    simp only [Bool.not_true, Bool.false_eq_true, if_false, List.length_append]
    congr 1
    omega
  · rw [hput] at hs hk
    simp only [List.length_append] at hk
    rw [take_parts] at hs
    simp only [gcopy]
    split at hs
    · rename_i hk1
      rw [num_torn h.job.1 h.job.2 hk1 hs hn]; rfl
    · rename_i hk1
      have e1 := num_at h.job.1 h.job.2 hs hn
      rw [e1]
      simp only [Bool.not_true, Bool.false_eq_true, if_false]
      have hn2 : n + ((wput x.job).length : Int) = ((a ++ wput x.job).length : Nat) := by rw [hn]; simp
      rw [← List.append_assoc, take_parts] at hs
      split at hs
      · rename_i hk2
        rw [text_torn (t := x.node) (m := 32) (by have := h.name; omega) (by have := h.name; omega) hk2 hs hn2]; rfl
      · rename_i hk2
        rw [text_at (t := x.node) (m := 32) (by have := h.name; omega) (by have := h.name; omega) hs hn2]
        simp only [Bool.not_true, Bool.false_eq_true, if_false]
        have hn3 : n + ((wput x.job).length : Int) + ((wputText x.node).length : Int) = ((a ++ wput x.job ++ wputText x.node).length : Nat) := by rw [hn]; simp; omega
        rw [← List.append_assoc] at hs
        rw [vec_torn h.v (by omega) hs hn3]
/- pools -/
structure Pool.form (p : Pool) : Prop where
  right : pright p = true
  nodes : ∀ n ∈ p.nodes, n.form
  places : ∀ x ∈ p.places, x.form
  most : p.places.length ≤ 256
theorem pool_law {p : Pool} (h : p.form) : Law pget (pput p) p := by
  have hn16 : p.nodes.length ≤ 16 := (pright_iff.1 h.right).most
  have L1 := all_law (get := gnode) (put := nput) (l := p.nodes) (m := 16) (fun n hn => node_law (h.nodes n hn)) (by omega) (by omega)
  have L2 := all_law (get := gcopy) (put := xput) (l := p.places) (m := 256) (fun x hx => place_law (h.places x hx)) (by have := h.most; omega) (by have := h.most; omega)
  have hput : pput p = (wput p.nodes.length ++ (p.nodes.map nput).flatten) ++ (wput p.places.length ++ (p.places.map xput).flatten) := by simp [pput]
  refine ⟨fun s a b n hs hn => ?_, fun s a n k hk hs hn => ?_⟩
  · rw [hput] at hs ⊢
    have e1 := L1.whole s a ((wput p.places.length ++ (p.places.map xput).flatten) ++ b) n (by rw [hs]; simp) hn
    have e2 := L2.whole s (a ++ (wput p.nodes.length ++ (p.nodes.map nput).flatten)) b (n + ((wput p.nodes.length ++ (p.nodes.map nput).flatten).length : Nat)) (by rw [hs]; simp) (by rw [hn]; simp)
    simp only [pget, e1, e2]
    have hr : pright ⟨p.nodes, p.places⟩ = true := h.right
    rw [hr]
    simp only [Bool.not_true, Bool.false_eq_true, if_false, Bool.and_self, if_true, List.length_append]
    congr 1
    omega
  · rw [hput] at hs hk
    rw [List.length_append] at hk
    rw [take_parts] at hs
    unfold pget
    split at hs
    · rename_i hk1
      have e := L1.torn s a n k hk1 hs hn
      rw [e]; rfl
    · rename_i hk1
      have e1 := L1.whole s a _ n hs hn
      have e2 := L2.torn s (a ++ (wput p.nodes.length ++ (p.nodes.map nput).flatten)) (n + ((wput p.nodes.length ++ (p.nodes.map nput).flatten).length : Nat)) (k - (wput p.nodes.length ++ (p.nodes.map nput).flatten).length) (by omega) (by rw [hs]; simp) (by rw [hn]; simp)
      rw [e1]
      simp only [Bool.not_true, Bool.false_eq_true, if_false]
      rw [e2]; rfl
end Dem
end
section
/- PLAIN LAW: failing, laying, putting: what the laws of them ask. -/
open Go
namespace Dem
theorem fails_cases {P : Pool} (ho : P.ok) (nm : Str) :
    ((pfail P nm).2.2 ≠ 0 ∧ (pfail P nm).1 = P ∧ (pfail P nm).2.1 = [] ∧ (((pfail P nm).2.2 = 7 ∧ (pfind nm P.nodes).2 = false) ∨ ((pfail P nm).2.2 = 15 ∧ (pfind nm P.nodes).2 = true ∧ (pfind nm P.nodes).1.up = false))) ∨
    ((pfail P nm).2.2 = 0 ∧ (pfail P nm).2.1 = pmet nm P.places ∧ (pfind nm (pfail P nm).1.nodes).1.up = false ∧
      ((pfail P nm).1.nodes.filterMap (pslot (pfail P nm).1.nodes (pfail P nm).1.places)).length + 1 = (P.nodes.filterMap (pslot P.nodes P.places)).length ∧ pturn (pfail P nm).1 nm true = (P, 0) ∧
      (pfail P nm).1.nodes.length = P.nodes.length ∧ (pfail P nm).1.places = P.places) := by
  rcases pturn_cases P ho.asc nm false with ⟨h1, h2⟩ | ⟨i, x, hx, hn, hf, ⟨hu, h1⟩ | ⟨hu, h1⟩⟩
  · left; unfold pfail; rw [h1]; simp [h2]
  · left; unfold pfail; rw [h1]; simp [hf, hu]
  · right
    have hup : x.up = true := by simpa using hu
    unfold pfail; rw [h1]; subst hn
    refine ⟨rfl, rfl, ?_, ?_, mend_back ho.asc hx hup, by simp, rfl⟩
    · simp only [if_true]; rw [pfind_set ho.asc hx]
    · exact slots_fail ho hx hup
theorem pmet_at {nm : Str} {ps : List Place} {i : Nat} {j : Int} (h : (pmet nm ps)[i]? = some j) : ∃ x ∈ ps, x.node = nm ∧ x.job = j := pmet_mem.1 (List.mem_of_getElem? h)
theorem pmet_lt {nm : Str} {ps : List Place} {i : Nat} {j k : Int} (h : (pmet nm ps)[i]? = some j) (h1 : (pmet nm ps)[i + 1]? = some k) : j < k := by
  obtain ⟨a, rfl⟩ := List.getElem?_eq_some_iff.1 h
  obtain ⟨b, rfl⟩ := List.getElem?_eq_some_iff.1 h1
  exact List.pairwise_iff_getElem.1 (pmet_asc nm ps) i (i + 1) a b (by omega)
theorem lays_cases {P : Pool} (ho : P.ok) (hw : P.w) {job : Int} (hno : ∀ x ∈ P.places, x.job ≠ job) (names : List Str) {v : Vec} (hv : v.w) :
    ((play P job names v).2 ≠ 0 ∧ (play P job names v).1 = P) ∨
    ((play P job names v).2 = 0 ∧ (play P job names v).1 = ⟨P.nodes, P.places ++ names.map (fun n => ⟨job, n, v⟩)⟩ ∧ pof job (play P job names v).1.places = names ∧
      (∀ n ∈ names, (pfind n P.nodes).2 = true ∧ (pfind n P.nodes).1.up = true) ∧ pright (play P job names v).1 = true ∧ pdrop (play P job names v).1 job = P) := by
  rcases play_cases P job names v with ⟨h1, h2⟩ | ⟨h1, h2⟩
  · exact .inl ⟨h2, h1⟩
  · have hr := pright_iff.2 (lay_ok ho hw job names hv).1
    right
    rw [h1] at hr ⊢
    exact ⟨rfl, rfl, pof_lays hno names v, h2, hr, pdrop_lays hno names v⟩
theorem labelsN_len (k : Nat) : ∀ q ∈ labelsN k, q.key.length ≤ 32 ∧ q.value.length ≤ 32 := by
  intro q hq
  unfold labelsN at hq
  split at hq <;> simp [zone, disk, ssd] at hq
  · subst hq; decide
  · subst hq; decide
  · rcases hq with rfl | rfl <;> decide
theorem fill_form (l : List Laid) : (fillS l).form := by
  have lim := fill_lim l
  obtain ⟨ho, hw⟩ := fillS_ok l
  refine ⟨pright_iff.2 ho, fun n hn => ?_, fun x hx => ?_, ?_⟩
  · have hf := ho.fine n hn
    unfold Node.fine at hf
    rw [Bool.and_eq_true] at hf
    refine ⟨by have := nodesL_len (lim.names n hn); omega, hw.cap n hn, hf.2, ?_⟩
    obtain ⟨k, hk⟩ := lim.labs n hn
    rw [hk]; exact labelsN_len k
  · obtain ⟨n, hn, e⟩ := ho.here x hx
    have := nodesL_len (lim.names n hn)
    have hj := lim.jobs x hx
    exact ⟨⟨hj.1, by omega⟩, by rw [← e]; omega, hw.v x hx⟩
  · have := lim.places; omega
end Dem
end
