/- JOINED TEXTS: Co28, Co29, Rw8. -/
import Derived.Test.YtegnablmooijmaaDoorJ31
import Derived.Test.YtegnablmooijmaaDoorJ32
import Derived.Test.YtegnablmooijmaaDoorRows
set_option linter.unusedSimpArgs false
set_option linter.unusedVariables false
section
/- CONTRACTS: the law of slots. -/
open Go Dem Go.Proofs
namespace Dem
set_option maxRecDepth 100000
set_option maxHeartbeats 4000000
variable {t : Th}
/-- an element that is known, under a guard -/
theorem idxKG {t : Th} (ht : TT t) {α : Type} {l : List α} {cells cT : α → List D} {es : List (List D)} {g : Bool} {c : Prop} (hes : es = l.map cells) {z : Int} {i n : Nat} {x : α} {K : List D → Prop} (hx : l[i]? = some x) (hz : z = i) (hn : ∀ x, (cells x).length = n) (hT : ∀ x, cells x = cT x)
    (hc : g = true → c) (hK : K (cT x)) : IdxWp g (c ∧ (t Prop fun _ => 0 ≤ z ∧ z < es.length ∧ ∀ r ∈ es, r.length = n)) (t _ fun _ => es.getD z.toNat []) K := by
  obtain ⟨ds, h, hk⟩ := idxK (K := K) ht hes hx hz hn hT hK
  obtain ⟨h1, h2⟩ := h rfl
  exact idxG ds (fun hg => ⟨⟨hc hg, h1⟩, h2⟩) hk
theorem c_poolSlots (ht : TT t) {l : List Laid} {es : List (List D)} (hes : es = l.map Laid.cells) (hu : ∀ x ∈ l, x.u) (hl : l.length < 9223372036854775808) :
    FC 7 [SL es] [] (.ret (BL true)) [] := by
  obtain ⟨⟨nl, pl⟩, hP⟩ : ∃ P, P = fillS l := ⟨_, rfl⟩
  have oks := (fillS_ok l).1
  have lim := fill_lim l
  rw [← hP] at oks lim
  have bn : nl.length ≤ 16 := oks.most
  have bp : pl.length ≤ 120 := lim.places
  obtain ⟨sl, hsl⟩ : ∃ sl, sl = nl.filterMap (pslot nl pl) := ⟨_, rfl⟩
  obtain ⟨bl, hbl⟩ : ∃ bl, bl = nl.filterMap (pslot nl []) := ⟨_, rfl⟩
  refine fc' ht (bx0 := []) Tryd.func7 (c := _) rfl rfl (N := 147) rfl (rs := _) rfl (n := 0) rfl rfl ?_
  cbv
  have len_es : es.length = l.length := by rw [hes, List.length_map]
  refine callF trivial (c_examples ht) trivial rfl rfl ?_
  cbv
  refine condI (fun h0 => ?_) (fun h0 => ?_)
  · simp [ht, ncast, len_es] at h0
  · simp [ht, ncast, len_es] at h0
    cbv
    refine callES trivial (c_filledE ht (by assumption) (by assumption) (by assumption)) trivial rfl rfl rfl (fun r1 er1 => ?_)
    simp only [ht] at er1
    rw [← hP] at er1
    subst r1
    cbv
    refine callES trivial (c_slotsE ht (thE ht rfl) (thE ht rfl) (by ((try simp only [ncast] at *); omega)) (by ((try simp only [ncast] at *); omega))) trivial rfl rfl rfl (fun r2 er2 => ?_)
    simp only [ht] at er2
    first | rw [← hsl] at er2 | rw [← hbl] at er2
    subst r2
    cbv
    refine callES trivial (c_bareE ht (thE ht rfl)) trivial rfl rfl rfl (fun r3 er3 => ?_)
    simp only [ht] at er3
    subst r3
    cbv
    refine callES trivial (c_slotsE ht (thE ht rfl) (thE ht rfl) (by ((try simp only [ncast] at *); omega)) (by (simp [ht]; done))) trivial rfl rfl rfl (fun r4 er4 => ?_)
    simp only [ht] at er4
    first | rw [← hsl] at er4 | rw [← hbl] at er4
    subst r4
    cbv
    obtain ⟨J5, hJ5⟩ : ∃ J5 : Nat → Int × Int × List (List D) × List (List D) → Prop, ∀ n a i u v, J5 n (a, i, u, v) ↔ (∃ (k w : Nat), i = k ∧ a = w ∧ w = ups nl k ∧ k + n = nl.length ∧ u = nl.map Node.cells ∧ v = pl.map Place.cells) := ⟨fun n v => match v with | (a, i, u, v) => (∃ (k w : Nat), i = k ∧ a = w ∧ w = ups nl k ∧ k + n = nl.length ∧ u = nl.map Node.cells ∧ v = pl.map Place.cells), fun _ _ _ _ _ => Iff.rfl⟩
    refine loopU ⟨[3, 4, 5, 6, 7, 8], [], []⟩ (σ := Int × Int × List (List D) × List (List D)) (fun v => [(7, .d (.int .i64 (t _ fun _ => v.1))), (8, .d (.int .i64 (t _ fun _ => v.2.1)))]) (fun v => [(0, .var [.d (.sl (t _ fun _ => v.2.2.1)), .d (.sl (t _ fun _ => v.2.2.2))])]) J5 ?_
    cbv
    refine loopIn ⟨nl.length, (_, _, _, _), (hJ5 _ _ _ _ _).2 ?_, by simp only [ht]; rfl, ?_⟩
    · exact ⟨0, 0, rfl, rfl, by simp [ups], by omega, rfl, rfl⟩
    rintro n ⟨a, i, u, v⟩ hj
    replace hj := (hJ5 _ _ _ _ _).1 hj
    obtain ⟨k, w, rfl, rfl, j1, j2, j3, j4⟩ := hj
    have len_u : u.length = nl.length := by rw [j3, List.length_map]
    have len_v : v.length = pl.length := by rw [j4, List.length_map]
    have hse : nl.length ≤ k → sl.length = w ∧ bl.length = w := fun h => ⟨by rw [hsl, j1]; exact slots_ups oks h, by rw [hbl, j1]; exact bare_ups oks h⟩
    have hat : ∀ n, nl[k]? = some n → n.up = true → sl[w]? = some ⟨n.name, (pfree n.name nl pl).1, n.labels⟩ ∧ bl[w]? = some ⟨n.name, n.cap, n.labels⟩ := fun n h hu => by rw [hsl, hbl, j1]; exact ⟨slot_at oks h hu, bare_at oks h hu⟩
    have hwk : w ≤ k := by rw [j1]; exact ups_le _ _
    have hww : IntKind.i64.wrap ((w : Int) + 1) = (w : Int) + 1 := wrap64 (by omega) (by omega)
    cbv
    refine condI (fun h6 => ?_) (fun h6 => ?_)
    · simp [ht, ncast, len_es, len_u, len_v] at h6
      cbv
      (refine idxM ht (l := nl) (cells := Node.cells) (cT := Node.cellsT t) (by simp only [ht]; exact j3) (by (simp only [ht, ncast]; omega)) (by (simp only [ht, ncast]; omega)) (fun _ => rfl) (fun _ => (by simp only [ht, Node.cellsT]; done)) (fun xn mxn => ?_); simp only [ht] at mxn; replace mxn : nl[k]? = some xn := mxn; obtain ⟨fv, hfv⟩ : ∃ fv, fv = pfree (xn).name nl pl := ⟨_, rfl⟩; have hok : fv.2 = true := (by rw [hfv]; exact oks.free _ (List.mem_of_getElem? mxn)); have hs2 : xn.up = true → sl[w]? = some ⟨xn.name, fv.1, xn.labels⟩ ∧ bl[w]? = some ⟨xn.name, xn.cap, xn.labels⟩ := (fun h => by rw [hfv]; exact hat xn mxn h); have hlt : (xn).up = true → w < sl.length ∧ w < bl.length := (fun h => ⟨(List.getElem?_eq_some_iff.1 (hat _ mxn h).1).1, (List.getElem?_eq_some_iff.1 (hat _ mxn h).2).1⟩))
      cbv
      refine condI (fun h7 => ?_) (fun h7 => ?_)
      · simp [ht, ncast, len_es, len_u, len_v] at h7
        cbv
        refine loopC (_, _, _, _) (by simp only [ht]; rfl) (n - 1) ?_ ((hJ5 _ _ _ _ _).2 ?_)
        · omega
        · simp only [ht, ncast]
          (refine ⟨k + 1, ups nl (k + 1), i64_upN (by ((try simp only [ncast] at *); omega)), ?_, rfl, by ((try simp only [ncast] at *); omega), j3, j4⟩; rw [ups_succ mxn, ← j1, h7]; simp [hww])
      · simp [ht, ncast, len_es, len_u, len_v] at h7
        cbv
        refine gI (by simp [ht, pickI_iff]) ?_
        refine gI (by simp [ht, pickI_iff]) ?_
        refine gI (by simp [ht, pickI_iff]) ?_
        refine gI (by simp [ht, pickI_iff]) ?_
        refine pI (by simp [ht, pickI_iff]) ?_
        refine condI (fun h8 => ?_) (fun h8 => ?_)
        · simp [ht, ncast, len_es, len_u, len_v] at h8
          cbv
          refine retF trivial trivial rfl rfl rfl ?_
          (exfalso; have q := hlt h7; omega)
        · simp [ht, ncast, len_es, len_u, len_v] at h8
          cbv
          refine drawL [3] [3, 8, 9, 10] [false, false, false, false, false, false, false, false, false, false, false, false, true, true] (by kernel_rfl) (by kernel_rfl) (by kernel_rfl) (by kernel_rfl) (by kernel_rfl) (by kernel_rfl) ?_
          cbv
          refine gI (by simp [ht, pickI_iff]) ?_
          refine gI (by simp [ht, pickI_iff]) ?_
          refine gI (by simp [ht, pickI_iff]) ?_
          refine gI (by simp [ht, pickI_iff]) ?_
          (refine idxK ht (l := nl) (cells := Node.cells) (cT := Node.cellsT t) (by simp only [ht]; exact j3) mxn (by simp only [ht]) (fun _ => rfl) (fun _ => (by simp only [ht, Node.cellsT]; done)) ?_)
          cbv
          refine gI (by simp [ht, pickI_iff]) ?_
          refine gI (by simp [ht, pickI_iff]) ?_
          refine .inl ?_
          refine callEQ (fun g9 => ⟨trivial, trivial, c_freeE ht _ (by (simp only [ht]; ((try simp only [ncast] at *); omega))) (by (simp only [ht]; ((try simp only [ncast] at *); omega))) (by omega) (by omega)⟩) rfl rfl (fun r10 er10 => ?_)
          simp only [ht] at er10
          rw [← hfv] at er10
          subst r10
          cbv
          refine gI (by simp [ht, pickI_iff]) ?_
          refine gI (by simp [ht, pickI_iff]) ?_
          refine gI (by simp [ht, pickI_iff]) ?_
          refine drawI [true, true, true, false, false, false, false, false, false, false, false, false, false, false, true, true, true, false, false, false, false, false, false, true, true, true, false, false, false, false, false, false, false, false, false, false, false, true, true, true, false, false, false, false, false, false, false, false, false, false, false, true, true, true, false, false, false, false, false, false, false, false, false, false, false, false, false, true, true] (by kernel_rfl) (by kernel_rfl) ?_
          cbv
          refine gI (by simp [ht, pickI_iff]) ?_
          refine gI (by simp [ht, pickI_iff]) ?_
          (refine idxKG ht (l := sl) (cells := Slot.cells) (cT := Slot.cellsT t) (by simp only [ht]; done) (hs2 (by assumption)).1 (by simp only [ht]) (fun _ => rfl) (fun _ => (by simp only [ht, Slot.cellsT] <;> rfl)) (fun g => by first | exact ⟨g, trivial⟩ | exact ⟨g, g, trivial⟩) ?_)
          cbv
          refine gI (by simp [ht, pickI_iff]) ?_
          refine gI (by simp [ht, pickI_iff]) ?_
          refine gI (by simp [ht, pickI_iff]) ?_
          refine gI (by simp [ht, pickI_iff]) ?_
          refine gI (by simp [ht, pickI_iff]) ?_
          (refine idxKG ht (l := nl) (cells := Node.cells) (cT := Node.cellsT t) (by simp only [ht]; exact j3) mxn (by simp only [ht]) (fun _ => rfl) (fun _ => (by simp only [ht, Node.cellsT]; done)) (fun g => by first | exact ⟨g, trivial⟩ | exact ⟨g, g, trivial⟩) ?_)
          cbv
          refine gI (by simp [ht, pickI_iff]) ?_
          refine gI (by simp [ht, pickI_iff]) ?_
          refine gI (by simp [ht, pickI_iff]) ?_
          refine pI (by simp [ht, pickI_iff]) ?_
          refine gI (by simp [ht, pickI_iff]) ?_
          refine gI (by simp [ht, pickI_iff]) ?_
          (refine idxKG ht (l := sl) (cells := Slot.cells) (cT := Slot.cellsT t) (by simp only [ht]; done) (hs2 (by assumption)).1 (by simp only [ht]) (fun _ => rfl) (fun _ => (by simp only [ht, Slot.cellsT] <;> rfl)) (fun g => by first | exact ⟨g, trivial⟩ | exact ⟨g, g, trivial⟩) ?_)
          cbv
          refine gI (by simp [ht, pickI_iff]) ?_
          refine gI (by simp [ht, pickI_iff]) ?_
          refine gI (by simp [ht, pickI_iff]) ?_
          refine gI (by simp [ht, pickI_iff]) ?_
          refine pI (by simp [ht, pickI_iff]) ?_
          refine gI (by simp [ht, pickI_iff]) ?_
          refine gI (by simp [ht, pickI_iff]) ?_
          (refine idxKG ht (l := bl) (cells := Slot.cells) (cT := Slot.cellsT t) (by simp only [ht]; done) (hs2 (by assumption)).2 (by simp only [ht]) (fun _ => rfl) (fun _ => (by simp only [ht, Slot.cellsT] <;> rfl)) (fun g => by first | exact ⟨g, trivial⟩ | exact ⟨g, g, trivial⟩) ?_)
          cbv
          refine gI (by simp [ht, pickI_iff]) ?_
          refine gI (by simp [ht, pickI_iff]) ?_
          refine gI (by simp [ht, pickI_iff]) ?_
          refine gI (by simp [ht, pickI_iff]) ?_
          refine gI (by simp [ht, pickI_iff]) ?_
          (refine idxKG ht (l := nl) (cells := Node.cells) (cT := Node.cellsT t) (by simp only [ht]; exact j3) mxn (by simp only [ht]) (fun _ => rfl) (fun _ => (by simp only [ht, Node.cellsT]; done)) (fun g => by first | exact ⟨g, trivial⟩ | exact ⟨g, g, trivial⟩) ?_)
          cbv
          refine gI (by simp [ht, pickI_iff]) ?_
          refine gI (by simp [ht, pickI_iff]) ?_
          refine gI (by simp [ht, pickI_iff]) ?_
          refine pI (by simp [ht, pickI_iff]) ?_
          refine gI (by simp [ht, pickI_iff]) ?_
          refine gI (by simp [ht, pickI_iff]) ?_
          (refine idxKG ht (l := bl) (cells := Slot.cells) (cT := Slot.cellsT t) (by simp only [ht]; done) (hs2 (by assumption)).2 (by simp only [ht]) (fun _ => rfl) (fun _ => (by simp only [ht, Slot.cellsT] <;> rfl)) (fun g => by first | exact ⟨g, trivial⟩ | exact ⟨g, g, trivial⟩) ?_)
          cbv
          refine gI (by simp [ht, pickI_iff]) ?_
          refine gI (by simp [ht, pickI_iff]) ?_
          refine gI (by simp [ht, pickI_iff]) ?_
          refine gI (by simp [ht, pickI_iff]) ?_
          refine gI (by simp [ht, pickI_iff]) ?_
          (refine idxKG ht (l := nl) (cells := Node.cells) (cT := Node.cellsT t) (by simp only [ht]; exact j3) mxn (by simp only [ht]) (fun _ => rfl) (fun _ => (by simp only [ht, Node.cellsT]; done)) (fun g => by first | exact ⟨g, trivial⟩ | exact ⟨g, g, trivial⟩) ?_)
          cbv
          refine gI (by simp [ht, pickI_iff]) ?_
          refine gI (by simp [ht, pickI_iff]) ?_
          refine gI (by simp [ht, pickI_iff]) ?_
          refine pI (by simp [ht, pickI_iff]) ?_
          refine gI (by simp [ht, pickI_iff]) ?_
          refine gI (by simp [ht, pickI_iff]) ?_
          (refine idxKG ht (l := sl) (cells := Slot.cells) (cT := Slot.cellsT t) (by simp only [ht]; done) (hs2 (by assumption)).1 (by simp only [ht]) (fun _ => rfl) (fun _ => (by simp only [ht, Slot.cellsT] <;> rfl)) (fun g => by first | exact ⟨g, trivial⟩ | exact ⟨g, g, trivial⟩) ?_)
          cbv
          refine gI (by simp [ht, pickI_iff]) ?_
          refine gI (by simp [ht, pickI_iff]) ?_
          refine gI (by simp [ht, pickI_iff]) ?_
          refine gI (by simp [ht, pickI_iff]) ?_
          refine gI (by simp [ht, pickI_iff]) ?_
          refine gI (by simp [ht, pickI_iff]) ?_
          (refine idxKG ht (l := nl) (cells := Node.cells) (cT := Node.cellsT t) (by simp only [ht]; exact j3) mxn (by simp only [ht]) (fun _ => rfl) (fun _ => (by simp only [ht, Node.cellsT]; done)) (fun g => by first | exact ⟨g, trivial⟩ | exact ⟨g, g, trivial⟩) ?_)
          cbv
          refine gI (by simp [ht, pickI_iff]) ?_
          refine gI (by simp [ht, pickI_iff]) ?_
          refine gI (by simp [ht, pickI_iff]) ?_
          refine gI (by simp [ht, pickI_iff]) ?_
          refine pI (by simp [ht, pickI_iff]) ?_
          refine condI (fun h11 => ?_) (fun h11 => ?_)
          · simp [ht, ncast, len_es, len_u, len_v] at h11
            cbv
            refine retF trivial trivial rfl rfl rfl ?_
            (exfalso; simp [hok] at h11; done)
          · simp [ht, ncast, len_es, len_u, len_v] at h11
            cbv
            refine loopC (_, _, _, _) (by simp only [ht]; rfl) (n - 1) ?_ ((hJ5 _ _ _ _ _).2 ?_)
            · omega
            · simp only [ht, ncast]
              (refine ⟨k + 1, ups nl (k + 1), i64_upN (by ((try simp only [ncast] at *); omega)), ?_, rfl, by ((try simp only [ncast] at *); omega), j3, j4⟩; rw [ups_succ mxn, ← j1, h7]; simp [hww])
    · simp [ht, ncast, len_es, len_u, len_v] at h6
      cbv
      refine gI (by simp [ht, pickI_iff]) ?_
      refine gI (by simp [ht, pickI_iff]) ?_
      refine gI (by simp [ht, pickI_iff]) ?_
      refine gI (by simp [ht, pickI_iff]) ?_
      refine pI (by simp [ht, pickI_iff]) ?_
      refine gI (by simp [ht, pickI_iff]) ?_
      refine gI (by simp [ht, pickI_iff]) ?_
      refine gI (by simp [ht, pickI_iff]) ?_
      refine gI (by simp [ht, pickI_iff]) ?_
      refine pI (by simp [ht, pickI_iff]) ?_
      refine gI (by simp [ht, pickI_iff]) ?_
      (refine callEQS (fun g9 => ⟨⟨g9, trivial⟩, by simp [ht], c_bareE ht (by simp only [ht]; exact j3)⟩) rfl rfl rfl (fun r9 er9 => ?_); simp only [ht] at er9; subst er9)
      cbv
      refine gI (by simp [ht, pickI_iff]) ?_
      refine gI (by simp [ht, pickI_iff]) ?_
      refine gI (by simp [ht, pickI_iff]) ?_
      refine pI (by simp [ht, pickI_iff]) ?_
      refine retF trivial trivial rfl rfl rfl ?_
      (have e := hse (by assumption); simp [ht, ncast, e.1, e.2]; done)
end Dem
end
section
/- CONTRACTS: the law of what stays right. -/
open Go Dem Go.Proofs
namespace Dem
set_option maxRecDepth 100000
set_option maxHeartbeats 4000000
variable {t : Th}
theorem c_vaddE (ht : TT t) (a0 a1 a2 a3 b0 b1 b2 b3 : Int) : FC 28 [V4 a0 a1 a2 a3, V4 b0 b1 b2 b3] [] (.ret (EVB (t _ fun _ => vadd ⟨a0, a1, a2, a3⟩ ⟨b0, b1, b2, b3⟩))) [] := by
  simp only [ht]; exact c_vadd ht _ _ _ _ _ _ _ _ rfl
theorem c_poolRight (ht : TT t) {l : List Laid} {es : List (List D)} (hes : es = l.map Laid.cells) (hu : ∀ x ∈ l, x.u) (hl : l.length < 9223372036854775808) :
    FC 8 [SL es] [] (.ret (BL true)) [] := by
  obtain ⟨⟨nl, pl⟩, hP⟩ : ∃ P, P = fillS l := ⟨_, rfl⟩
  have oks := (fillS_ok l).1
  have okw := (fillS_ok l).2
  have lim := fill_lim l
  rw [← hP] at oks okw lim
  have bn : nl.length ≤ 16 := oks.most
  have bp : pl.length ≤ 120 := lim.places
  have sm : ∀ x ∈ nl, x.sm := lim.sm
  have hR : pright ⟨nl, pl⟩ = true := pright_iff.2 oks
  refine fc' ht (bx0 := []) Tryd.func8 (c := _) rfl rfl (N := 110) rfl (rs := _) rfl (n := 0) rfl rfl ?_
  cbv
  have len_es : es.length = l.length := by rw [hes, List.length_map]
  refine callF trivial (c_examples ht) trivial rfl rfl ?_
  cbv
  refine condI (fun h0 => ?_) (fun h0 => ?_)
  · simp [ht, ncast, len_es] at h0
  · simp [ht, ncast, len_es] at h0
    cbv
    refine callES trivial (c_filledE ht (by assumption) (by assumption) (by assumption)) trivial rfl rfl rfl (fun r1 er1 => ?_)
    simp only [ht] at er1
    rw [← hP] at er1
    subst r1
    cbv
    obtain ⟨J2, hJ2⟩ : ∃ J2 : Nat → Int × List (List D) × List (List D) → Prop, ∀ n i u v, J2 n (i, u, v) ↔ (∃ k : Nat, i = k ∧ k + n = nl.length ∧ u = nl.map Node.cells ∧ v = pl.map Place.cells) := ⟨fun n v => match v with | (i, u, v) => (∃ k : Nat, i = k ∧ k + n = nl.length ∧ u = nl.map Node.cells ∧ v = pl.map Place.cells), fun _ _ _ _ => Iff.rfl⟩
    refine loopU ⟨[3, 4, 5], [], []⟩ (σ := Int × List (List D) × List (List D)) (fun v => [(5, .d (.int .i64 (t _ fun _ => v.1)))]) (fun v => [(0, .var [.d (.sl (t _ fun _ => v.2.1)), .d (.sl (t _ fun _ => v.2.2))])]) J2 ?_
    cbv
    refine loopIn ⟨nl.length, (_, _, _), (hJ2 _ _ _ _).2 ?_, by simp only [ht]; rfl, ?_⟩
    · exact ⟨0, rfl, by omega, rfl, rfl⟩
    rintro n ⟨i, u, v⟩ hj
    replace hj := (hJ2 _ _ _ _).1 hj
    obtain ⟨k, rfl, j2, j3, j4⟩ := hj
    have len_u : u.length = nl.length := by rw [j3, List.length_map]
    have len_v : v.length = pl.length := by rw [j4, List.length_map]
    have hmx : k < nl.length → ∃ x, nl[k]? = some x := fun h => ⟨_, List.getElem?_eq_getElem h⟩
    cbv
    refine condI (fun h3 => ?_) (fun h3 => ?_)
    · simp [ht, ncast, len_es, len_u, len_v] at h3
      cbv
      obtain ⟨xn, mxn⟩ := hmx (by assumption)
      obtain ⟨J4, hJ4⟩ : ∃ J4 : Nat → Int × Int × Int × Int × Int → Prop, ∀ m p a b c d, J4 m (p, a, b, c, d) ↔ (∃ q : Nat, p = q ∧ q + m = pl.length ∧ (⟨a, b, c, d⟩ : Vec) = vused xn.name (pl.take q)) := ⟨fun m v => match v with | (p, a, b, c, d) => (∃ q : Nat, p = q ∧ q + m = pl.length ∧ (⟨a, b, c, d⟩ : Vec) = vused xn.name (pl.take q)), fun _ _ _ _ _ _ => Iff.rfl⟩
      refine loopU ⟨[3, 4, 5, 6, 7], [], []⟩ (σ := Int × Int × Int × Int × Int) (fun v => [(7, .d (.int .i64 (t _ fun _ => v.1)))]) (fun v => [(1, .var [.d (.int .u64 (t _ fun _ => v.2.1)), .d (.int .u64 (t _ fun _ => v.2.2.1)), .d (.int .u64 (t _ fun _ => v.2.2.2.1)), .d (.int .u64 (t _ fun _ => v.2.2.2.2))])]) J4 ?_
      cbv
      refine loopIn ⟨pl.length, (_, _, _, _, _), (hJ4 _ _ _ _ _ _).2 ?_, by simp only [ht]; rfl, ?_⟩
      · exact ⟨0, rfl, by omega, rfl⟩
      rintro m ⟨p, a, b, c, d⟩ hj
      replace hj := (hJ4 _ _ _ _ _ _).1 hj
      obtain ⟨q, rfl, i2, i3⟩ := hj
      obtain ⟨fv, hfv⟩ : ∃ fv, fv = pfree xn.name nl pl := ⟨_, rfl⟩
      have hok : fv.2 = true := by rw [hfv]; exact oks.free _ (List.mem_of_getElem? mxn)
      have hall : pl.length ≤ q → vadd ⟨a, b, c, d⟩ fv.1 = (xn.cap, true) ∧ vfits ⟨a, b, c, d⟩ xn.cap = true := fun h => by have e := vused_all oks okw (List.mem_of_getElem? mxn); rw [i3, hfv, List.take_of_length_le h]; exact e
      cbv
      refine condI (fun h5 => ?_) (fun h5 => ?_)
      · simp [ht, ncast, len_es, len_u, len_v] at h5
        cbv
        refine drawI [false, false, false, false, false, false, false, false, false, false, false, false, true] (by kernel_rfl) (by kernel_rfl) ?_
        cbv
        refine gI (by simp [ht, pickI_iff]) ?_
        refine gI (by simp [ht, pickI_iff]) ?_
        refine gI (by simp [ht, pickI_iff]) ?_
        (refine idxM ht (l := pl) (cells := Place.cells) (cT := Place.cellsT t) (by simp only [ht]; exact j4) (by (simp only [ht, ncast]; omega)) (by (simp only [ht, ncast]; omega)) (fun _ => rfl) (fun _ => (by simp only [ht, Place.cellsT] <;> rfl)) (fun xp mxp => ?_); simp only [ht] at mxp; replace mxp : pl[q]? = some xp := mxp; obtain ⟨s2, hs2⟩ : ∃ s2, s2 = vused xn.name (pl.take (q + 1)) := ⟨_, rfl⟩; have hst : xp.node = xn.name → vadd ⟨a, b, c, d⟩ xp.v = (s2, true) := (fun h => by rw [i3, hs2]; exact vused_step oks okw (List.mem_of_getElem? mxn) mxp h); have hskip : ¬ xp.node = xn.name → vused xn.name (pl.take (q + 1)) = vused xn.name (pl.take q) := (fun h => by simp only [vused, here_take mxp, if_neg h, List.append_nil]))
        cbv
        refine gI (by simp [ht, pickI_iff]) ?_
        refine gI (by simp [ht, pickI_iff]) ?_
        refine gI (by simp [ht, pickI_iff]) ?_
        refine gI (by simp [ht, pickI_iff]) ?_
        refine gI (by simp [ht, pickI_iff]) ?_
        (refine idxK ht (l := nl) (cells := Node.cells) (cT := Node.cellsT t) (by simp only [ht]; exact j3) mxn (by simp only [ht]) (fun _ => rfl) (fun _ => (by simp only [ht, Node.cellsT]; done)) ?_)
        cbv
        refine gI (by simp [ht, pickI_iff]) ?_
        refine gI (by simp [ht, pickI_iff]) ?_
        refine condI (fun h6 => ?_) (fun h6 => ?_)
        · simp [ht, ncast, len_es, len_u, len_v] at h6
          cbv
          refine loopC (_, _, _, _, _) (by simp only [ht]; rfl) (m - 1) ?_ ((hJ4 _ _ _ _ _ _).2 ?_)
          · omega
          · simp only [ht, ncast]
            first | exact ⟨q + 1, i64_upN (by ((try simp only [ncast] at *); omega)), by ((try simp only [ncast] at *); omega), hs2⟩ | exact ⟨q + 1, i64_upN (by ((try simp only [ncast] at *); omega)), by ((try simp only [ncast] at *); omega), i3.trans (hskip (by assumption)).symm⟩
        · simp [ht, ncast, len_es, len_u, len_v] at h6
          cbv
          refine drawL [3] [3, 8, 9, 10] [false, false, false, false, false, false, false, false, false, false, false, false, true, true] (by kernel_rfl) (by kernel_rfl) (by kernel_rfl) (by kernel_rfl) (by kernel_rfl) (by kernel_rfl) ?_
          cbv
          refine gI (by simp [ht, pickI_iff]) ?_
          refine gI (by simp [ht, pickI_iff]) ?_
          refine gI (by simp [ht, pickI_iff]) ?_
          refine gI (by simp [ht, pickI_iff]) ?_
          (refine idxK ht (l := pl) (cells := Place.cells) (cT := Place.cellsT t) (by simp only [ht]; exact j4) mxp (by simp only [ht]) (fun _ => rfl) (fun _ => (by simp only [ht, Place.cellsT] <;> rfl)) ?_)
          cbv
          refine gI (by simp [ht, pickI_iff]) ?_
          refine gI (by simp [ht, pickI_iff]) ?_
          refine .inl ?_
          refine callEQ (fun g7 => ⟨trivial, trivial, c_vaddE ht _ _ _ _ _ _ _ _⟩) rfl rfl (fun r8 er8 => ?_)
          simp only [ht] at er8
          first | replace er8 := er8.trans (hst (by assumption)) | replace er8 := er8.trans (hall (by assumption)).1
          subst r8
          cbv
          refine gI (by simp [ht, pickI_iff]) ?_
          refine gI (by simp [ht, pickI_iff]) ?_
          refine gI (by simp [ht, pickI_iff]) ?_
          refine condI (fun h9 => ?_) (fun h9 => ?_)
          · simp [ht, ncast, len_es, len_u, len_v] at h9
          · simp [ht, ncast, len_es, len_u, len_v] at h9
            cbv
            refine loopC (_, _, _, _, _) (by simp only [ht]; rfl) (m - 1) ?_ ((hJ4 _ _ _ _ _ _).2 ?_)
            · omega
            · simp only [ht, ncast]
              first | exact ⟨q + 1, i64_upN (by ((try simp only [ncast] at *); omega)), by ((try simp only [ncast] at *); omega), hs2⟩ | exact ⟨q + 1, i64_upN (by ((try simp only [ncast] at *); omega)), by ((try simp only [ncast] at *); omega), i3.trans (hskip (by assumption)).symm⟩
      · simp [ht, ncast, len_es, len_u, len_v] at h5
        cbv
        refine drawL [3] [3, 8, 9, 10] [false, false, false, false, false, false, false, false, false, false, false, false, true, true] (by kernel_rfl) (by kernel_rfl) (by kernel_rfl) (by kernel_rfl) (by kernel_rfl) (by kernel_rfl) ?_
        cbv
        refine gI (by simp [ht, pickI_iff]) ?_
        refine gI (by simp [ht, pickI_iff]) ?_
        refine gI (by simp [ht, pickI_iff]) ?_
        refine gI (by simp [ht, pickI_iff]) ?_
        (refine idxK ht (l := nl) (cells := Node.cells) (cT := Node.cellsT t) (by simp only [ht]; exact j3) mxn (by simp only [ht]) (fun _ => rfl) (fun _ => (by simp only [ht, Node.cellsT]; done)) ?_)
        cbv
        refine gI (by simp [ht, pickI_iff]) ?_
        refine gI (by simp [ht, pickI_iff]) ?_
        refine .inl ?_
        refine callEQ (fun g10 => ⟨trivial, trivial, c_freeE ht _ (by (simp only [ht]; ((try simp only [ncast] at *); omega))) (by (simp only [ht]; ((try simp only [ncast] at *); omega))) (by omega) (by omega)⟩) rfl rfl (fun r11 er11 => ?_)
        simp only [ht] at er11
        rw [← hfv] at er11
        subst r11
        cbv
        refine gI (by simp [ht, pickI_iff]) ?_
        refine gI (by simp [ht, pickI_iff]) ?_
        refine gI (by simp [ht, pickI_iff]) ?_
        refine callEF trivial (c_vaddE ht _ _ _ _ _ _ _ _) trivial rfl rfl (fun r12 er12 => ?_)
        simp only [ht] at er12
        first | replace er12 := er12.trans (hst (by assumption)) | replace er12 := er12.trans (hall (by assumption)).1
        subst r12
        cbv
        refine drawI [true, true, true, true, true, true, true, false, false, false, false, false, false, false, true, true, true, false, false, false, false, false, false, false, true, true, true] (by kernel_rfl) (by kernel_rfl) ?_
        cbv
        refine gI (by simp [ht, pickI_iff]) ?_
        refine gI (by simp [ht, pickI_iff]) ?_
        refine pI (by simp [ht, pickI_iff]) ?_
        refine gI (by simp [ht, pickI_iff]) ?_
        refine gI (by simp [ht, pickI_iff]) ?_
        refine gI (by simp [ht, pickI_iff]) ?_
        refine gI (by simp [ht, pickI_iff]) ?_
        (refine idxKG ht (l := nl) (cells := Node.cells) (cT := Node.cellsT t) (by simp only [ht]; exact j3) mxn (by simp only [ht]) (fun _ => rfl) (fun _ => (by simp only [ht, Node.cellsT]; done)) (fun g => by first | exact ⟨g, trivial⟩ | exact ⟨g, g, trivial⟩) ?_)
        cbv
        refine gI (by simp [ht, pickI_iff]) ?_
        refine gI (by simp [ht, pickI_iff]) ?_
        refine gI (by simp [ht, pickI_iff]) ?_
        refine pI (by simp [ht, pickI_iff]) ?_
        refine gI (by simp [ht, pickI_iff]) ?_
        refine gI (by simp [ht, pickI_iff]) ?_
        refine gI (by simp [ht, pickI_iff]) ?_
        refine gI (by simp [ht, pickI_iff]) ?_
        (refine idxKG ht (l := nl) (cells := Node.cells) (cT := Node.cellsT t) (by simp only [ht]; exact j3) mxn (by simp only [ht]) (fun _ => rfl) (fun _ => (by simp only [ht, Node.cellsT]; done)) (fun g => by first | exact ⟨g, trivial⟩ | exact ⟨g, g, trivial⟩) ?_)
        cbv
        refine gI (by simp [ht, pickI_iff]) ?_
        refine gI (by simp [ht, pickI_iff]) ?_
        refine callEQ (fun g13 => ⟨by simp [ht] at g13 ⊢; exact g13, trivial, c_vfitsE ht _ _ _ _ _ _ _ _⟩) rfl rfl (fun r14 er14 => ?_)
        simp only [ht] at er14
        replace er14 := er14.trans (hall (by assumption)).2
        subst r14
        cbv
        refine gI (by simp [ht, pickI_iff]) ?_
        refine pI (by simp [ht, pickI_iff]) ?_
        refine condI (fun h15 => ?_) (fun h15 => ?_)
        · simp [ht, ncast, len_es, len_u, len_v] at h15
          cbv
          refine retF trivial trivial rfl rfl rfl ?_
          (exfalso; simp_all; done)
        · simp [ht, ncast, len_es, len_u, len_v] at h15
          cbv
          refine loopC (_, _, _) (by simp only [ht]; rfl) (n - 1) ?_ ((hJ2 _ _ _ _).2 ?_)
          · omega
          · simp only [ht, ncast]
            exact ⟨k + 1, i64_upN (by ((try simp only [ncast] at *); omega)), by ((try simp only [ncast] at *); omega), j3, j4⟩
    · simp [ht, ncast, len_es, len_u, len_v] at h3
      cbv
      refine gI (by simp [ht, pickI_iff]) ?_
      refine callEQ (fun g16 => ⟨trivial, trivial, c_prightE ht (by (simp only [ht]; ((try simp only [ncast] at *); omega))) (by (simp only [ht]; ((try simp only [ncast] at *); omega))) (by omega) (by omega) (by assumption)⟩) rfl rfl (fun r17 er17 => ?_)
      simp only [ht] at er17
      replace er17 := er17.trans hR
      subst r17
      cbv
      refine pI (by simp [ht, pickI_iff]) ?_
      refine retF trivial trivial rfl rfl rfl ?_
      (simp [ht]; done)
end Dem
end
section
/- THE ROW: what stays right. -/
open Go Go.Proofs Go.ChangeShapes Go.WideShapes Go.RowKit
open Go.Proofs.YtegnablmooijmaaDoor
namespace Dem
set_option maxRecDepth 100000
theorem prm8 : Tryd.f8.params.toList = [22] := by kernel_rfl
theorem right_lifted (os : Os) (started : os.Started) (H : Type) (enc : TypeId × Value → H) :
    ReturnsInHanded {} Tryd.checked os 8 .any (fun w args => (Rows.poolRightSpec.pre enc Tryd.checked.prog Tryd.f8 [] false w args ∧ laidMetH Tryd.prog laidL w) ∧ sizedMet enc Tryd.checked.prog Tryd.f8 (OpenSpec.ofChange Rows.poolRightSpec) false w args)
      (Rows.poolRightSpec.post enc Tryd.checked.prog Tryd.f8 false true false false) := by
  refine lifted_of started Tryd.func8 (by kernel_rfl) rfl (by kernel_rfl) (by kernel_rfl) ?_
    (ChangeSpec.witness_shaped (enc := enc) (C := Tryd.checked) (os := os) (X := fun w _ => laidMetH Tryd.prog laidL w) false (World.doorLaid Tryd.prog 400 os) #[.slice none 0 0] 8 rfl (World.shaped_of_RefB (by kernel_rfl) (by kernel_rfl)) (by kernel_rfl) (by kernel_rfl) (by kernel_rfl) (door_met os _)) ?_
  · intro ds hd
    rw [prm8] at hd
    obtain ⟨d, rfl⟩ := List.length_eq_one_iff.1 hd
    exact ⟨rfl, rfl, rfl⟩
  · intro W args ds p hL hA hval
    rw [prm8] at hA
    obtain ⟨v0, d0, h1, rfl, h0⟩ := trodAll_one hA
    obtain ⟨b0, hv0⟩ := hval 0 22 v0 (by kernel_rfl) (by rw [← Array.getElem?_toList, h1]; rfl)
    obtain ⟨l, hl, hu, hn⟩ := arg_laids hv0 h0
    have ea : args = ⟨[v0]⟩ := by cases args; simp_all
    subst ea
    exact calls_true hL (fun _ _ => rfl) (by simp only [RepAs]; exact ⟨v0, [], rfl, hl, rfl⟩) (c_poolRight (fun _ _ => rfl) rfl hu (by have : maxLen < 9223372036854775808 := (by decide); omega))
theorem right_row : Rows.PoolRightSaid :=
  OpenClaim.holds_of_wide 8 Tryd.f8 rfl rfl rfl rfl rfl rfl rfl ⟨rfl, rfl, rfl, rfl, rfl⟩ rfl rfl rfl rfl rfl (by kernel_rfl) Tryd.func8 (by kernel_rfl)
    (of_decide_eq_true (by kernel_rfl)) (by unfold Func.isWrapper; first | (rw [if_pos (by decide +kernel)]; kernel_rfl) | (rw [if_neg (by decide +kernel)]; exact ⟨rfl, rfl⟩))
    (fun os started H enc _ => right_lifted os started H enc)
end Dem
end
