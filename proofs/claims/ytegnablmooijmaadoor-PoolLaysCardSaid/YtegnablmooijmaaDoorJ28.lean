/- JOINED TEXTS: Pl5, Co26, Co2. -/
import Derived.Test.YtegnablmooijmaaDoorJ21
import Derived.Test.YtegnablmooijmaaDoorJ22
import Derived.Test.YtegnablmooijmaaDoorJ23
import Derived.Test.YtegnablmooijmaaDoorJ25
import Derived.Test.YtegnablmooijmaaDoorJ26
import Derived.Test.YtegnablmooijmaaDoorJ27
set_option linter.unusedSimpArgs false
set_option linter.unusedVariables false
section
/- PLAIN LAW: bounds of a pool of which some is done. -/
open Go
namespace Dem
def fillT (l : List Laid) (k : Nat) : Pool := (l.take k).foldl fill1 ⟨[], []⟩
theorem fillT_succ {l : List Laid} {k : Nat} {x : Laid} (h : l[k]? = some x) : fillT l (k + 1) = fill1 (fillT l k) x := by
  unfold fillT; rw [take_snoc h, List.foldl_append]; rfl
theorem fillT_ok (l : List Laid) (k : Nat) : (fillT l k).ok ∧ (fillT l k).w :=
  foldl_inv (P := fun p : Pool => p.ok ∧ p.w) (fun p x h => fill1_ok h.1 h.2 x) _ _ ⟨none_ok, none_w⟩
structure Pool.lim (p : Pool) (k : Nat) : Prop where
  places : p.places.length ≤ 3 * k
  jobs : ∀ x ∈ p.places, 0 ≤ x.job ∧ x.job < 6
  sm : ∀ n ∈ p.nodes, n.sm
  names : ∀ n ∈ p.nodes, n.name ∈ nodesL
  labs : ∀ n ∈ p.nodes, ∃ k, n.labels = labelsN k
theorem labelsN_sm (n : Nat) : (labelsN n).length ≤ 2 ∧ ∀ q ∈ labelsN n, q.sm := by
  unfold labelsN
  split <;> simp [Pair.sm, zone, disk, ssd]
theorem nodeN_mem {k : Nat} (h : k < 5) : nodeN k ∈ nodesL := by
  unfold nodeN
  rw [List.getD_eq_getElem?_getD, List.getElem?_eq_getElem (by simpa [nodesL] using h)]
  exact List.getElem_mem _
theorem nodesL_len {s : Str} (h : s ∈ nodesL) : s.length ≤ 4 := by
  simp only [nodesL, List.mem_cons, List.not_mem_nil, or_false] at h
  rcases h with rfl | rfl | rfl | rfl | rfl <;> decide
theorem play_len (p : Pool) (job : Int) (names : List Str) (v : Vec) : (play p job names v).1.places.length ≤ p.places.length + names.length ∧ (play p job names v).1.nodes = p.nodes ∧ ∀ x ∈ (play p job names v).1.places, x ∈ p.places ∨ x.job = job := by
  rcases play_cases p job names v with ⟨e, _⟩ | ⟨e, _⟩
  · rw [e]; exact ⟨by omega, rfl, fun x hx => .inl hx⟩
  · rw [e]
    refine ⟨by simp, rfl, fun x hx => ?_⟩
    rcases List.mem_append.1 hx with hx | hx
    · exact .inl hx
    · obtain ⟨n, _, rfl⟩ := List.mem_map.1 hx; exact .inr rfl
theorem pturn_mem {p : Pool} (ha : Asc p.nodes) (name : Str) (up : Bool) : (pturn p name up).1.places = p.places ∧ ∀ n ∈ (pturn p name up).1.nodes, ∃ m ∈ p.nodes, n.name = m.name ∧ n.cap = m.cap ∧ n.labels = m.labels := by
  rcases pturn_cases p ha name up with ⟨e, _⟩ | ⟨i, x, hx, hn, _, ⟨_, e⟩ | ⟨_, e⟩⟩
  · rw [e]; exact ⟨rfl, fun n hn => ⟨n, hn, rfl, rfl, rfl⟩⟩
  · rw [e]; exact ⟨rfl, fun n hn => ⟨n, hn, rfl, rfl, rfl⟩⟩
  · rw [e]
    refine ⟨rfl, fun n hn => ?_⟩
    rcases set_mem hn with hn | rfl
    · exact ⟨n, hn, rfl, rfl, rfl⟩
    · exact ⟨x, List.mem_of_getElem? hx, rfl, rfl, rfl⟩
theorem names_len (x : Laid) : x.names.length ≤ 3 := by simp [Laid.names]; omega
theorem fill1_lim {p : Pool} {k : Nat} (ho : p.ok) (h : p.lim k) (x : Laid) : (fill1 p x).lim (k + 1) := by
  have hturn : ∀ up, (pturn p (nodeN (x.node % 5)) up).1.lim (k + 1) := by
    intro up
    obtain ⟨e, hm⟩ := pturn_mem ho.asc (nodeN (x.node % 5)) up
    refine ⟨by rw [e]; have := h.places; omega, by rw [e]; exact h.jobs, fun n hn => ?_, fun n hn => ?_, fun n hn => ?_⟩
    · obtain ⟨m, hm, e1, _, e3⟩ := hm n hn
      have := h.sm m hm; unfold Node.sm at this ⊢; rw [e1, e3]; exact this
    · obtain ⟨m, hm, e1, _⟩ := hm n hn
      rw [e1]; exact h.names m hm
    · obtain ⟨m, hm, _, _, e3⟩ := hm n hn
      rw [e3]; exact h.labs m hm
  unfold fill1
  split
  · rcases padd_cases p ⟨nodeN (x.node % 5), nine, labelsN x.n, false⟩ with ⟨e, _⟩ | ⟨_, _, _, e⟩
    · rw [e]; exact ⟨by have := h.places; omega, h.jobs, h.sm, h.names, h.labs⟩
    · rw [e]
      refine ⟨by have := h.places; simp only; omega, h.jobs, fun n hn => ?_, fun n hn => ?_, fun n hn => ?_⟩
      · rcases mem_ins.1 hn with hn | rfl
        · exact h.sm n hn
        · have := nodesL_len (nodeN_mem (Nat.mod_lt x.node (show 5 > 0 by decide)))
          have := labelsN_sm x.n
          exact ⟨by simp only; omega, by simp only; omega, this.2⟩
      · rcases mem_ins.1 hn with hn | rfl
        · exact h.names n hn
        · exact nodeN_mem (Nat.mod_lt x.node (show 5 > 0 by decide))
      · rcases mem_ins.1 hn with hn | rfl
        · exact h.labs n hn
        · exact ⟨_, rfl⟩
  · split
    · obtain ⟨h1, h2, h3⟩ := play_len p (x.job % 6 : Nat) x.names x.amount
      refine ⟨by have := h.places; have := names_len x; omega, fun y hy => ?_, by rw [h2]; exact h.sm, by rw [h2]; exact h.names, by rw [h2]; exact h.labs⟩
      rcases h3 y hy with h4 | h4
      · exact h.jobs y h4
      · rw [h4]; omega
    · split
      · refine ⟨?_, fun y hy => h.jobs y (List.mem_filter.1 hy).1, h.sm, h.names, h.labs⟩
        have := h.places
        have := List.length_filter_le (fun y : Place => !decide (y.job = ((x.job % 6 : Nat) : Int))) p.places
        unfold pdrop; simp only; omega
      · split
        · exact hturn false
        · exact hturn true
theorem fillT_lim (l : List Laid) : ∀ k, (fillT l k).lim k
  | 0 => ⟨by simp [fillT], by simp [fillT], by simp [fillT], by simp [fillT], by simp [fillT]⟩
  | k + 1 => by
    cases h : l[k]? with
    | some x => rw [fillT_succ h]; exact fill1_lim (fillT_ok l k).1 (fillT_lim l k) x
    | none =>
      have hk : l.length ≤ k := List.getElem?_eq_none_iff.1 h
      have e : fillT l (k + 1) = fillT l k := by unfold fillT; rw [List.take_of_length_le hk, List.take_of_length_le (by omega)]
      have := fillT_lim l k
      rw [e]; exact ⟨by have := this.places; omega, this.jobs, this.sm, this.names, this.labs⟩
theorem met_six {name : Str} {ps : List Place} (h : ∀ x ∈ ps, 0 ≤ x.job ∧ x.job < 6) : (metKeys name ps).length ≤ 6 := by
  have hs : metKeys name ps ⊆ [0, 1, 2, 3, 4, 5] := by
    intro j hj
    rw [metKeys, metKeys_mem] at hj
    obtain ⟨x, hx, _, rfl⟩ := hj.resolve_left (by simp)
    have := h x hx
    simp only [List.mem_cons, List.not_mem_nil, or_false]
    omega
  exact List.Nodup.length_le_of_subset (metKeys_nodup name ps [] List.nodup_nil) hs
theorem fillS_T (l : List Laid) : fillS l = fillT l 40 := rfl
theorem fillT_end {l : List Laid} {k : Nat} (hk : k ≤ 40) (h : k < l.length → 40 ≤ k) : fillS l = fillT l k := by
  rw [fillS_T]
  rcases Nat.lt_or_ge k l.length with g | g
  · rw [show k = 40 by have := h g; omega]
  · unfold fillT; rw [List.take_of_length_le g, List.take_of_length_le (by omega)]
theorem fill1_add {p : Pool} {x : Laid} (h : x.kind % 8 = 0 ∨ x.kind % 8 = 1) : fill1 p x = (padd p ⟨nodeN (x.node % 5), nine, labelsN x.n, false⟩).1 := by
  unfold fill1; rw [if_pos (by omega)]
theorem fill1_lay {p : Pool} {x : Laid} (h : x.kind % 8 = 2 ∨ x.kind % 8 = 3 ∨ x.kind % 8 = 4) : fill1 p x = (play p (x.job % 6 : Nat) x.names x.amount).1 := by
  unfold fill1; rw [if_neg (by omega), if_pos (by omega)]
theorem fill1_drop {p : Pool} {x : Laid} (h : x.kind % 8 = 5) : fill1 p x = pdrop p (x.job % 6 : Nat) := by
  unfold fill1; rw [if_neg (by omega), if_neg (by omega), if_pos h]
theorem fill1_fail {p : Pool} {x : Laid} (h : x.kind % 8 = 6) : fill1 p x = (pfail p (nodeN (x.node % 5))).1 := by
  unfold fill1 pfail; rw [if_neg (by omega), if_neg (by omega), if_neg (by omega), if_pos h]; split <;> rfl
theorem fill1_mend {p : Pool} {x : Laid} (h : x.kind % 8 = 7) : fill1 p x = (pturn p (nodeN (x.node % 5)) true).1 := by
  unfold fill1; rw [if_neg (by omega), if_neg (by omega), if_neg (by omega), if_neg (by omega)]
end Dem
end
section
/- CONTRACTS: a pool of which some is done. -/
open Go Dem Go.Proofs
namespace Dem
set_option maxRecDepth 100000
set_option maxHeartbeats 4000000
variable {t : Th}
theorem c_dropE (ht : TT t) (job : Int) {l : List Node} {ps : List Place} {es qs : List (List D)} (hes : es = l.map Node.cells) (hqs : qs = ps.map Place.cells) (hl : ps.length < 1000000) :
    FC 10 [.agg [SL es, SL qs], U64 job] [] (.ret (EPool t (t _ fun _ => pdrop ⟨l, ps⟩ job))) [] := by
  simp only [ht, EPool, pdrop]; rw [← hes]; exact c_poolDrop ht job hqs hl rfl
def nmOf (x : Laid) (j : Nat) : Str := nodeN ((x.node + j * (x.n / 3)) % 5)
theorem names_of (x : Laid) : x.names = (List.range (1 + x.n % 3)).map (nmOf x) := rfl
theorem wcond (n : Nat) : IntKind.i64.wrap (1 + IntKind.i64.wrap ((n : Int) % 3)) = 1 + (n : Int) % 3 := by rw [wrap64 (x := (n : Int) % 3) (by omega) (by omega), wrap64 (by omega) (by omega)]
theorem lay_idx (nd j n : Nat) (h1 : nd < 256) (h2 : j ≤ 3) (h3 : n < 256) : (IntKind.i64.wrap (IntKind.i64.wrap (nd : Int) + IntKind.i64.wrap ((j : Int) * IntKind.i64.wrap (IntKind.u8.wrap ((n : Int).tdiv 3))))).tmod 5 = (((nd + j * (n / 3)) % 5 : Nat) : Int) := by
  have hm : j * (n / 3) ≤ 3 * 86 := Nat.mul_le_mul h2 (by omega)
  rw [td3, wu8 _ (by omega), wi64 (n / 3) (by omega), ← Int.natCast_mul, wi64 (j * (n / 3)) (by omega), wi64 nd (by omega), ← Int.natCast_add, wi64 _ (by omega), tm5]
theorem c_filledE (ht : TT t) {l : List Laid} {es : List (List D)} (hes : es = l.map Laid.cells) (hu : ∀ x ∈ l, x.u) (hl : l.length < 9223372036854775808) :
    FC 11 [SL es] [] (.ret (EPool t (t _ fun _ => fillS l))) [] := by
  obtain ⟨ns, hns⟩ : ∃ ns : List (List D), ns = nodesL.map strRow := ⟨_, rfl⟩
  refine fc' ht (bx0 := []) Tryd.func11 (c := _) rfl rfl (N := 114) rfl (rs := _) rfl (n := 0) rfl rfl ?_
  cbv
  have len_es : es.length = l.length := by rw [hes, List.length_map]
  obtain ⟨J0, hJ0⟩ : ∃ J0 : Nat → Int × List (List D) × List (List D) → Prop, ∀ n i u v, J0 n (i, u, v) ↔ (∃ (k : Nat), i = k ∧ k ≤ 40 ∧ n + k = 40 ∧ u = (fillT l k).nodes.map Node.cells ∧ v = (fillT l k).places.map Place.cells) := ⟨fun n v => match v with | (i, u, v) => (∃ (k : Nat), i = k ∧ k ≤ 40 ∧ n + k = 40 ∧ u = (fillT l k).nodes.map Node.cells ∧ v = (fillT l k).places.map Place.cells), fun _ _ _ _ => Iff.rfl⟩
  refine loopU ⟨[0, 2, 3, 4], [], [(1, 0, 0), (1, 1, 0)]⟩ (σ := Int × List (List D) × List (List D)) (fun v => [(4, .d (.int .i64 (t _ fun _ => v.1)))]) (fun v => [(1, .var [.d (.sl (t _ fun _ => v.2.1)), .d (.sl (t _ fun _ => v.2.2))])]) J0 ?_
  cbv
  refine loopIn ⟨40, (_, _, _), (hJ0 _ _ _ _).2 ?_, by simp only [ht]; rfl, ?_⟩
  · exact ⟨0, rfl, by omega, by omega, by simp [fillT], by simp [fillT]⟩
  rintro n ⟨i, u, v⟩ hj
  replace hj := (hJ0 _ _ _ _).1 hj
  obtain ⟨k, rfl, j1, j2, j3, j4⟩ := hj
  obtain ⟨⟨nl, pl⟩, hP⟩ : ∃ P, P = fillT l k := ⟨_, rfl⟩
  have lim := fillT_lim l k
  have oks := (fillT_ok l k).1
  rw [← hP] at lim oks j3 j4
  have bn : nl.length ≤ 16 := oks.most
  have bp : pl.length ≤ 3 * k := lim.places
  have b12 : ∀ name, (metKeys name pl).length ≤ 12 := fun name => Nat.le_trans (met_six lim.jobs) (by decide)
  have bj : ∀ x ∈ pl, 0 ≤ x.job ∧ x.job < 18446744073709551616 := fun x hx => ⟨(lim.jobs x hx).1, by have := (lim.jobs x hx).2; omega⟩
  cbv
  refine gI (by simp [ht, pickI_iff]) ?_
  refine gI (by simp [ht, pickI_iff]) ?_
  refine pI (by simp [ht, pickI_iff]) ?_
  refine condI (fun h1 => ?_) (fun h1 => ?_)
  · simp [ht, ncast, len_es, tm8, tm3, td3, wcond] at h1
    cbv
    refine idxM ht hes (cT := Laid.cellsT t) (by (simp only [ht, ncast]; omega)) (by (simp only [ht, ncast]; omega)) (fun _ => rfl) (fun _ => (by (simp only [ht, Laid.cellsT]; rfl))) (fun x2 mx2 => ?_)
    simp [ht, ncast] at mx2
    have hux := hu _ (List.mem_of_getElem? mx2)
    obtain ⟨nm, hnm⟩ : ∃ nm, nm = nodeN ((x2).node % 5) := ⟨_, rfl⟩
    have hnl : nm.length ≤ 4 := by rw [hnm]; exact nodesL_len (nodeN_mem (Nat.mod_lt _ (by decide)))
    obtain ⟨hl1, hl2⟩ := labelsN_sm (x2).n
    cbv
    refine drawI [false, false, false, false, true, true, true] (by kernel_rfl) (by kernel_rfl) ?_
    cbv
    refine .inl ?_
    refine callQS (fun g9 => ⟨trivial, trivial, c_nodesN ht hns⟩) rfl rfl rfl ?_
    cbv
    refine gI (by simp [ht, pickI_iff]) ?_
    refine gI (by simp [ht, pickI_iff]) ?_
    refine gI (by simp [ht, pickI_iff]) ?_
    (refine idxK ht hns (cT := strCellsT t) (i := x2.node % 5) (x := nm) (by rw [hnm]; exact nodeN_get (Nat.mod_lt _ (by decide))) (by simp only [ht, tm5]) (fun _ => rfl) (fun _ => rfl) ?_)
    cbv
    refine ⟨?_, ?_⟩
    · (simp only [ht, ncast] at *; omega)
    cbv
    refine condI (fun h3 => ?_) (fun h3 => ?_)
    · simp [ht, ncast, len_es, tm8, tm3, td3, wcond] at h3
      cbv
      refine condI (fun h4 => ?_) (fun h4 => ?_)
      · simp [ht, ncast, len_es, tm8, tm3, td3, wcond] at h4
        cbv
        refine drawL [1] [1, 8, 9, 10] [false, false, false, false, false, false, false, true, true, false, false, true] (by kernel_rfl) (by kernel_rfl) (by kernel_rfl) (by kernel_rfl) (by kernel_rfl) (by kernel_rfl) ?_
        cbv
        refine gI (by simp [ht, pickI_iff]) ?_
        refine gI (by simp [ht, pickI_iff]) ?_
        refine gI (by simp [ht, pickI_iff]) ?_
        refine gI (by simp [ht, pickI_iff]) ?_
        refine gI (by simp [ht, pickI_iff]) ?_
        refine .inl ?_
        (obtain ⟨lr, hlr⟩ : ∃ lr : List (List D), lr = (labelsN x2.n).map Pair.cells := ⟨_, rfl⟩; refine callQS (fun g9 => ⟨trivial, trivial, c_labelsN ht x2.n hux.n (by simp only [ht]) hlr⟩) rfl rfl rfl ?_)
        cbv
        refine gI (by simp [ht, pickI_iff]) ?_
        refine callES trivial (c_addE ht (by (simp only [ht]; ((try simp only [ncast] at *); omega))) (by (simp only [ht]; ((try simp only [ncast] at *); omega))) _ _ _ _ _ (by assumption) _ (by omega) (by omega) (by omega) (by assumption)) trivial rfl rfl rfl (fun r5 er5 => ?_)
        simp only [ht] at er5
        have hf : (r5).1 = fill1 ⟨nl, pl⟩ x2 := by rw [er5, fill1_add (by ((try simp only [ncast] at *); omega)), ← hnm]; rfl
        cbv
        refine gI (by simp [ht, pickI_iff]) ?_
        refine gI (by simp [ht, pickI_iff]) ?_
        refine loopC (_, _, _) (by simp only [ht]; rfl) (n - 1) ?_ ((hJ0 _ _ _ _).2 ?_)
        · ((try simp only [ncast] at *); omega)
        · simp only [ht, ncast]
          exact ⟨k + 1, i64_upN (by ((try simp only [ncast] at *); omega)), by ((try simp only [ncast] at *); omega), by ((try simp only [ncast] at *); omega), by rw [fillT_succ mx2, ← hP, ← hf], by rw [fillT_succ mx2, ← hP, ← hf]⟩
      · simp [ht, ncast, len_es, tm8, tm3, td3, wcond] at h4
        contradiction
    · simp [ht, ncast, len_es, tm8, tm3, td3, wcond] at h3
      cbv
      refine condI (fun h6 => ?_) (fun h6 => ?_)
      · simp [ht, ncast, len_es, tm8, tm3, td3, wcond] at h6
        cbv
        refine drawL [1] [1, 8, 9, 10] [false, false, false, false, false, false, false, true, true, false, false, true] (by kernel_rfl) (by kernel_rfl) (by kernel_rfl) (by kernel_rfl) (by kernel_rfl) (by kernel_rfl) ?_
        cbv
        refine gI (by simp [ht, pickI_iff]) ?_
        refine gI (by simp [ht, pickI_iff]) ?_
        refine gI (by simp [ht, pickI_iff]) ?_
        refine gI (by simp [ht, pickI_iff]) ?_
        refine gI (by simp [ht, pickI_iff]) ?_
        refine .inl ?_
        (obtain ⟨lr, hlr⟩ : ∃ lr : List (List D), lr = (labelsN x2.n).map Pair.cells := ⟨_, rfl⟩; refine callQS (fun g9 => ⟨trivial, trivial, c_labelsN ht x2.n hux.n (by simp only [ht]) hlr⟩) rfl rfl rfl ?_)
        cbv
        refine gI (by simp [ht, pickI_iff]) ?_
        refine callES trivial (c_addE ht (by (simp only [ht]; ((try simp only [ncast] at *); omega))) (by (simp only [ht]; ((try simp only [ncast] at *); omega))) _ _ _ _ _ (by assumption) _ (by omega) (by omega) (by omega) (by assumption)) trivial rfl rfl rfl (fun r7 er7 => ?_)
        simp only [ht] at er7
        have hf : (r7).1 = fill1 ⟨nl, pl⟩ x2 := by rw [er7, fill1_add (by ((try simp only [ncast] at *); omega)), ← hnm]; rfl
        cbv
        refine gI (by simp [ht, pickI_iff]) ?_
        refine gI (by simp [ht, pickI_iff]) ?_
        refine loopC (_, _, _) (by simp only [ht]; rfl) (n - 1) ?_ ((hJ0 _ _ _ _).2 ?_)
        · ((try simp only [ncast] at *); omega)
        · simp only [ht, ncast]
          exact ⟨k + 1, i64_upN (by ((try simp only [ncast] at *); omega)), by ((try simp only [ncast] at *); omega), by ((try simp only [ncast] at *); omega), by rw [fillT_succ mx2, ← hP, ← hf], by rw [fillT_succ mx2, ← hP, ← hf]⟩
      · simp [ht, ncast, len_es, tm8, tm3, td3, wcond] at h6
        cbv
        refine condI (fun h8 => ?_) (fun h8 => ?_)
        · simp [ht, ncast, len_es, tm8, tm3, td3, wcond] at h8
          cbv
          refine condI (fun h9 => ?_) (fun h9 => ?_)
          · simp [ht, ncast, len_es, tm8, tm3, td3, wcond] at h9
            cbv
            obtain ⟨J10, hJ10⟩ : ∃ J10 : Nat → List (List D) × Int → Prop, ∀ m o z, J10 m (o, z) ↔ (∃ (j : Nat), z = j ∧ j + m = 1 + x2.n % 3 ∧ o = ((List.range j).map (nmOf x2)).map strRow) := ⟨fun m v => match v with | (o, z) => (∃ (j : Nat), z = j ∧ j + m = 1 + x2.n % 3 ∧ o = ((List.range j).map (nmOf x2)).map strRow), fun _ _ _ => Iff.rfl⟩
            refine loopU ⟨[0, 2, 3, 4, 5, 7, 8], [(7, 1)], []⟩ (σ := List (List D) × Int) (fun v => [(7, .ow 3 1 (t _ fun _ => (v.1).length)), (8, .d (.int .i64 (t _ fun _ => v.2)))]) (fun v => [(3, .row 1 (t _ fun _ => v.1))]) J10 ?_
            cbv
            refine loopIn ⟨(1 + x2.n % 3), ([], _), (hJ10 _ _ _).2 ?_, by simp only [ht]; rfl, ?_⟩
            · exact ⟨0, rfl, by omega, rfl⟩
            rintro m ⟨o, z⟩ hj
            replace hj := (hJ10 _ _ _).1 hj
            obtain ⟨j, rfl, i1, i3⟩ := hj
            obtain ⟨nj, hnj⟩ : ∃ nj, nj = nmOf x2 j := ⟨_, rfl⟩
            have hnv := hux.n
            have hnd := hux.node
            have hjj := hux.job
            have hlo : ((List.range j).map (nmOf x2)).length = j := by simp
            cbv
            refine ⟨?_, ?_⟩
            · (simp only [ht, ncast] at *; omega)
            cbv
            refine condI (fun h11 => ?_) (fun h11 => ?_)
            · simp [ht, ncast, len_es, tm8, tm3, td3, wcond] at h11
              cbv
              refine drawI [false, false, false, false, false, false, false, false, false, false, false, false, false, false, false, false, true, true] (by kernel_rfl) (by kernel_rfl) ?_
              cbv
              refine gI (by simp [ht, pickI_iff]) ?_
              refine .inl ?_
              refine callQS (fun g9 => ⟨trivial, trivial, c_nodesN ht hns⟩) rfl rfl rfl ?_
              cbv
              refine gI (by simp [ht, pickI_iff]) ?_
              refine gI (by simp [ht, pickI_iff]) ?_
              refine gI (by simp [ht, pickI_iff]) ?_
              refine gI (by simp [ht, pickI_iff]) ?_
              refine gI (by simp [ht, pickI_iff]) ?_
              refine gI (by simp [ht, pickI_iff]) ?_
              refine gI (by simp [ht, pickI_iff]) ?_
              refine gI (by simp [ht, pickI_iff]) ?_
              refine gI (by simp [ht, pickI_iff]) ?_
              refine gI (by simp [ht, pickI_iff]) ?_
              refine gI (by simp [ht, pickI_iff]) ?_
              (refine idxK ht hns (cT := strCellsT t) (i := (x2.node + j * (x2.n / 3)) % 5) (x := nj) (by rw [hnj]; exact nodeN_get (Nat.mod_lt _ (by decide))) (by simp only [ht]; exact lay_idx _ _ _ hnd (by ((try simp only [ncast] at *); omega)) hnv) (fun _ => rfl) (fun _ => rfl) ?_)
              cbv
              refine gI (by simp [ht, pickI_iff]) ?_
              refine gI (by simp [ht, pickI_iff]) ?_
              refine ⟨?_, ?_⟩
              · (simp only [ht, ncast, EPool]; grind)
              cbv
              refine loopC (_, _) (by simp only [ht, ← List.length_append]; rfl) (m - 1) ?_ ((hJ10 _ _ _).2 ?_)
              · ((try simp only [ncast] at *); omega)
              · simp only [ht, ncast]
                exact ⟨j + 1, i64_upN (by ((try simp only [ncast] at *); omega)), by ((try simp only [ncast] at *); omega), by rw [i3, hnj, List.range_succ, List.map_append, List.map_append]; rfl⟩
            · simp [ht, ncast, len_es, tm8, tm3, td3, wcond] at h11
              cbv
              refine drawL [5] [5, 9, 10, 11] [false, false, false, false, false, false, false, false, true, true, false, false, true] (by kernel_rfl) (by kernel_rfl) (by kernel_rfl) (by kernel_rfl) (by kernel_rfl) (by kernel_rfl) ?_
              cbv
              refine gI (by simp [ht, pickI_iff]) ?_
              refine gI (by simp [ht, pickI_iff]) ?_
              refine gI (by simp [ht, pickI_iff]) ?_
              refine gI (by simp [ht, pickI_iff]) ?_
              refine gI (by simp [ht, pickI_iff]) ?_
              refine gI (by simp [ht, pickI_iff]) ?_
              refine gI (by simp [ht, pickI_iff]) ?_
              refine .inl ?_
              refine callEQ (fun g9 => ⟨trivial, trivial, c_amountE ht x2 hux (by simp only [ht]) (by simp only [ht])⟩) rfl rfl (fun r9 er9 => ?_)
              cbv
              (refine callEZ (E := EPoolE t) (r0 := t _ fun _ => play ⟨nl, pl⟩ (t _ fun _ => IntKind.u64.wrap (t _ fun _ => (t _ fun _ => (x2.job : Int)).tmod 6)) ((List.range j).map (nmOf x2)) ⟨r9.1, r9.2, r9.3, r9.4⟩) trivial rfl (by simp [ht]) (by exact fcalls_more [] rfl rfl rfl rfl (c_layE ht _ _ _ _ _ (l := nl) (ps := pl) (by simp only [ht]; exact j3) (by simp only [ht]; exact j4) (by simp only [ht]; exact i3) (by omega) (by omega) (by omega))) (fun r11 er11 => ?_); simp only [ht] at er11; have hf : r11.1 = fill1 ⟨nl, pl⟩ x2 := (by rw [er11, fill1_lay (by ((try simp only [ncast] at *); omega)), names_of, show 1 + x2.n % 3 = j by ((try simp only [ncast] at *); omega), tm6, wu64 _ (by ((try simp only [ncast] at *); omega))]; simp only [ht] at er9; rw [← er9]))
              cbv
              refine gI (by simp [ht, pickI_iff]) ?_
              refine gI (by simp [ht, pickI_iff]) ?_
              refine loopC (_, _, _) (by simp only [ht]; rfl) (n - 1) ?_ ((hJ0 _ _ _ _).2 ?_)
              · ((try simp only [ncast] at *); omega)
              · simp only [ht, ncast]
                exact ⟨k + 1, i64_upN (by ((try simp only [ncast] at *); omega)), by ((try simp only [ncast] at *); omega), by ((try simp only [ncast] at *); omega), by rw [fillT_succ mx2, ← hP, ← hf], by rw [fillT_succ mx2, ← hP, ← hf]⟩
          · simp [ht, ncast, len_es, tm8, tm3, td3, wcond] at h9
            contradiction
        · simp [ht, ncast, len_es, tm8, tm3, td3, wcond] at h8
          cbv
          refine condI (fun h12 => ?_) (fun h12 => ?_)
          · simp [ht, ncast, len_es, tm8, tm3, td3, wcond] at h12
            cbv
            refine condI (fun h13 => ?_) (fun h13 => ?_)
            · simp [ht, ncast, len_es, tm8, tm3, td3, wcond] at h13
              cbv
              obtain ⟨J14, hJ14⟩ : ∃ J14 : Nat → List (List D) × Int → Prop, ∀ m o z, J14 m (o, z) ↔ (∃ (j : Nat), z = j ∧ j + m = 1 + x2.n % 3 ∧ o = ((List.range j).map (nmOf x2)).map strRow) := ⟨fun m v => match v with | (o, z) => (∃ (j : Nat), z = j ∧ j + m = 1 + x2.n % 3 ∧ o = ((List.range j).map (nmOf x2)).map strRow), fun _ _ _ => Iff.rfl⟩
              refine loopU ⟨[0, 2, 3, 4, 5, 7, 8], [(7, 1)], []⟩ (σ := List (List D) × Int) (fun v => [(7, .ow 3 1 (t _ fun _ => (v.1).length)), (8, .d (.int .i64 (t _ fun _ => v.2)))]) (fun v => [(3, .row 1 (t _ fun _ => v.1))]) J14 ?_
              cbv
              refine loopIn ⟨(1 + x2.n % 3), ([], _), (hJ14 _ _ _).2 ?_, by simp only [ht]; rfl, ?_⟩
              · exact ⟨0, rfl, by omega, rfl⟩
              rintro m ⟨o, z⟩ hj
              replace hj := (hJ14 _ _ _).1 hj
              obtain ⟨j, rfl, i1, i3⟩ := hj
              obtain ⟨nj, hnj⟩ : ∃ nj, nj = nmOf x2 j := ⟨_, rfl⟩
              have hnv := hux.n
              have hnd := hux.node
              have hjj := hux.job
              have hlo : ((List.range j).map (nmOf x2)).length = j := by simp
              cbv
              refine ⟨?_, ?_⟩
              · (simp only [ht, ncast] at *; omega)
              cbv
              refine condI (fun h15 => ?_) (fun h15 => ?_)
              · simp [ht, ncast, len_es, tm8, tm3, td3, wcond] at h15
                cbv
                refine drawI [false, false, false, false, false, false, false, false, false, false, false, false, false, false, false, false, true, true] (by kernel_rfl) (by kernel_rfl) ?_
                cbv
                refine gI (by simp [ht, pickI_iff]) ?_
                refine .inl ?_
                refine callQS (fun g9 => ⟨trivial, trivial, c_nodesN ht hns⟩) rfl rfl rfl ?_
                cbv
                refine gI (by simp [ht, pickI_iff]) ?_
                refine gI (by simp [ht, pickI_iff]) ?_
                refine gI (by simp [ht, pickI_iff]) ?_
                refine gI (by simp [ht, pickI_iff]) ?_
                refine gI (by simp [ht, pickI_iff]) ?_
                refine gI (by simp [ht, pickI_iff]) ?_
                refine gI (by simp [ht, pickI_iff]) ?_
                refine gI (by simp [ht, pickI_iff]) ?_
                refine gI (by simp [ht, pickI_iff]) ?_
                refine gI (by simp [ht, pickI_iff]) ?_
                refine gI (by simp [ht, pickI_iff]) ?_
                (refine idxK ht hns (cT := strCellsT t) (i := (x2.node + j * (x2.n / 3)) % 5) (x := nj) (by rw [hnj]; exact nodeN_get (Nat.mod_lt _ (by decide))) (by simp only [ht]; exact lay_idx _ _ _ hnd (by ((try simp only [ncast] at *); omega)) hnv) (fun _ => rfl) (fun _ => rfl) ?_)
                cbv
                refine gI (by simp [ht, pickI_iff]) ?_
                refine gI (by simp [ht, pickI_iff]) ?_
                refine ⟨?_, ?_⟩
                · (simp only [ht, ncast, EPool]; grind)
                cbv
                refine loopC (_, _) (by simp only [ht, ← List.length_append]; rfl) (m - 1) ?_ ((hJ14 _ _ _).2 ?_)
                · ((try simp only [ncast] at *); omega)
                · simp only [ht, ncast]
                  exact ⟨j + 1, i64_upN (by ((try simp only [ncast] at *); omega)), by ((try simp only [ncast] at *); omega), by rw [i3, hnj, List.range_succ, List.map_append, List.map_append]; rfl⟩
              · simp [ht, ncast, len_es, tm8, tm3, td3, wcond] at h15
                cbv
                refine drawL [5] [5, 9, 10, 11] [false, false, false, false, false, false, false, false, true, true, false, false, true] (by kernel_rfl) (by kernel_rfl) (by kernel_rfl) (by kernel_rfl) (by kernel_rfl) (by kernel_rfl) ?_
                cbv
                refine gI (by simp [ht, pickI_iff]) ?_
                refine gI (by simp [ht, pickI_iff]) ?_
                refine gI (by simp [ht, pickI_iff]) ?_
                refine gI (by simp [ht, pickI_iff]) ?_
                refine gI (by simp [ht, pickI_iff]) ?_
                refine gI (by simp [ht, pickI_iff]) ?_
                refine gI (by simp [ht, pickI_iff]) ?_
                refine .inl ?_
                refine callEQ (fun g9 => ⟨trivial, trivial, c_amountE ht x2 hux (by simp only [ht]) (by simp only [ht])⟩) rfl rfl (fun r9 er9 => ?_)
                cbv
                (refine callEZ (E := EPoolE t) (r0 := t _ fun _ => play ⟨nl, pl⟩ (t _ fun _ => IntKind.u64.wrap (t _ fun _ => (t _ fun _ => (x2.job : Int)).tmod 6)) ((List.range j).map (nmOf x2)) ⟨r9.1, r9.2, r9.3, r9.4⟩) trivial rfl (by simp [ht]) (by exact fcalls_more [] rfl rfl rfl rfl (c_layE ht _ _ _ _ _ (l := nl) (ps := pl) (by simp only [ht]; exact j3) (by simp only [ht]; exact j4) (by simp only [ht]; exact i3) (by omega) (by omega) (by omega))) (fun r11 er11 => ?_); simp only [ht] at er11; have hf : r11.1 = fill1 ⟨nl, pl⟩ x2 := (by rw [er11, fill1_lay (by ((try simp only [ncast] at *); omega)), names_of, show 1 + x2.n % 3 = j by ((try simp only [ncast] at *); omega), tm6, wu64 _ (by ((try simp only [ncast] at *); omega))]; simp only [ht] at er9; rw [← er9]))
                cbv
                refine gI (by simp [ht, pickI_iff]) ?_
                refine gI (by simp [ht, pickI_iff]) ?_
                refine loopC (_, _, _) (by simp only [ht]; rfl) (n - 1) ?_ ((hJ0 _ _ _ _).2 ?_)
                · ((try simp only [ncast] at *); omega)
                · simp only [ht, ncast]
                  exact ⟨k + 1, i64_upN (by ((try simp only [ncast] at *); omega)), by ((try simp only [ncast] at *); omega), by ((try simp only [ncast] at *); omega), by rw [fillT_succ mx2, ← hP, ← hf], by rw [fillT_succ mx2, ← hP, ← hf]⟩
            · simp [ht, ncast, len_es, tm8, tm3, td3, wcond] at h13
              contradiction
          · simp [ht, ncast, len_es, tm8, tm3, td3, wcond] at h12
            cbv
            refine condI (fun h16 => ?_) (fun h16 => ?_)
            · simp [ht, ncast, len_es, tm8, tm3, td3, wcond] at h16
              cbv
              obtain ⟨J17, hJ17⟩ : ∃ J17 : Nat → List (List D) × Int → Prop, ∀ m o z, J17 m (o, z) ↔ (∃ (j : Nat), z = j ∧ j + m = 1 + x2.n % 3 ∧ o = ((List.range j).map (nmOf x2)).map strRow) := ⟨fun m v => match v with | (o, z) => (∃ (j : Nat), z = j ∧ j + m = 1 + x2.n % 3 ∧ o = ((List.range j).map (nmOf x2)).map strRow), fun _ _ _ => Iff.rfl⟩
              refine loopU ⟨[0, 2, 3, 4, 5, 7, 8], [(7, 1)], []⟩ (σ := List (List D) × Int) (fun v => [(7, .ow 3 1 (t _ fun _ => (v.1).length)), (8, .d (.int .i64 (t _ fun _ => v.2)))]) (fun v => [(3, .row 1 (t _ fun _ => v.1))]) J17 ?_
              cbv
              refine loopIn ⟨(1 + x2.n % 3), ([], _), (hJ17 _ _ _).2 ?_, by simp only [ht]; rfl, ?_⟩
              · exact ⟨0, rfl, by omega, rfl⟩
              rintro m ⟨o, z⟩ hj
              replace hj := (hJ17 _ _ _).1 hj
              obtain ⟨j, rfl, i1, i3⟩ := hj
              obtain ⟨nj, hnj⟩ : ∃ nj, nj = nmOf x2 j := ⟨_, rfl⟩
              have hnv := hux.n
              have hnd := hux.node
              have hjj := hux.job
              have hlo : ((List.range j).map (nmOf x2)).length = j := by simp
              cbv
              refine ⟨?_, ?_⟩
              · (simp only [ht, ncast] at *; omega)
              cbv
              refine condI (fun h18 => ?_) (fun h18 => ?_)
              · simp [ht, ncast, len_es, tm8, tm3, td3, wcond] at h18
                cbv
                refine drawI [false, false, false, false, false, false, false, false, false, false, false, false, false, false, false, false, true, true] (by kernel_rfl) (by kernel_rfl) ?_
                cbv
                refine gI (by simp [ht, pickI_iff]) ?_
                refine .inl ?_
                refine callQS (fun g9 => ⟨trivial, trivial, c_nodesN ht hns⟩) rfl rfl rfl ?_
                cbv
                refine gI (by simp [ht, pickI_iff]) ?_
                refine gI (by simp [ht, pickI_iff]) ?_
                refine gI (by simp [ht, pickI_iff]) ?_
                refine gI (by simp [ht, pickI_iff]) ?_
                refine gI (by simp [ht, pickI_iff]) ?_
                refine gI (by simp [ht, pickI_iff]) ?_
                refine gI (by simp [ht, pickI_iff]) ?_
                refine gI (by simp [ht, pickI_iff]) ?_
                refine gI (by simp [ht, pickI_iff]) ?_
                refine gI (by simp [ht, pickI_iff]) ?_
                refine gI (by simp [ht, pickI_iff]) ?_
                (refine idxK ht hns (cT := strCellsT t) (i := (x2.node + j * (x2.n / 3)) % 5) (x := nj) (by rw [hnj]; exact nodeN_get (Nat.mod_lt _ (by decide))) (by simp only [ht]; exact lay_idx _ _ _ hnd (by ((try simp only [ncast] at *); omega)) hnv) (fun _ => rfl) (fun _ => rfl) ?_)
                cbv
                refine gI (by simp [ht, pickI_iff]) ?_
                refine gI (by simp [ht, pickI_iff]) ?_
                refine ⟨?_, ?_⟩
                · (simp only [ht, ncast, EPool]; grind)
                cbv
                refine loopC (_, _) (by simp only [ht, ← List.length_append]; rfl) (m - 1) ?_ ((hJ17 _ _ _).2 ?_)
                · ((try simp only [ncast] at *); omega)
                · simp only [ht, ncast]
                  exact ⟨j + 1, i64_upN (by ((try simp only [ncast] at *); omega)), by ((try simp only [ncast] at *); omega), by rw [i3, hnj, List.range_succ, List.map_append, List.map_append]; rfl⟩
              · simp [ht, ncast, len_es, tm8, tm3, td3, wcond] at h18
                cbv
                refine drawL [5] [5, 9, 10, 11] [false, false, false, false, false, false, false, false, true, true, false, false, true] (by kernel_rfl) (by kernel_rfl) (by kernel_rfl) (by kernel_rfl) (by kernel_rfl) (by kernel_rfl) ?_
                cbv
                refine gI (by simp [ht, pickI_iff]) ?_
                refine gI (by simp [ht, pickI_iff]) ?_
                refine gI (by simp [ht, pickI_iff]) ?_
                refine gI (by simp [ht, pickI_iff]) ?_
                refine gI (by simp [ht, pickI_iff]) ?_
                refine gI (by simp [ht, pickI_iff]) ?_
                refine gI (by simp [ht, pickI_iff]) ?_
                refine .inl ?_
                refine callEQ (fun g9 => ⟨trivial, trivial, c_amountE ht x2 hux (by simp only [ht]) (by simp only [ht])⟩) rfl rfl (fun r9 er9 => ?_)
                cbv
                (refine callEZ (E := EPoolE t) (r0 := t _ fun _ => play ⟨nl, pl⟩ (t _ fun _ => IntKind.u64.wrap (t _ fun _ => (t _ fun _ => (x2.job : Int)).tmod 6)) ((List.range j).map (nmOf x2)) ⟨r9.1, r9.2, r9.3, r9.4⟩) trivial rfl (by simp [ht]) (by exact fcalls_more [] rfl rfl rfl rfl (c_layE ht _ _ _ _ _ (l := nl) (ps := pl) (by simp only [ht]; exact j3) (by simp only [ht]; exact j4) (by simp only [ht]; exact i3) (by omega) (by omega) (by omega))) (fun r11 er11 => ?_); simp only [ht] at er11; have hf : r11.1 = fill1 ⟨nl, pl⟩ x2 := (by rw [er11, fill1_lay (by ((try simp only [ncast] at *); omega)), names_of, show 1 + x2.n % 3 = j by ((try simp only [ncast] at *); omega), tm6, wu64 _ (by ((try simp only [ncast] at *); omega))]; simp only [ht] at er9; rw [← er9]))
                cbv
                refine gI (by simp [ht, pickI_iff]) ?_
                refine gI (by simp [ht, pickI_iff]) ?_
                refine loopC (_, _, _) (by simp only [ht]; rfl) (n - 1) ?_ ((hJ0 _ _ _ _).2 ?_)
                · ((try simp only [ncast] at *); omega)
                · simp only [ht, ncast]
                  exact ⟨k + 1, i64_upN (by ((try simp only [ncast] at *); omega)), by ((try simp only [ncast] at *); omega), by ((try simp only [ncast] at *); omega), by rw [fillT_succ mx2, ← hP, ← hf], by rw [fillT_succ mx2, ← hP, ← hf]⟩
            · simp [ht, ncast, len_es, tm8, tm3, td3, wcond] at h16
              cbv
              refine condI (fun h19 => ?_) (fun h19 => ?_)
              · simp [ht, ncast, len_es, tm8, tm3, td3, wcond] at h19
                cbv
                refine ⟨?_, ?_⟩
                · (simp only [ht, ncast] at *; omega)
                cbv
                refine callES trivial (c_dropE ht _ (by (simp only [ht]; ((try simp only [ncast] at *); omega))) (by (simp only [ht]; ((try simp only [ncast] at *); omega))) (by omega)) trivial rfl rfl rfl (fun r20 er20 => ?_)
                simp only [ht] at er20
                rw [tm6, wu64 _ (by ((try simp only [ncast] at *); omega))] at er20
                have hf : r20 = fill1 ⟨nl, pl⟩ x2 := by rw [er20, fill1_drop (by ((try simp only [ncast] at *); omega))]
                cbv
                refine loopC (_, _, _) (by simp only [ht]; rfl) (n - 1) ?_ ((hJ0 _ _ _ _).2 ?_)
                · ((try simp only [ncast] at *); omega)
                · simp only [ht, ncast]
                  exact ⟨k + 1, i64_upN (by ((try simp only [ncast] at *); omega)), by ((try simp only [ncast] at *); omega), by ((try simp only [ncast] at *); omega), by rw [fillT_succ mx2, ← hP, ← hf], by rw [fillT_succ mx2, ← hP, ← hf]⟩
              · simp [ht, ncast, len_es, tm8, tm3, td3, wcond] at h19
                cbv
                refine condI (fun h21 => ?_) (fun h21 => ?_)
                · simp [ht, ncast, len_es, tm8, tm3, td3, wcond] at h21
                  cbv
                  refine callES trivial (c_failE ht _ (by (simp only [ht]; ((try simp only [ncast] at *); omega))) (by (simp only [ht]; ((try simp only [ncast] at *); omega))) (by omega) (by omega) (by assumption) (by (simp [ht, *]; done))) trivial rfl rfl rfl (fun r22 er22 => ?_)
                  simp only [ht] at er22
                  have hf : (r22).1 = fill1 ⟨nl, pl⟩ x2 := by rw [er22, fill1_fail (by ((try simp only [ncast] at *); omega)), ← hnm]
                  cbv
                  refine loopC (_, _, _) (by simp only [ht]; rfl) (n - 1) ?_ ((hJ0 _ _ _ _).2 ?_)
                  · ((try simp only [ncast] at *); omega)
                  · simp only [ht, ncast]
                    exact ⟨k + 1, i64_upN (by ((try simp only [ncast] at *); omega)), by ((try simp only [ncast] at *); omega), by ((try simp only [ncast] at *); omega), by rw [fillT_succ mx2, ← hP, ← hf], by rw [fillT_succ mx2, ← hP, ← hf]⟩
                · simp [ht, ncast, len_es, tm8, tm3, td3, wcond] at h21
                  cbv
                  refine condI (fun h23 => ?_) (fun h23 => ?_)
                  · simp [ht, ncast, len_es, tm8, tm3, td3, wcond] at h23
                    cbv
                    refine callES trivial (c_mendE ht _ (by (simp only [ht]; ((try simp only [ncast] at *); omega))) (by (simp only [ht]; ((try simp only [ncast] at *); omega))) (by omega)) trivial rfl rfl rfl (fun r24 er24 => ?_)
                    simp only [ht] at er24
                    have hf : (r24).1 = fill1 ⟨nl, pl⟩ x2 := by rw [er24, fill1_mend (by ((try simp only [ncast] at *); omega)), ← hnm]
                    cbv
                    refine loopC (_, _, _) (by simp only [ht]; rfl) (n - 1) ?_ ((hJ0 _ _ _ _).2 ?_)
                    · ((try simp only [ncast] at *); omega)
                    · simp only [ht, ncast]
                      exact ⟨k + 1, i64_upN (by ((try simp only [ncast] at *); omega)), by ((try simp only [ncast] at *); omega), by ((try simp only [ncast] at *); omega), by rw [fillT_succ mx2, ← hP, ← hf], by rw [fillT_succ mx2, ← hP, ← hf]⟩
                  · simp [ht, ncast, len_es, tm8, tm3, td3, wcond] at h23
                    (simp only [ncast] at *; omega)
  · simp [ht, ncast, len_es, tm8, tm3, td3, wcond] at h1
    cbv
    refine retF trivial trivial rfl rfl rfl ?_
    (simp only [ht, EPool]; rw [fillT_end (k := k) (by ((try simp only [ncast] at *); omega)) (by ((try simp only [ncast] at *); omega)), ← hP, ← j3, ← j4]; done)
end Dem
end
section
/- CONTRACTS: numbers as bytes. -/
open Go Dem Go.Proofs
namespace Dem
set_option maxRecDepth 100000
variable {t : Th}

theorem or128 (u : Int) (hu : 0 ≤ u) : UInt8.ofNat (IntKind.u8.wrap ((BitVec.ofInt IntKind.u8.bits (IntKind.u8.wrap u) ||| BitVec.ofInt IntKind.u8.bits 128).toNat)).toNat = UInt8.ofNat (u.toNat % 128 + 128) := by
  have key : ∀ n : Nat, n < 256 → UInt8.ofNat (IntKind.u8.wrap ((BitVec.ofInt IntKind.u8.bits (n : Int) ||| BitVec.ofInt IntKind.u8.bits 128).toNat)).toNat = UInt8.ofNat (n % 128 + 128) := by decide
  obtain ⟨n, rfl⟩ := Int.eq_ofNat_of_zero_le hu
  have e : IntKind.u8.wrap (n : Int) = ((n % 256 : Nat) : Int) := by simp [IntKind.wrap, IntKind.signed, IntKind.bits]
  rw [e, key _ (by omega), Int.toNat_natCast]
  congr 2; omega

theorem c_wput (ht : TT t) (u : Int) (hu : u < 18446744073709551616) {s : Str} (h : s = wput u) : FC 50 [U64 u] [] (.ret (ST s)) [] := by
  obtain ⟨J, hJ⟩ : ∃ J : Nat → Int × List (List D) → Prop, ∀ n v, J n v ↔ (v.1 < 128 ^ (n + 1) ∧ v.2.length + n = 9 ∧ (∀ r ∈ v.2, isByteRow r) ∧ v.2.map rowByte ++ wputF n v.1 = s) := ⟨fun n v => v.1 < 128 ^ (n + 1) ∧ v.2.length + n = 9 ∧ (∀ r ∈ v.2, isByteRow r) ∧ v.2.map rowByte ++ wputF n v.1 = s, fun _ _ => Iff.rfl⟩
  refine fc' ht (bx0 := []) Tryd.func50 (c := _) rfl rfl (N := 20) rfl (rs := _) rfl (n := 0) rfl rfl ?_
  cbv
  refine loopU ⟨[0, 2, 3], [(3, 1)], []⟩ (σ := Int × List (List D)) (fun v => [(0, U64 v.1), (3, .ow 0 1 (t _ fun _ => v.2.length))]) (fun v => [(0, .row 1 (t _ fun _ => v.2))]) J ?_
  cbv
  refine loopIn ⟨9, (u, []), (hJ _ _).2 ⟨Int.lt_of_lt_of_le hu (by decide), rfl, by simp, by simp [h, wput]⟩, by simp only [ht]; rfl, ?_⟩
  rintro n ⟨v, es⟩ hj
  obtain ⟨g1, g2, g4, g5⟩ := (hJ _ _).1 hj
  clear hj
  simp only [ncast] at g1 g2 g4 g5
  cbv
  refine condI (fun hc => ?_) (fun hc => ?_)
  · simp only [ht, ncast, decide_eq_true_eq] at hc
    cbv
    have hv : 0 ≤ v := by omega
    have e1 : v.fdiv (2 ^ min (Int.toNat 7) IntKind.u64.bits) = v / 128 := Int.fdiv_eq_ediv_of_nonneg _ (by decide)
    have hn : 1 ≤ n := by
      rcases Nat.lt_or_ge n 1 with h1 | h1
      · have : n = 0 := by omega
        subst this; simp at g1; omega
      · exact h1
    obtain ⟨m, rfl⟩ : ∃ m, n = m + 1 := ⟨n - 1, by omega⟩
    refine ⟨?_, by simp [ht], loopIn ⟨m, (v / 128, es ++ [[.int .u8 (IntKind.u8.wrap ((BitVec.ofInt IntKind.u8.bits (IntKind.u8.wrap v) ||| BitVec.ofInt IntKind.u8.bits 128).toNat))]]), ⟨by omega, (hJ _ _).2 ⟨?_, ?_, ?_, ?_⟩⟩, ?_⟩⟩
    · simp only [ht]
      refine ⟨trivial, by simp; omega, ?_⟩
      intro r hr
      rcases List.mem_append.1 hr with hr | hr
      · obtain ⟨z, rfl⟩ := g4 r hr; rfl
      · simp at hr; subst hr; rfl
    · show v / 128 < 128 ^ (m + 1)
      rw [Int.pow_succ] at g1
      omega
    · simp; omega
    · intro r hr
      rcases List.mem_append.1 hr with hr | hr
      · exact g4 r hr
      · simp at hr; subst hr; exact ⟨_, rfl⟩
    · rw [← g5]
      show List.map rowByte (es ++ _) ++ wputF m (v / 128) = _
      rw [wputF, if_pos hc, List.map_append, List.append_assoc]
      congr 1
      simp only [List.map_cons, List.map_nil, rowByte, List.cons_append, List.nil_append]
      rw [or128 v hv]
    · simp only [ht, e1, List.length_append]; rfl
  · simp only [ht, ncast, decide_eq_false_iff_not] at hc
    cbv
    simp only [ht]
    refine ⟨⟨trivial, by simp; omega, ?_⟩, ⟨by simp, ?_⟩, retF trivial trivial rfl rfl rfl ?_⟩
    · intro r hr
      rcases List.mem_append.1 hr with hr | hr
      · obtain ⟨z, rfl⟩ := g4 r hr; rfl
      · simp at hr; subst hr; rfl
    · intro r hr
      rcases List.mem_append.1 hr with hr | hr
      · exact g4 r hr
      · simp at hr; subst hr; exact ⟨_, rfl⟩
    · rw [← g5]
      have e2 : wputF n v = [UInt8.ofNat (v % 256).toNat] := by
        cases n with
        | zero => rfl
        | succ m => rw [wputF, if_neg hc]
      rw [e2]
      simp only [List.map_append, List.map_cons, List.map_nil, rowByte]
      rfl
#print axioms c_wput

theorem c_wputText (ht : TT t) (s : Str) (hs : s.length < 9223372036854775000) {r : Str} (h : r = wputText s) : FC 52 [ST s] [] (.ret (ST r)) [] := by
  obtain ⟨k, hk⟩ : ∃ k, k = wput s.length := ⟨_, rfl⟩
  have e : IntKind.u64.wrap (s.length : Int) = s.length := by simp [IntKind.wrap, IntKind.signed, IntKind.bits]; omega
  have hkl : k.length ≤ 10 := hk ▸ wput_len _
  refine fc' ht (bx0 := []) Tryd.func52 (c := _) rfl rfl (N := 9) rfl (rs := _) rfl (n := 0) rfl rfl ?_
  cbv
  refine callF trivial (c_wput ht _ ?_ (s := k) ?_) trivial rfl rfl ?_
  · simp only [ht, ncast, e]; omega
  · simp only [ht, ncast, e]; exact hk
  cbv
  refine ⟨by simp only [ht]; omega, retF trivial trivial rfl rfl rfl ?_⟩
  simp only [ht, h, wputText, hk]
end Dem
end
