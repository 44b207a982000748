/- JOINED TEXTS: Pl2, Pl3, Co25, Co3, Co4, Co5. -/
import Derived.Test.YtegnablmooijmaaDoorJ21
import Derived.Test.YtegnablmooijmaaDoorJ25
set_option linter.unusedSimpArgs false
set_option linter.unusedVariables false
section
/- PLAIN LAW: what is done with a pool keeps it right. -/
open Go
namespace Dem
theorem ok_of_free {p : Pool} (ha : Asc p.nodes) (hc : ∀ n ∈ p.nodes, n.cap.w) {n : Node} (hn : n ∈ p.nodes) (h : ∀ k < 4, usedAt k (here n.name p.places) ≤ (n.cap.at_ k).toNat) : (pfree n.name p.nodes p.places).2 = true := by
  rw [pfree_mem2 ha hn]; exact (left_spec n.name p.places n.cap (hc n hn)).1.2 h
theorem drop_ok {p : Pool} (h : p.ok) (hw : p.w) (f : Place → Bool) : Pool.ok ⟨p.nodes, p.places.filter f⟩ := by
  refine ⟨h.asc, h.fine, fun n hn => ?_, h.most, fun x hx => h.here x (List.mem_filter.1 hx).1⟩
  refine ok_of_free (p := ⟨p.nodes, p.places.filter f⟩) h.asc hw.cap hn fun k hk => ?_
  refine Nat.le_trans (usedAt_sub ?_) (Pool.ok_free h hw hn k hk)
  exact (List.filter_sublist (l := p.places) (p := f)).filter _
theorem drop_w {p : Pool} (hw : p.w) (f : Place → Bool) : Pool.w ⟨p.nodes, p.places.filter f⟩ := ⟨hw.cap, fun x hx => hw.v x (List.mem_filter.1 hx).1⟩
theorem zero_w : Vec.zero.w := by intro k hk; have : Vec.zero.at_ k = 0 := by unfold Vec.at_; split <;> rfl
                                  rw [this]; omega
/- turning -/
theorem set_mem {α : Type} {l : List α} {i : Nat} {x y : α} (h : y ∈ l.set i x) : y ∈ l ∨ y = x := by
  rcases List.mem_or_eq_of_mem_set h with h | h
  · exact .inl h
  · exact .inr h
theorem find_set {l : List Node} {i : Nat} {x : Node} {up : Bool} (hx : l[i]? = some x) (name : Str) :
    (pfind name (l.set i { x with up := up })).1.cap = (pfind name l).1.cap ∧ (pfind name (l.set i { x with up := up })).2 = (pfind name l).2 := by
  have key : (l.set i { x with up := up }).find? (fun y => decide (y.name = name)) = (l.find? (fun y => decide (y.name = name))).map (fun y => if y = x ∧ l.findIdx? (fun y => decide (y.name = name)) = some i then { x with up := up } else y) := by
    induction l generalizing i with
    | nil => simp at hx
    | cons m r ih =>
      cases i with
      | zero =>
        simp at hx; subst hx
        simp only [List.set_cons_zero, List.find?_cons, List.findIdx?_cons]
        by_cases hm : m.name = name
        · simp [hm]
        · simp only [hm, decide_false]
          cases hf : r.find? (fun y => decide (y.name = name)) with
          | none => simp
          | some z => simp
      | succ i =>
        simp only [List.getElem?_cons_succ] at hx
        have := ih hx
        simp only [List.set_cons_succ, List.find?_cons, List.findIdx?_cons]
        by_cases hm : m.name = name
        · simp [hm]
        · simp only [hm, decide_false]
          rw [this]
          simp
  unfold pfind
  rw [key]
  cases hf : l.find? (fun y => decide (y.name = name)) with
  | none => simp
  | some z =>
    simp only [Option.map_some]
    split
    · rename_i h; rw [h.1]; simp
    · simp
theorem pfree_set {l : List Node} {i : Nat} {x : Node} {up : Bool} (hx : l[i]? = some x) (name : Str) (ps : List Place) : pfree name (l.set i { x with up := up }) ps = pfree name l ps := by
  obtain ⟨h1, h2⟩ := find_set (up := up) hx name
  unfold pfree; rw [h1, h2]
theorem set_names {l : List Node} {i : Nat} {x : Node} {up : Bool} (hx : l[i]? = some x) : (l.set i { x with up := up }).map (·.name) = l.map (·.name) := by
  apply List.ext_getElem?
  intro j
  simp only [List.getElem?_map, List.getElem?_set]
  split
  · rename_i e; subst e; rw [hx]; split <;> simp; 
    rename_i h; have := (List.getElem?_eq_some_iff.1 hx).1; omega
  · rfl
theorem asc_names {l m : List Node} (h : l.map (·.name) = m.map (·.name)) (ha : Asc m) : Asc l := by
  have h1 : (m.map (·.name)).Pairwise (fun a b => a < b) := List.pairwise_map.2 ha
  rw [← h] at h1
  exact List.pairwise_map.1 h1
theorem turn_ok {p : Pool} (h : p.ok) (hw : p.w) (name : Str) (up : Bool) : (pturn p name up).1.ok ∧ (pturn p name up).1.w := by
  unfold pturn
  split
  · rename_i i x h1 h2
    split
    · exact ⟨h, hw⟩
    · obtain ⟨hi, hp, _⟩ := List.findIdx?_eq_some_iff_getElem.1 h1
      have hx : p.nodes[i]? = some x := by
        have := idxOf_cases (p := fun x : Node => decide (x.name = name)) (l := p.nodes) rfl
        rcases this with ⟨_, h3, _⟩ | ⟨j, y, _, _, hy, _, h3, h4⟩
        · rw [h1] at h3; cases h3
        · rw [h1] at h3; cases h3; rw [h2] at h4; cases h4; exact hy
      have hm : x ∈ p.nodes := List.mem_of_getElem? hx
      refine ⟨⟨asc_names (set_names hx) h.asc, ?_, ?_, by simpa using h.most, ?_⟩, ⟨?_, hw.v⟩⟩
      · intro n hn; rcases set_mem hn with hn | rfl
        · exact h.fine n hn
        · exact h.fine x hm
      · intro n hn
        show (pfree n.name (p.nodes.set i { x with up := up }) p.places).2 = true
        rw [pfree_set hx]
        rcases set_mem hn with hn | rfl
        · exact h.free n hn
        · exact h.free x hm
      · intro y hy
        obtain ⟨n, hn, e⟩ := h.here y hy
        have : n.name ∈ (p.nodes.set i { x with up := up }).map (·.name) := by rw [set_names hx]; exact List.mem_map.2 ⟨n, hn, rfl⟩
        obtain ⟨m, hm, em⟩ := List.mem_map.1 this
        exact ⟨m, hm, by rw [em, e]⟩
      · intro n hn; rcases set_mem hn with hn | rfl
        · exact hw.cap n hn
        · exact hw.cap x hm
  · exact ⟨h, hw⟩
/- laying -/
theorem proom_zero {name : Str} {v : Vec} {l : List Node} {ps : List Place} (h : proom name v l ps = 0) : (pfind name l).2 = true ∧ (pfind name l).1.up = true ∧ (pfree name l ps).2 = true ∧ vfits v (pfree name l ps).1 = true := by
  unfold proom at h
  split at h
  · omega
  · split at h
    · omega
    · split at h
      · omega
      · rename_i h1 h2 h3
        simp only [Bool.or_eq_true, not_or, Bool.not_eq_true', Bool.not_eq_false] at h1 h2 h3
        exact ⟨h1, h2, h3.1, h3.2⟩
theorem lay1_ok {p : Pool} (h : p.ok) (hw : p.w) {name : Str} {v : Vec} (hv : v.w) (job : Int) (h0 : proom name v p.nodes p.places = 0) : Pool.ok ⟨p.nodes, p.places ++ [⟨job, name, v⟩]⟩ ∧ Pool.w ⟨p.nodes, p.places ++ [⟨job, name, v⟩]⟩ := by
  obtain ⟨r1, r2, r3, r4⟩ := proom_zero h0
  obtain ⟨m1, m2⟩ := pfind_some r1
  refine ⟨⟨h.asc, h.fine, fun n hn => ?_, h.most, ?_⟩, ⟨hw.cap, ?_⟩⟩
  · show (pfree n.name p.nodes (p.places ++ [⟨job, name, v⟩])).2 = true
    rw [pfree_mem2 h.asc hn, left_snoc]
    have hl := h.free n hn
    rw [pfree_mem2 h.asc hn] at hl
    unfold freeStep
    split
    · rename_i g
      simp only [Bool.and_eq_true, decide_eq_true_eq] at g
      obtain ⟨g1, g2⟩ := g
      rw [pfree, g2, ] at r4
      have e : pfree name p.nodes p.places = left n.name p.places (n.cap, true) := by
        rw [g2, pfree_mem h.asc hn, if_pos hl]
      rw [← g2] at r4
      have r4' : vfits v (left n.name p.places (n.cap, true)).1 = true := by rw [← e, g2]; unfold pfree; rw [← g2]; exact r4
      exact r4'
    · exact hl
  · intro x hx
    rcases List.mem_append.1 hx with hx | hx
    · exact h.here x hx
    · simp at hx; subst hx; exact ⟨_, m1, m2⟩
  · intro x hx
    rcases List.mem_append.1 hx with hx | hx
    · exact hw.v x hx
    · simp at hx; subst hx; exact hv
theorem playGo_ok (l : List Node) (job : Int) {v : Vec} (hv : v.w) : ∀ (names : List Str) (ps : List Place), Pool.ok ⟨l, ps⟩ → Pool.w ⟨l, ps⟩ → (playGo l job v names ps).1 = none → Pool.ok ⟨l, (playGo l job v names ps).2⟩ ∧ Pool.w ⟨l, (playGo l job v names ps).2⟩
  | [], ps, h, hw, _ => ⟨h, hw⟩
  | n :: r, ps, h, hw, g => by
    unfold playGo at g ⊢
    split
    · rename_i h1; rw [if_pos h1] at g; cases g
    · rename_i h1
      rw [if_neg h1] at g
      have h0 : proom n v l ps = 0 := by omega
      obtain ⟨a, b⟩ := lay1_ok (p := ⟨l, ps⟩) h hw hv job h0
      exact playGo_ok l job hv r _ a b g
theorem lay_ok {p : Pool} (h : p.ok) (hw : p.w) (job : Int) (names : List Str) {v : Vec} (hv : v.w) : (play p job names v).1.ok ∧ (play p job names v).1.w := by
  unfold play
  split
  · exact ⟨h, hw⟩
  · rename_i g; exact playGo_ok p.nodes job hv names p.places h hw g
end Dem
end
section
/- PLAIN LAW: adding a node; a pool of which some is done. -/
open Go
namespace Dem
theorem pat_spec (l : List Node) (nm : Str) : pat l nm ≤ l.length ∧ (∀ n ∈ l.take (pat l nm), n.name < nm) ∧ (∀ n, l[pat l nm]? = some n → ¬ n.name < nm) := by
  unfold pat
  split
  · rename_i k hk
    obtain ⟨hk1, hp, hb⟩ := List.findIdx?_eq_some_iff_getElem.1 hk
    refine ⟨by omega, ?_, ?_⟩
    · intro n hn
      obtain ⟨j, hj⟩ := List.getElem?_of_mem hn
      rw [List.getElem?_take] at hj
      split at hj
      · rename_i hjk
        rw [List.getElem?_eq_getElem (by omega)] at hj
        cases hj
        have := hb j hjk
        simpa [bl_lt] using this
      · cases hj
    · intro n hn
      rw [List.getElem?_eq_getElem hk1] at hn; cases hn
      simpa [bl_lt] using hp
  · rename_i hk
    rw [List.findIdx?_eq_none_iff] at hk
    refine ⟨Nat.le_refl _, ?_, ?_⟩
    · intro n hn
      rw [List.take_length] at hn
      have := hk n hn
      simpa [bl_lt] using this
    · intro n hn; simp at hn
theorem mem_ins {l : List Node} {k : Nat} {x y : Node} : y ∈ l.take k ++ x :: l.drop k ↔ y ∈ l ∨ y = x := by
  rw [List.mem_append, List.mem_cons]
  constructor
  · rintro (h | h | h)
    · exact .inl (List.mem_of_mem_take h)
    · exact .inr h
    · exact .inl (List.mem_of_mem_drop h)
  · rintro (h | h)
    · rw [← List.take_append_drop k l, List.mem_append] at h
      rcases h with h | h
      · exact .inl h
      · exact .inr (.inr h)
    · exact .inr (.inl h)
theorem ins_asc {l : List Node} (ha : Asc l) {x : Node} (hn : ∀ n ∈ l, n.name ≠ x.name) : Asc (l.take (pat l x.name) ++ x :: l.drop (pat l x.name)) := by
  obtain ⟨h1, h2, h3⟩ := pat_spec l x.name
  have hs := ha
  rw [← List.take_append_drop (pat l x.name) l] at hs
  have hs' := List.pairwise_append.1 hs
  have hd : ∀ n ∈ l.drop (pat l x.name), x.name < n.name := by
    intro n hm
    cases hc : l.drop (pat l x.name) with
    | nil => rw [hc] at hm; cases hm
    | cons m r =>
      have hlt : pat l x.name < l.length := by
        rcases Nat.lt_or_ge (pat l x.name) l.length with h | h
        · exact h
        · rw [List.drop_eq_nil_of_le h] at hc; cases hc
      have hg : l[pat l x.name]? = some m := by
        have : (l.drop (pat l x.name))[0]? = some m := by rw [hc]; rfl
        simpa using this
      have hmm : m ∈ l := List.mem_of_getElem? hg
      have hm1 : x.name < m.name := by
        rcases slt_tri x.name m.name with h | h | h
        · exact h
        · exact absurd h.symm (hn m hmm)
        · exact absurd h (h3 m hg)
      rw [hc] at hm
      rcases List.mem_cons.1 hm with rfl | hm
      · exact hm1
      · have := hs'.2.1; rw [hc] at this
        exact slt_trans hm1 ((List.pairwise_cons.1 this).1 n hm)
  refine List.pairwise_append.2 ⟨hs'.1, List.pairwise_cons.2 ⟨hd, hs'.2.1⟩, ?_⟩
  intro a ha' b hb
  rcases List.mem_cons.1 hb with rfl | hb
  · exact h2 a ha'
  · exact hs'.2.2 a ha' b hb
/-- what adding says -/
theorem padd_cases (p : Pool) (n : Node) : ((padd p n).1 = p ∧ (padd p n).2 ≠ 0) ∨ (n.fine = true ∧ (∀ m ∈ p.nodes, m.name ≠ n.name) ∧ p.nodes.length < 16 ∧
    padd p n = (⟨p.nodes.take (pat p.nodes n.name) ++ { n with up := true } :: p.nodes.drop (pat p.nodes n.name), p.places⟩, 0)) := by
  unfold padd
  split
  · exact .inl ⟨rfl, by simp⟩
  · split
    · exact .inl ⟨rfl, by simp⟩
    · split
      · exact .inl ⟨rfl, by simp⟩
      · split
        · exact .inl ⟨rfl, by simp⟩
        · rename_i h1 h2 h3 h4
          simp only [Bool.not_eq_true', Bool.not_eq_false] at h1 h2
          refine .inr ⟨by simp [Node.fine, h1, h2], ?_, by omega, rfl⟩
          rw [← idxOf_any] at h3
          intro m hm e
          exact h3 (List.any_eq_true.2 ⟨m, hm, by simp [e]⟩)
theorem left_none {name : Str} {ps : List Place} (h : ∀ x ∈ ps, x.node ≠ name) (v : Vec × Bool) : left name ps v = v := by
  unfold left
  induction ps generalizing v with
  | nil => rfl
  | cons x r ih =>
    rw [List.foldl_cons, show freeStep name v x = v by simp [freeStep, h x (by simp)]]
    exact ih (fun y hy => h y (by simp [hy])) v
theorem add_ok {p : Pool} (h : p.ok) (hw : p.w) {n : Node} (hc : n.cap.w) : (padd p n).1.ok ∧ (padd p n).1.w := by
  rcases padd_cases p n with ⟨e, _⟩ | ⟨h1, h2, h3, e⟩
  · rw [e]; exact ⟨h, hw⟩
  · rw [e]
    have ha : Asc (p.nodes.take (pat p.nodes n.name) ++ { n with up := true } :: p.nodes.drop (pat p.nodes n.name)) := ins_asc (x := { n with up := true }) h.asc h2
    refine ⟨⟨ha, ?_, ?_, ?_, ?_⟩, ⟨?_, hw.v⟩⟩
    · intro m hm; rcases mem_ins.1 hm with hm | rfl
      · exact h.fine m hm
      · exact h1
    · intro m hm
      show (pfree m.name (p.nodes.take (pat p.nodes n.name) ++ { n with up := true } :: p.nodes.drop (pat p.nodes n.name)) p.places).2 = true
      rw [pfree_mem2 ha hm]
      rcases mem_ins.1 hm with hm | rfl
      · have := h.free m hm; rwa [pfree_mem2 h.asc hm] at this
      · rw [left_none]
        intro x hx e
        obtain ⟨m, hm, em⟩ := h.here x hx
        exact h2 m hm (by rw [em, e])
    · have := (pat_spec p.nodes n.name).1; simp; omega
    · intro x hx
      obtain ⟨m, hm, em⟩ := h.here x hx
      exact ⟨m, mem_ins.2 (.inl hm), em⟩
    · intro m hm; rcases mem_ins.1 hm with hm | rfl
      · exact hw.cap m hm
      · exact hc
/- a pool of which some is done -/
structure Laid where
  kind : Nat
  job : Nat
  node : Nat
  a : Nat
  b : Nat
  n : Nat
deriving DecidableEq
def nodesL : List Str := [[97], [98], [99], [110, 49], [206, 177, 206, 178]]
def nodeN (k : Nat) : Str := nodesL.getD k []
def Laid.amount (x : Laid) : Vec := ⟨(x.a % 6 : Nat), (x.b % 6 : Nat), 0, (x.a / 6 % 3 : Nat)⟩
def zone : Str := [122, 111, 110, 101]
def disk : Str := [100, 105, 115, 107]
def ssd : Str := [115, 115, 100]
def labelsN (n : Nat) : List Pair := match n % 4 with
  | 0 => []
  | 1 => [⟨zone, [97]⟩]
  | 2 => [⟨zone, [98]⟩]
  | _ => [⟨disk, ssd⟩, ⟨zone, [97]⟩]
def Laid.names (x : Laid) : List Str := (List.range (1 + x.n % 3)).map fun k => nodeN ((x.node + k * (x.n / 3)) % 5)
def nine : Vec := ⟨9, 9, 9, 9⟩
def pdrop (p : Pool) (job : Int) : Pool := ⟨p.nodes, p.places.filter (fun x => !decide (x.job = job))⟩
def fill1 (p : Pool) (x : Laid) : Pool :=
  if x.kind % 8 < 2 then (padd p ⟨nodeN (x.node % 5), nine, labelsN x.n, false⟩).1
  else if x.kind % 8 < 5 then (play p (x.job % 6 : Nat) x.names x.amount).1
  else if x.kind % 8 = 5 then pdrop p (x.job % 6 : Nat)
  else if x.kind % 8 = 6 then (pturn p (nodeN (x.node % 5)) false).1
  else (pturn p (nodeN (x.node % 5)) true).1
def fillS (l : List Laid) : Pool := (l.take 40).foldl fill1 ⟨[], []⟩
theorem amount_w (x : Laid) : x.amount.w := by
  rw [Vec.w, lt4]; simp only [Laid.amount, Vec.at_]; omega
theorem nine_w : nine.w := by rw [Vec.w, lt4]; simp only [nine, Vec.at_]; omega
theorem fill1_ok {p : Pool} (h : p.ok) (hw : p.w) (x : Laid) : (fill1 p x).ok ∧ (fill1 p x).w := by
  unfold fill1
  split
  · exact add_ok h hw nine_w
  · split
    · exact lay_ok h hw _ _ (amount_w x)
    · split
      · exact ⟨drop_ok h hw _, drop_w hw _⟩
      · split
        · exact turn_ok h hw _ _
        · exact turn_ok h hw _ _
theorem none_ok : Pool.ok ⟨[], []⟩ := ⟨List.Pairwise.nil, by simp, by simp, by simp, by simp⟩
theorem none_w : Pool.w ⟨[], []⟩ := ⟨by simp, by simp⟩
theorem foldl_inv {α β : Type} {P : α → Prop} {f : α → β → α} (hf : ∀ a b, P a → P (f a b)) : ∀ (l : List β) (a : α), P a → P (l.foldl f a)
  | [], _, h => h
  | b :: r, a, h => foldl_inv hf r (f a b) (hf a b h)
theorem fillS_ok (l : List Laid) : (fillS l).ok ∧ (fillS l).w :=
  foldl_inv (P := fun p : Pool => p.ok ∧ p.w) (fun p x h => fill1_ok h.1 h.2 x) _ _ ⟨none_ok, none_w⟩
end Dem
end
section
/- CONTRACTS: the laws' own words: nodes, labels, amounts, texts. -/
open Go Dem Go.Proofs
namespace Dem
set_option maxRecDepth 100000
set_option maxHeartbeats 2000000
variable {t : Th}
theorem tm8 (a : Nat) : (a : Int).tmod 8 = ((a % 8 : Nat) : Int) := by rw [Int.tmod_eq_emod_of_nonneg (by omega)]; rfl
theorem tm6 (a : Nat) : (a : Int).tmod 6 = ((a % 6 : Nat) : Int) := by rw [Int.tmod_eq_emod_of_nonneg (by omega)]; rfl
theorem tm5 (a : Nat) : (a : Int).tmod 5 = ((a % 5 : Nat) : Int) := by rw [Int.tmod_eq_emod_of_nonneg (by omega)]; rfl
theorem tm4 (a : Nat) : (a : Int).tmod 4 = ((a % 4 : Nat) : Int) := by rw [Int.tmod_eq_emod_of_nonneg (by omega)]; rfl
theorem tm3 (a : Nat) : (a : Int).tmod 3 = ((a % 3 : Nat) : Int) := by rw [Int.tmod_eq_emod_of_nonneg (by omega)]; rfl
theorem td6 (a : Nat) : (a : Int).tdiv 6 = ((a / 6 : Nat) : Int) := by rw [Int.tdiv_eq_ediv_of_nonneg (by omega)]; rfl
theorem td3 (a : Nat) : (a : Int).tdiv 3 = ((a / 3 : Nat) : Int) := by rw [Int.tdiv_eq_ediv_of_nonneg (by omega)]; rfl
theorem wu8 (a : Nat) (h : a < 256) : IntKind.u8.wrap (a : Int) = (a : Int) := by simp only [IntKind.wrap]; simp [IntKind.bits, IntKind.signed]; omega
theorem wu64 (a : Nat) (h : a < 256) : IntKind.u64.wrap (a : Int) = (a : Int) := by simp only [IntKind.wrap]; simp [IntKind.bits, IntKind.signed]; omega
theorem wi64 (a : Nat) (h : a < 1000000000) : IntKind.i64.wrap (a : Int) = (a : Int) := wrap64 (by omega) (by omega)
def Laid.cells (x : Laid) : List D := [.int .u8 x.kind, .int .u8 x.job, .int .u8 x.node, .int .u8 x.a, .int .u8 x.b, .int .u8 x.n]
def Laid.cellsT (t : Th) (x : Laid) : List D := [.int .u8 (t _ fun _ => (x.kind : Int)), .int .u8 (t _ fun _ => (x.job : Int)), .int .u8 (t _ fun _ => (x.node : Int)), .int .u8 (t _ fun _ => (x.a : Int)), .int .u8 (t _ fun _ => (x.b : Int)), .int .u8 (t _ fun _ => (x.n : Int))]
structure Laid.u (x : Laid) : Prop where
  kind : x.kind < 256
  job : x.job < 256
  node : x.node < 256
  a : x.a < 256
  b : x.b < 256
  n : x.n < 256
instance : Inhabited Laid := ⟨⟨0, 0, 0, 0, 0, 0⟩⟩
structure Byt where
  n : Nat
def Byt.cells (x : Byt) : List D := [.int .u8 x.n]
def Byt.cellsT (t : Th) (x : Byt) : List D := [.int .u8 (t _ fun _ => (x.n : Int))]
instance : Inhabited Byt := ⟨⟨0⟩⟩
theorem c_nodes0 (ht : TT t) : FC 12 [] [] (.ret (SL (nodesL.map strRow))) [] := by
  refine fc' ht (bx0 := []) Tryd.func12 (c := _) rfl rfl (N := 2) rfl (rs := _) rfl (n := 0) rfl rfl ?_
  cbv
  refine retF trivial trivial rfl rfl rfl ?_
  rfl
theorem c_nodesN (ht : TT t) {ns : List (List D)} (hns : ns = nodesL.map strRow) : FC 12 [] [] (.ret (SL ns)) [] := by subst hns; exact c_nodes0 ht
theorem nodeN_get {k : Nat} (h : k < 5) : nodesL[k]? = some (nodeN k) := by
  unfold nodeN
  rw [List.getD_eq_getElem?_getD, List.getElem?_eq_getElem (by simpa [nodesL] using h)]; rfl
def EVec (v : Vec) : AV := V4 v.a v.b v.c v.d
theorem c_amountE (ht : TT t) (x : Laid) (hx : x.u) {a0 a1 a2 a3 a4 a5 : Int} (e3 : a3 = x.a) (e4 : a4 = x.b) : FC 14 [.agg [.d (.int .u8 a0), .d (.int .u8 a1), .d (.int .u8 a2), .d (.int .u8 a3), .d (.int .u8 a4), .d (.int .u8 a5)]] [] (.ret (EVec (t _ fun _ => x.amount))) [] := by
  have ha := hx.a
  have hb := hx.b
  refine fc' ht (bx0 := []) Tryd.func14 (c := _) rfl rfl (N := 17) rfl (rs := _) rfl (n := 0) rfl rfl ?_
  cbv
  refine ⟨?_, ?_⟩
  · (simp only [ht, ncast] at *; omega)
  refine ⟨?_, ?_⟩
  · (simp only [ht, ncast] at *; omega)
  refine ⟨?_, ?_⟩
  · (simp only [ht, ncast] at *; omega)
  refine ⟨?_, ?_⟩
  · (simp only [ht, ncast] at *; omega)
  cbv
  refine retF trivial trivial rfl rfl rfl ?_
  (simp only [ht, EVec, Laid.amount, e3, e4, tm6, td6]; rw [wu8 _ (by ((try simp only [ncast] at *); omega)), tm3, wu64 _ (by ((try simp only [ncast] at *); omega)), wu64 _ (by ((try simp only [ncast] at *); omega)), wu64 _ (by ((try simp only [ncast] at *); omega))]; done)
def labTab : List (List D) := [[.sl []], [.sl [[.str zone, .str [97]]]], [.sl [[.str zone, .str [98]]]], [.sl [[.str disk, .str ssd], [.str zone, .str [97]]]]]
theorem lab_idx (n : Nat) : labTab.getD (n % 4) [] = [.sl ((labelsN n).map Pair.cells)] := by
  have h : n % 4 = 0 ∨ n % 4 = 1 ∨ n % 4 = 2 ∨ n % 4 = 3 := by omega
  rcases h with h | h | h | h <;> rw [h] <;> simp [labTab, labelsN, h, Pair.cells]
theorem lab_ok (n : Nat) : (0 : Int) ≤ ((n % 4 : Nat) : Int) ∧ ((n % 4 : Nat) : Int) < labTab.length ∧ ∀ r ∈ labTab, r.length = 1 := by
  refine ⟨by omega, by simp [labTab]; omega, by simp [labTab]⟩
theorem c_labelsE (ht : TT t) (n : Nat) (hn : n < 256) {a : Int} (ea : a = n) : FC 32 [.d (.int .u8 a)] [] (.ret (SL (t _ fun _ => (labelsN n).map Pair.cells))) [] := by
  refine fc' ht (bx0 := []) Tryd.func32 (c := _) rfl rfl (N := 15) rfl (rs := _) rfl (n := 0) rfl rfl ?_
  cbv
  refine ⟨?_, ?_⟩
  · (simp only [ht, ncast] at *; omega)
  cbv
  (refine idxI [.sl (t _ fun _ => (labelsN n).map Pair.cells)] (by simp only [ht, ea, tm4]; exact lab_ok n) (by simp only [ht, ea, tm4, Int.toNat_natCast]; exact lab_idx n) ?_)
  cbv
  refine retF trivial trivial rfl rfl rfl ?_
  rfl
theorem c_labelsN (ht : TT t) (n : Nat) (hn : n < 256) {a : Int} (ea : a = n) {lr : List (List D)} (hlr : lr = (labelsN n).map Pair.cells) : FC 32 [.d (.int .u8 a)] [] (.ret (SL lr)) [] := by
  have h := c_labelsE ht n hn ea
  simp only [ht] at h
  rw [hlr]; exact h
theorem c_textsE (ht : TT t) {l m : List Str} {es fs : List (List D)} (hes : es = l.map strRow) (hfs : fs = m.map strRow) (hl : l.length < 1000000000) (hm : m.length < 1000000000) :
    FC 16 [SL es, SL fs] [] (.ret (EBool (t _ fun _ => decide (l = m)))) [] := by
  refine fc' ht (bx0 := []) Tryd.func16 (c := _) rfl rfl (N := 26) rfl (rs := _) rfl (n := 0) rfl rfl ?_
  cbv
  have len_es : es.length = l.length := by rw [hes, List.length_map]
  have len_fs : fs.length = m.length := by rw [hfs, List.length_map]
  refine condI (fun h0 => ?_) (fun h0 => ?_)
  · simp [ht, ncast, len_es, len_fs] at h0
    cbv
    refine retF trivial trivial rfl rfl rfl ?_
    (simp [ht]; rintro rfl; simp_all; done)
  · simp [ht, ncast, len_es, len_fs] at h0
    cbv
    obtain ⟨J1, hJ1⟩ : ∃ J1 : Nat → Int → Prop, ∀ n i, J1 n i ↔ (∃ k : Nat, i = k ∧ k + n = l.length ∧ l.length = m.length ∧ decide (l = m) = decide (l.drop k = m.drop k)) := ⟨fun n v => match v with | i => (∃ k : Nat, i = k ∧ k + n = l.length ∧ l.length = m.length ∧ decide (l = m) = decide (l.drop k = m.drop k)), fun _ _ => Iff.rfl⟩
    refine loopU ⟨[0, 1, 5], [], []⟩ (σ := Int) (fun v => [(5, .d (.int .i64 (t _ fun _ => v)))]) (fun v => []) J1 ?_
    cbv
    refine loopIn ⟨l.length, _, (hJ1 _ _).2 ?_, by simp only [ht]; rfl, ?_⟩
    · exact ⟨0, rfl, by simp, by ((try simp only [ncast] at *); omega), by simp⟩
    rintro n i hj
    replace hj := (hJ1 _ _).1 hj
    obtain ⟨k, rfl, j1, j2, j4⟩ := hj
    cbv
    refine condI (fun h2 => ?_) (fun h2 => ?_)
    · simp [ht, ncast, len_es, len_fs] at h2
      cbv
      refine drawI [false, false, false, false, false, false, false, false, true] (by kernel_rfl) (by kernel_rfl) ?_
      cbv
      refine gI (by simp [ht, pickI_iff]) ?_
      refine gI (by simp [ht, pickI_iff]) ?_
      refine idxM ht hes (cT := strCellsT t) (by (simp only [ht, ncast]; omega)) (by (simp only [ht, ncast]; omega)) (fun _ => rfl) (fun _ => rfl) (fun x3 mx3 => ?_)
      simp [ht, ncast] at mx3
      rw [drop_at mx3] at j4
      cbv
      refine gI (by simp [ht, pickI_iff]) ?_
      refine gI (by simp [ht, pickI_iff]) ?_
      refine gI (by simp [ht, pickI_iff]) ?_
      refine idxM ht hfs (cT := strCellsT t) (by (simp only [ht, ncast]; omega)) (by (simp only [ht, ncast]; omega)) (fun _ => rfl) (fun _ => rfl) (fun x4 mx4 => ?_)
      simp [ht, ncast] at mx4
      rw [drop_at mx4] at j4
      cbv
      refine gI (by simp [ht, pickI_iff]) ?_
      refine condI (fun h5 => ?_) (fun h5 => ?_)
      · simp [ht, ncast, len_es, len_fs] at h5
        cbv
        refine retF trivial trivial rfl rfl rfl ?_
        (simp [ht]; rintro rfl; simp_all; done)
      · simp [ht, ncast, len_es, len_fs] at h5
        cbv
        refine loopC _ (by simp only [ht]; rfl) (n - 1) ?_ ((hJ1 _ _).2 ?_)
        · omega
        · simp only [ht, ncast]
          refine ⟨k + 1, i64_upN (by omega), by omega, by omega, ?_⟩
          (simp [ht, EBool, *]; done)
    · simp [ht, ncast, len_es, len_fs] at h2
      cbv
      refine retF trivial trivial rfl rfl rfl ?_
      (simp [ht, j4, List.drop_eq_nil_of_le (show l.length ≤ k by omega), List.drop_eq_nil_of_le (show m.length ≤ k by omega)]; done)
end Dem
end
section
/- CONTRACTS: names. -/
open Go Dem Go.Proofs
namespace Dem
set_option maxRecDepth 100000
variable {t : Th}

theorem c_idxSpan (ht : TT t) (c : Int) {l : List (Int × Int)} {es : List (List D)} (hes : es = l.map (fun x => [D.int .i32 x.1, D.int .i32 x.2])) (f : Nat) (p : Int × Int → Bool) (hl : l.length < 9223372036854775807)
    (hf : ∀ x ∈ l, FC f [.agg [.d (.int .i32 x.1), .d (.int .i32 x.2)], .ptr 0 0] [.var [.d (.int .i32 c)]] (.ret (BL (p x))) [.var [.d (.int .i32 c)]]) {r : Int} (hr : r = idxOf p l) : FC 91 [SL es, .fn f [.ptr 0 0]] [.var [.d (.int .i32 c)]] (.ret (I64 r)) [.var [.d (.int .i32 c)]] := by
  have hel : es.length = l.length := by rw [hes, List.length_map]
  obtain ⟨J, hJ⟩ : ∃ J : Nat → Nat → Prop, ∀ n v, J n v ↔ (v + n = l.length ∧ ∀ i < v, ∀ x, l[i]? = some x → p x = false) := ⟨fun n v => v + n = l.length ∧ ∀ i < v, ∀ x, l[i]? = some x → p x = false, fun _ _ => Iff.rfl⟩
  refine fc' ht (bx0 := [.var [.d (.int .i32 c)]]) Tryd.func91 (c := _) rfl rfl (N := 19) rfl (rs := _) rfl (n := 1) rfl rfl ?_
  cbv
  refine loopU ⟨[0, 1, 7, 8], [], []⟩ (σ := Nat) (fun k => [(8, I64 (t _ fun _ => (k : Int)))]) (fun _ => []) J ?_
  cbv
  refine loopIn ⟨l.length, 0, (hJ _ _).2 ⟨by omega, by intro i hi; simp at hi⟩, by simp only [ht]; rfl, ?_⟩
  rintro n k hj
  obtain ⟨h2, h3⟩ := (hJ _ _).1 hj
  clear hj
  cbv
  refine condI (fun h => ?_) (fun h => ?_)
  · simp only [ht, ncast, decide_eq_true_eq] at h
    have hk : k < l.length := by omega
    obtain ⟨x, hx⟩ : ∃ x, l[k]? = some x := ⟨l[k], by simp⟩
    have hxm : x ∈ l := List.mem_of_getElem? hx
    have hfx := hf x hxm
    obtain ⟨px, hpx⟩ : ∃ b, b = p x := ⟨_, rfl⟩
    rw [← hpx] at hfx
    obtain ⟨lo, hi⟩ := x
    cbv
    refine idxI [.int .i32 lo, .int .i32 hi] ?_ ?_ ?_
    · simp only [ht, ncast]; refine ⟨by omega, h, ?_⟩; rw [hes]; intro r hr; obtain ⟨y, _, rfl⟩ := List.mem_map.1 hr; rfl
    · simp [ht, ncast, hes, hx]
    cbv
    refine callG trivial hfx ?_
    cbv
    refine condI (fun hb => ?_) (fun hb => ?_)
    · cbv
      refine retF trivial trivial rfl rfl rfl ?_
      have e := idxOf_at hx (hpx ▸ hb) h3
      simp only [ht, ncast, hr, idxOf, e]
    · cbv
      refine loopIn ⟨n - 1, k + 1, ⟨by omega, (hJ _ _).2 ⟨by omega, ?_⟩⟩, ?_⟩
      · intro i hi y hy
        by_cases hik : i < k
        · exact h3 i hik y hy
        · have : i = k := by omega
          subst this; rw [hx] at hy; cases hy; rw [← hpx]; exact hb
      · simp only [ht, ncast, i64_upN (show k < 9223372036854775807 by omega)]; rfl
  · simp only [ht, ncast, decide_eq_false_iff_not] at h
    have hk : ¬ k < l.length := by omega
    clear h
    cbv
    refine retF trivial trivial rfl rfl rfl ?_
    rw [hr, idxOf, idxOf_no]
    intro i y hy
    have : i < l.length := by rcases Nat.lt_or_ge i l.length with h' | h'; · exact h'
                              · simp [List.getElem?_eq_none h'] at hy
    exact h3 i (by omega) y hy

theorem c_anySpan (ht : TT t) (c : Int) {l : List (Int × Int)} {es : List (List D)} (hes : es = l.map (fun x => [D.int .i32 x.1, D.int .i32 x.2])) (f : Nat) (p : Int × Int → Bool) (hl : l.length < 9223372036854775807)
    (hf : ∀ x ∈ l, FC f [.agg [.d (.int .i32 x.1), .d (.int .i32 x.2)], .ptr 0 0] [.var [.d (.int .i32 c)]] (.ret (BL (p x))) [.var [.d (.int .i32 c)]]) {r : Bool} (hr : r = l.any p) : FC 80 [SL es, .fn f [.ptr 0 0]] [.var [.d (.int .i32 c)]] (.ret (BL r)) [.var [.d (.int .i32 c)]] := by
  obtain ⟨k, hk⟩ : ∃ k, k = idxOf p l := ⟨_, rfl⟩
  refine fc' ht (bx0 := [.var [.d (.int .i32 c)]]) Tryd.func80 (c := _) rfl rfl (N := 9) rfl (rs := _) rfl (n := 1) rfl rfl ?_
  cbv
  refine callG trivial (c_idxSpan ht c hes f p hl hf hk) ?_
  cbv
  refine retF trivial trivial rfl rfl rfl ?_
  simp only [ht, hr, idxOf_any, hk]

theorem c_among1 (ht : TT t) (c lo hi : Int) {r : Bool} (hr : r = (decide (lo ≤ c) && decide (c ≤ hi))) : FC 81 [.agg [.d (.int .i32 lo), .d (.int .i32 hi)], .ptr 0 0] [.var [.d (.int .i32 c)]] (.ret (BL r)) [.var [.d (.int .i32 c)]] := by
  refine fc' ht (bx0 := [.var [.d (.int .i32 c)]]) Tryd.func81 (c := _) rfl rfl (N := 14) rfl (rs := _) rfl (n := 1) rfl rfl ?_
  cbv
  repeat (first | refine gI (by first | (simp [ht, pickI_iff]; done) | (simp [ht, pickI_iff]; intros; simp_all; done)) ?_ | refine pI (by first | (simp [ht, pickI_iff]; done) | (simp [ht, pickI_iff]; intros; simp_all; done)) ?_)
  refine retF trivial trivial rfl rfl rfl ?_
  simp [ht, hr]

theorem c_among (ht : TT t) (c : Int) (l : List (Int × Int)) {es : List (List D)} (hes : es = l.map (fun x => [D.int .i32 x.1, D.int .i32 x.2])) (hl : l.length < 9223372036854775807) {r : Bool} (hr : r = among c l) : FC 65 [.d (.int .i32 c), SL es] [] (.ret (BL r)) [] := by
  refine fc' ht (bx0 := []) Tryd.func65 (c := _) rfl rfl (N := 8) rfl (rs := _) rfl (n := 0) rfl rfl ?_
  cbv
  refine callG trivial (c_anySpan ht c hes 81 (fun x => decide (x.1 ≤ c) && decide (c ≤ x.2)) hl (fun x _ => c_among1 ht c x.1 x.2 rfl) hr) ?_
  cbv
  exact retF trivial trivial rfl rfl rfl rfl

theorem c_count (ht : TT t) (s : Str) (hs : s.length < 9223372036854775807) {r : Int} (hr : r = wcount s) : FC 82 [ST s] [] (.ret (I64 r)) [] := by
  obtain ⟨J, hJ⟩ : ∃ J : Nat → Nat × Nat → Prop, ∀ n v, J n v ↔ (s.length ≤ v.1 + n ∧ v.2 + (runesF s n v.1).length = wcount s) := ⟨fun n v => s.length ≤ v.1 + n ∧ v.2 + (runesF s n v.1).length = wcount s, fun _ _ => Iff.rfl⟩
  have hc : wcount s ≤ s.length := runesF_len s _ _
  refine fc' ht (bx0 := []) Tryd.func82 (c := _) rfl rfl (N := 10) rfl (rs := _) rfl (n := 0) rfl rfl ?_
  cbv
  refine loopU ⟨[2, 4], [], []⟩ (σ := Nat × Nat) (fun v => [(2, I64 (t _ fun _ => (v.2 : Int)))]) (fun v => [(0, .it s (t _ fun _ => v.1))]) J ?_
  cbv
  refine loopIn ⟨s.length, (0, 0), (hJ _ _).2 ⟨by simp, by simp [wcount, runes]⟩, by simp only [ht]; rfl, ?_⟩
  rintro n ⟨pos, k⟩ hj
  obtain ⟨hf, hj⟩ := (hJ _ _).1 hj
  cbv
  refine ⟨fun hp => ?_, fun hp => ?_⟩
  · simp only [ht] at hp hj hf
    cases n with
    | zero => exfalso; omega
    | succ n =>
    rw [runesF, if_pos hp] at hj
    cbv
    refine condT rfl ?_
    cbv
    have hd := dec_pos s pos hp
    refine loopIn ⟨n, (pos + (dec s pos).2, k + 1), ⟨by omega, (hJ _ _).2 ⟨?_, ?_⟩⟩, ?_⟩
    · show s.length ≤ pos + _ + n; omega
    · rw [← hj]; simp only [List.length_cons]; omega
    · simp only [ht, ncast, i64_upN (show k < 9223372036854775807 by simp at hj; omega)]; rfl
  · simp only [ht] at hp hj
    cbv
    refine condF rfl ?_
    cbv
    refine retF trivial trivial rfl rfl rfl ?_
    have e : runesF s n pos = [] := by cases n with
      | zero => rfl
      | succ n => rw [runesF, if_neg hp]
    rw [e] at hj
    simp only [ht, ncast, hr, ← hj]; rfl
end Dem
end
section
/- CONTRACTS: names, labels. -/
open Go Dem Go.Proofs
namespace Dem
set_option maxRecDepth 100000
variable {t : Th}

theorem c_wcount (ht : TT t) (s : Str) (hs : s.length < 9223372036854775807) {r : Int} (hr : r = wcount s) : FC 66 [ST s] [] (.ret (I64 r)) [] := by
  refine fc' ht (bx0 := []) Tryd.func66 (c := _) rfl rfl (N := 5) rfl (rs := _) rfl (n := 0) rfl rfl ?_
  cbv
  refine callF trivial (c_count ht s hs hr) trivial rfl rfl ?_
  cbv
  exact retF trivial trivial rfl rfl rfl rfl

theorem c_wright (ht : TT t) (s : Str) (hs : s.length < 9223372036854775807) {r : Bool} (hr : r = wright s) : FC 39 [ST s] [] (.ret (BL r)) [] := by
  obtain ⟨J, hJ⟩ : ∃ J : Nat → Nat → Prop, ∀ n v, J n v ↔ (s.length ≤ v + n ∧ (runes s).all wok = (runesF s n v).all wok) := ⟨fun n v => s.length ≤ v + n ∧ (runes s).all wok = (runesF s n v).all wok, fun _ _ => Iff.rfl⟩
  refine fc' ht (bx0 := []) Tryd.func39 (c := _) rfl rfl (N := 32) rfl (rs := _) rfl (n := 0) rfl rfl ?_
  cbv
  refine loopU ⟨[0, 2, 6], [], []⟩ (σ := Nat) (fun _ => []) (fun v => [(0, .it s (t _ fun _ => v))]) J ?_
  cbv
  refine loopIn ⟨s.length, 0, (hJ _ _).2 ⟨by simp, by simp [runes]⟩, by simp only [ht]; rfl, ?_⟩
  rintro n pos hj
  obtain ⟨hf, hj⟩ := (hJ _ _).1 hj
  cbv
  refine ⟨fun hp => ?_, fun hp => ?_⟩
  · simp only [ht] at hp hj hf
    cases n with
    | zero => exfalso; omega
    | succ n =>
    rw [runesF, if_pos hp] at hj
    obtain ⟨b1, hb1⟩ : ∃ b, b = among (dec s pos).1 letters := ⟨_, rfl⟩
    obtain ⟨b2, hb2⟩ : ∃ b, b = among (dec s pos).1 marks := ⟨_, rfl⟩
    cbv
    refine condT rfl ?_
    cbv
    refine callF trivial (c_among ht _ letters rfl (by decide) (r := b1) (by simp only [ht, ncast]; exact hb1)) trivial rfl rfl ?_
    cbv
    repeat (first | refine gI (by first | (simp [ht, pickI_iff]; done) | (simp [ht, pickI_iff]; intros; simp_all; done)) ?_ | refine pI (by first | (simp [ht, pickI_iff]; done) | (simp [ht, pickI_iff]; intros; simp_all; done)) ?_)
    refine callQ (fun hg => ⟨by simp [ht] at hg ⊢; exact hg, trivial, c_among ht _ marks rfl (by decide) (r := b2) (by simp only [ht, ncast]; exact hb2)⟩) rfl rfl ?_
    cbv
    repeat (first | refine gI (by first | (simp [ht, pickI_iff]; done) | (simp [ht, pickI_iff]; intros; simp_all; done)) ?_ | refine pI (by first | (simp [ht, pickI_iff]; done) | (simp [ht, pickI_iff]; intros; simp_all; done)) ?_)
    obtain ⟨b, hb⟩ : ∃ b, b = (!b1 && (decide (pos = 0) || !b2)) := ⟨_, rfl⟩
    have hw : wok (pos, (dec s pos).1) = !b := by
      simp only [wok, ← hb1, ← hb2, hb]; cases b1 <;> cases b2 <;> simp
    refine condI (fun hc => ?_) (fun hc => ?_)
    · have hbt : b = true := by rw [hb]; simp [ht, ncast] at hc; revert hc; cases b1 <;> cases b2 <;> simp
      cbv
      refine retF trivial trivial rfl rfl rfl ?_
      simp only [List.all_cons, hw, hbt] at hj
      simp [hr, wright, hj]
    · have hbf : b = false := by rw [hb]; simp [ht, ncast] at hc; revert hc; cases b1 <;> cases b2 <;> simp
      cbv
      have hd := dec_pos s pos hp
      refine loopIn ⟨n, pos + (dec s pos).2, ⟨by omega, (hJ _ _).2 ⟨by omega, ?_⟩⟩, ?_⟩
      · rw [hj, List.all_cons, hw, hbf]; rfl
      · simp only [ht]; rfl
  · simp only [ht] at hp hj
    have e : runesF s n pos = [] := by cases n with
      | zero => rfl
      | succ n => rw [runesF, if_neg hp]
    rw [e] at hj
    obtain ⟨k, hk⟩ : ∃ k : Int, k = wcount s := ⟨_, rfl⟩
    cbv
    refine condF rfl ?_
    cbv
    repeat (first | refine gI (by first | (simp [ht, pickI_iff]; done) | (simp [ht, pickI_iff]; intros; simp_all; done)) ?_ | refine pI (by first | (simp [ht, pickI_iff]; done) | (simp [ht, pickI_iff]; intros; simp_all; done)) ?_)
    refine callQ (fun hg => ⟨by simp [ht] at hg ⊢; exact hg, trivial, c_wcount ht s hs hk⟩) rfl rfl ?_
    cbv
    repeat (first | refine gI (by first | (simp [ht, pickI_iff]; done) | (simp [ht, pickI_iff]; intros; simp_all; done)) ?_ | refine pI (by first | (simp [ht, pickI_iff]; done) | (simp [ht, pickI_iff]; intros; simp_all; done)) ?_)
    refine retF trivial trivial rfl rfl rfl ?_
    simp only [List.all_nil] at hj
    simp only [ht, ncast, hr, wright, hj, hk, Bool.true_and]
    simp
    congr 1
    rw [decide_eq_decide]; omega
end Dem
end
section
/- CONTRACTS: labels. -/
open Go Dem Go.Proofs
namespace Dem
set_option maxRecDepth 100000
variable {t : Th}

theorem c_lright (ht : TT t) (l : List Pair) (hl : l.length < 9223372036854775807) (hsm : ∀ p ∈ l, p.sm) {es : List (List D)} (hes : es = l.map Pair.cells) {r : Bool} (hr : r = lright l) : FC 40 [SL es] [] (.ret (BL r)) [] := by
  have hel : es.length = l.length := by rw [hes, List.length_map]
  obtain ⟨J, hJ⟩ : ∃ J : Nat → Nat → Prop, ∀ n v, J n v ↔ (v + n = l.length ∧ lrightF none l = lrightF (prevKey l v) (l.drop v)) := ⟨fun n v => v + n = l.length ∧ lrightF none l = lrightF (prevKey l v) (l.drop v), fun _ _ => Iff.rfl⟩
  refine fc' ht (bx0 := []) Tryd.func40 (c := _) rfl rfl (N := 41) rfl (rs := _) rfl (n := 0) rfl rfl ?_
  cbv
  refine loopU ⟨[0, 2, 5, 6, 7], [], []⟩ (σ := Nat) (fun k => [(7, I64 (t _ fun _ => (k : Int)))]) (fun _ => []) J ?_
  cbv
  refine loopIn ⟨l.length, 0, (hJ _ _).2 ⟨by simp, by simp [prevKey]⟩, by simp only [ht]; rfl, ?_⟩
  rintro n k hj
  obtain ⟨h2, h3⟩ := (hJ _ _).1 hj
  clear hj
  cbv
  refine condI (fun h => ?_) (fun h => ?_)
  · simp only [ht, ncast, decide_eq_true_eq] at h
    have hk : k < l.length := by omega
    obtain ⟨⟨ky, vl⟩, hx⟩ : ∃ x, l[k]? = some x := ⟨l[k], by simp⟩
    obtain ⟨sk, sv⟩ := hsm _ (List.mem_of_getElem? hx)
    obtain ⟨b1, hb1⟩ : ∃ b, b = wright ky := ⟨_, rfl⟩
    obtain ⟨b2, hb2⟩ : ∃ b, b = wright vl := ⟨_, rfl⟩
    cbv
    refine idxI [.str ky, .str vl] ?_ ?_ ?_
    · simp only [ht, ncast]; refine ⟨by omega, h, ?_⟩; rw [hes]; intro r hr; obtain ⟨y, _, rfl⟩ := List.mem_map.1 hr; rfl
    · simp [ht, ncast, hes, hx]
    cbv
    refine drawI [true, true, true, true, true, true, true, true, true, true, true, true, true, true, false, false, false, false, false, false, false, false, true, true, true] (by kernel_rfl) (by kernel_rfl) ?_
    cbv
    refine callF trivial (c_wright ht ky sk hb1) trivial rfl rfl ?_
    cbv
    repeat (first | refine gI (by first | (simp [ht, pickI_iff]; done) | (simp [ht, pickI_iff]; intros; simp_all; done)) ?_ | refine pI (by first | (simp [ht, pickI_iff]; done) | (simp [ht, pickI_iff]; intros; simp_all; done)) ?_)
    refine callQ (fun hg => ⟨by simp [ht] at hg ⊢; exact hg, trivial, c_wright ht vl sv hb2⟩) rfl rfl ?_
    cbv
    obtain ⟨⟨qk, qv⟩, hq⟩ : ∃ q : Pair, k ≠ 0 → l[k - 1]? = some q := by
      by_cases h0 : k = 0
      · exact ⟨⟨[], []⟩, fun h => absurd h0 h⟩
      · exact ⟨l[k - 1], fun _ => by simp⟩
    repeat (first | refine gI (by first | (simp [ht, pickI_iff]; done) | (simp [ht, pickI_iff]; intros; simp_all; done)) ?_ | refine pI (by first | (simp [ht, pickI_iff]; done) | (simp [ht, pickI_iff]; intros; simp_all; done)) ?_)
    refine idxG [.str qk, .str qv] ?_ ?_
    · intro hg
      simp [ht, ncast] at hg
      have h0 : k ≠ 0 := by omega
      have hw : IntKind.i64.wrap ((k : Int) - 1) = ((k - 1 : Nat) : Int) := by rw [wrap64 (by omega) (by omega)]; omega
      refine ⟨⟨?_, ?_⟩, ?_⟩
      · simp [ht, ncast]; omega
      · simp only [ht, ncast, hw]
        refine ⟨by omega, by omega, ?_⟩
        rw [hes]; intro r hr; obtain ⟨y, _, rfl⟩ := List.mem_map.1 hr; rfl
      · simp [ht, ncast, hw, hes, hq h0]
    cbv
    repeat (first | refine gI (by first | (simp [ht, pickI_iff]; done) | (simp [ht, pickI_iff]; intros; simp_all; done)) ?_ | refine pI (by first | (simp [ht, pickI_iff]; done) | (simp [ht, pickI_iff]; intros; simp_all; done)) ?_)
    obtain ⟨b, hb⟩ : ∃ b, b = (!b1 || !b2 || (decide (0 < k) && sle ky qk)) := ⟨_, rfl⟩
    have hstep : lrightF (prevKey l k) (l.drop k) = (!b && lrightF (prevKey l (k + 1)) (l.drop (k + 1))) := by
      have e1 : l.drop k = ⟨ky, vl⟩ :: l.drop (k + 1) := by
        rw [List.drop_eq_getElem_cons hk]; congr 1
        rw [List.getElem?_eq_getElem hk] at hx; exact Option.some.inj hx
      have e2 : prevKey l (k + 1) = some ky := by simp [prevKey, hx]
      rw [e1, e2]
      cases k with
      | zero => simp [lrightF, prevKey, ← hb1, ← hb2, hb]
      | succ k =>
        have := hq (by omega)
        simp only [Nat.add_sub_cancel] at this
        simp [lrightF, prevKey, this, ← hb1, ← hb2, hb]
    refine condI (fun hc => ?_) (fun hc => ?_)
    · have hbt : b = true := by rw [hb]; simp [ht, ncast, sle] at hc ⊢; revert hc; cases b1 <;> cases b2 <;> simp
      cbv
      refine retF trivial trivial rfl rfl rfl ?_
      rw [hr, lright, h3, hstep, hbt]; rfl
    · have hbf : b = false := by rw [hb]; simp [ht, ncast, sle] at hc ⊢; revert hc; cases b1 <;> cases b2 <;> simp
      cbv
      refine loopIn ⟨n - 1, k + 1, ⟨by omega, (hJ _ _).2 ⟨by omega, ?_⟩⟩, ?_⟩
      · rw [h3, hstep, hbf]; rfl
      · simp only [ht, ncast, i64_upN (show k < 9223372036854775807 by omega)]; rfl
  · simp only [ht, ncast, decide_eq_false_iff_not] at h
    have hk : k = l.length := by omega
    clear h
    cbv
    refine retF trivial trivial rfl rfl rfl ?_
    simp only [ht, ncast, hel, hr, lright, h3, hk, List.drop_length, lrightF, Bool.true_and]
    simp
    omega
end Dem
end
