/- JOINED TEXTS: Co30, Br1. -/
import Derived.Test.YtegnablmooijmaaDoorJ12
import Derived.Test.YtegnablmooijmaaDoorJ32
import Derived.ChangeSame
import Derived.ChangeArms
import Derived.OpenShut
import Derived.WideShapes
import Derived.Deep.Slices
set_option linter.unusedSimpArgs false
set_option linter.unusedVariables false
section
/- CONTRACTS: the law of what fails. -/
open Go Dem Go.Proofs
namespace Dem
set_option maxRecDepth 100000
set_option maxHeartbeats 4000000
variable {t : Th}
theorem elemAt {α : Type} [Inhabited α] (l : List α) (k : Nat) : ∃ x, k < l.length → l[k]? = some x := by
  by_cases h : k < l.length
  · exact ⟨l[k], fun _ => List.getElem?_eq_getElem h⟩
  · exact ⟨default, fun h' => absurd h' h⟩
/-- an element that is known where its guard holds -/
theorem idxKD {t : Th} (ht : TT t) {α : Type} {l : List α} {cells cT : α → List D} {es : List (List D)} {g : Bool} {c : Prop} (hes : es = l.map cells) {z : Int} {n : Nat} (i : Nat) (x : α) {K : List D → Prop} (hi : g = true → z = i ∧ l[i]? = some x) (hn : ∀ x, (cells x).length = n) (hT : ∀ x, cells x = cT x)
    (hc : g = true → c) (hK : K (cT x)) : IdxWp g (c ∧ (t Prop fun _ => 0 ≤ z ∧ z < es.length ∧ ∀ r ∈ es, r.length = n)) (t _ fun _ => es.getD z.toNat []) K := by
  refine idxG (cT x) (fun hg => ?_) hK
  obtain ⟨h1, h2⟩ := hi hg
  obtain ⟨ds, h, hk⟩ := idxK (K := fun ds => ds = cT x) ht hes h2 h1 hn hT rfl
  obtain ⟨h3, h4⟩ := h rfl
  exact ⟨⟨hc hg, h3⟩, h4.trans hk⟩
abbrev standAt (j : Int) (nm : Str) (y : Place) : Bool := decide (y.job = j) && decide (y.node = nm)
theorem stand_step {ps : List Place} {q : Nat} {x : Place} (h : ps[q]? = some x) {j : Int} {nm : Str} {b : Bool} (hb : b = (ps.take q).any (standAt j nm)) :
    (bif b then true else bif decide (x.job = j) then decide (x.node = nm) else false) = (ps.take (q + 1)).any (standAt j nm) := by
  rw [take_snoc h, List.any_append, hb]
  by_cases h3 : x.job = j <;> by_cases h4 : x.node = nm <;> cases (ps.take q).any (standAt j nm) <;> simp [standAt, h3, h4]
theorem stand_all {jl : List Int} {ps : List Place} {k q : Nat} {nm : Str} {j : Int} (hj : jl = pmet nm ps) (hx : jl[k]? = some j) (hq : ps.length ≤ q) : (ps.take q).any (standAt j nm) = true := by
  rw [hj] at hx
  obtain ⟨x, h1, h2, h3⟩ := pmet_at hx
  rw [List.take_of_length_le hq]
  exact List.any_eq_true.2 ⟨x, h1, by simp [standAt, h2, h3]⟩
theorem fails_no {jl : List Int} {ps : List Place} {k q : Nat} {nm : Str} {j j' : Int} {b : Bool} (hj : jl = pmet nm ps) (hx : jl[k]? = some j) (hy : jl[k - 1]? = some j') (hq : ps.length ≤ q) (hb : b = (ps.take q).any (standAt j nm)) (h : b = false ∨ 0 < k ∧ j ≤ j') : False := by
  rcases h with h | ⟨h1, h2⟩
  · rw [hb, stand_all hj hx hq] at h; cases h
  · rw [hj] at hx hy
    have := pmet_lt (i := k - 1) hy (by rw [Nat.sub_add_cancel h1]; exact hx)
    omega
theorem met_all {jl : List Int} {ps : List Place} {k q : Nat} {nm : Str} {x : Place} (hj : jl = pmet nm ps) (hx : ps[k]? = some x) (hq : jl.length ≤ q) (h : (decide (¬ x.node = nm) || decide (x.job ∈ jl.take q)) = false) : False := by
  rw [List.take_of_length_le hq] at h
  simp only [Bool.or_eq_false_iff, decide_eq_false_iff_not, Decidable.not_not] at h
  exact h.2 (by rw [hj]; exact pmet_mem.2 ⟨x, List.mem_of_getElem? hx, h.1, rfl⟩)
theorem met_step {jl : List Int} {q : Nat} {x : Int} (h : jl[q]? = some x) {j : Int} {g b : Bool} (hb : b = (g || decide (j ∈ jl.take q))) :
    (bif b then true else decide (x = j)) = (g || decide (j ∈ jl.take (q + 1))) := by
  rw [take_snoc h, hb]
  cases g
  · by_cases h1 : j ∈ jl.take q
    · simp [h1]
    · simp [h1, eq_comm]
  · rfl
theorem c_poolFails (ht : TT t) {l : List Laid} {es : List (List D)} (hes : es = l.map Laid.cells) (hu : ∀ x ∈ l, x.u) (hl : l.length < 9223372036854775808) (c : Nat) (hn : c < 256) {a : Int} (ea : a = c) :
    FC 4 [SL es, .d (.int .u8 a)] [] (.ret (BL true)) [] := by
  obtain ⟨⟨nl, pl⟩, hP⟩ : ∃ P, P = fillS l := ⟨_, rfl⟩
  obtain ⟨nm, hnm⟩ : ∃ nm, nm = nodeN (c % 5) := ⟨_, rfl⟩
  obtain ⟨ns, hns⟩ : ∃ ns : List (List D), ns = nodesL.map strRow := ⟨_, rfl⟩
  have oks := (fillS_ok l).1
  have lim := fill_lim l
  rw [← hP] at oks lim
  have bn : nl.length ≤ 16 := oks.most
  have bp : pl.length ≤ 120 := lim.places
  have b12 : (metKeys nm pl).length ≤ 12 := Nat.le_trans (met_six lim.jobs) (by decide)
  have bj : ∀ x ∈ pl, 0 ≤ x.job ∧ x.job < 18446744073709551616 := fun x hx => ⟨(lim.jobs x hx).1, by have := (lim.jobs x hx).2; omega⟩
  have sm : ∀ x ∈ nl, x.sm := lim.sm
  have hls : ∀ x ∈ nl, x.labels.length < 1000000000 := fun x hx => (sm x hx).2.1
  have fc := fails_cases oks nm
  have fm := pturn_mem oks.asc nm false
  have fe : (pfail ⟨nl, pl⟩ nm).1 = (pturn ⟨nl, pl⟩ nm false).1 := by unfold pfail; split <;> rfl
  rw [← fe] at fm
  obtain ⟨⟨⟨ql, qp⟩, jl, e⟩, hF⟩ : ∃ F, F = pfail ⟨nl, pl⟩ nm := ⟨_, rfl⟩
  rw [← hF] at fc fm
  simp only at fc fm
  obtain ⟨fm1, fm2⟩ := fm
  subst fm1
  have hql : ql.length ≤ 16 := by rcases fc with ⟨_, h, _⟩ | ⟨_, _, _, _, _, h, _⟩; (injection h with h; rw [h]; exact bn); omega
  have hlq : ∀ x ∈ ql, x.labels.length < 1000000000 := fun x hx => by obtain ⟨m, hm, _, _, h⟩ := fm2 x hx; rw [h]; exact hls m hm
  obtain ⟨⟨⟨wf1, wf2, wf3, wf4⟩, wf5⟩, hW⟩ : ∃ w, w = pfind nm nl := ⟨_, rfl⟩
  obtain ⟨⟨⟨wq1, wq2, wq3, wq4⟩, wq5⟩, hWq⟩ : ∃ w, w = pfind nm ql := ⟨_, rfl⟩
  obtain ⟨sp, hsp⟩ : ∃ s, s = nl.filterMap (pslot nl qp) := ⟨_, rfl⟩
  obtain ⟨sq, hsq⟩ : ∃ s, s = ql.filterMap (pslot ql qp) := ⟨_, rfl⟩
  rw [← hW, ← hWq, ← hsp, ← hsq] at fc
  have bsq : sq.length ≤ 16 := by rw [hsq]; exact Nat.le_trans (List.length_filterMap_le _ _) hql
  have hb1 : ¬ e = 0 → ql = nl ∧ jl = [] ∧ ((e = 7 ∧ wf5 = false) ∨ (e = 15 ∧ wf5 = true ∧ wf4 = false)) := fun h => by
    rcases fc with ⟨_, h1, h2, h3⟩ | ⟨h1, _⟩
    · injection h1 with h1; exact ⟨h1, h2, h3⟩
    · exact absurd h1 h
  have hb2 : e = 0 → jl = pmet nm qp ∧ wq4 = false ∧ IntKind.i64.wrap ((sq.length : Int) + 1) = (sp.length : Int) ∧ pturn ⟨ql, qp⟩ nm true = (⟨nl, qp⟩, 0) := fun h => by
    rcases fc with ⟨h1, _⟩ | ⟨_, h2, h3, h4, h5, _⟩
    · exact absurd h h1
    · exact ⟨h2, h3, by rw [wrap64 (by omega) (by omega)]; omega, h5⟩
  clear fc
  have bjl : jl.length ≤ 12 := by
    by_cases h : e = 0
    · rw [(hb2 h).1, pmet, (msort_perm _).length_eq]; exact b12
    · rw [(hb1 h).2.1]; simp
  refine fc' ht (bx0 := []) Tryd.func4 (c := _) rfl rfl (N := 206) rfl (rs := _) rfl (n := 0) rfl rfl ?_
  cbv
  have len_es : es.length = l.length := by rw [hes, List.length_map]
  refine callF trivial (c_examples ht) trivial rfl rfl ?_
  cbv
  refine condI (fun h0 => ?_) (fun h0 => ?_)
  · simp [ht, ncast, len_es] at h0
  · simp [ht, ncast, len_es] at h0
    cbv
    refine callES trivial (c_filledE ht (by assumption) (by assumption) (by assumption)) trivial rfl rfl rfl (fun r1 er1 => ?_)
    simp only [ht] at er1
    rw [← hP] at er1
    subst r1
    cbv
    refine callS trivial (c_nodesN ht (by assumption)) trivial rfl rfl rfl ?_
    cbv
    refine ⟨?_, ?_⟩
    · (simp only [ht, ncast] at *; omega)
    cbv
    (refine idxK ht hns (cT := strCellsT t) (i := c % 5) (x := nm) (by rw [hnm]; exact nodeN_get (Nat.mod_lt _ (by decide))) (by simp only [ht, ea, tm5]) (fun _ => rfl) (fun _ => rfl) ?_)
    cbv
    refine callES trivial (c_findE ht _ (thE ht rfl) (by ((try simp only [ncast] at *); omega))) trivial rfl rfl rfl (fun r2 er2 => ?_)
    simp only [ht] at er2
    first | rw [← hW] at er2 | rw [← hWq] at er2
    subst r2
    cbv
    refine callES trivial (c_failE ht _ (thE ht rfl) (thE ht rfl) (by ((try simp only [ncast] at *); omega)) (by ((try simp only [ncast] at *); omega)) (by assumption) (by assumption)) trivial rfl rfl rfl (fun r3 er3 => ?_)
    simp only [ht] at er3
    replace er3 := er3.trans hF.symm
    subst r3
    cbv
    refine condI (fun h4 => ?_) (fun h4 => ?_)
    · simp [ht, ncast, len_es] at h4
      cbv
      refine gI (by simp [ht, pickI_iff]) ?_
      refine gI (by simp [ht, pickI_iff]) ?_
      refine callEQ (fun g5 => ⟨trivial, trivial, c_sameE ht (thE ht rfl) (thE ht rfl) (thE ht rfl) (thE ht rfl) (by ((try simp only [ncast] at *); omega)) (by ((try simp only [ncast] at *); omega)) (by ((try simp only [ncast] at *); omega)) (by ((try simp only [ncast] at *); omega)) (by assumption) (by assumption)⟩) rfl rfl (fun r6 er6 => ?_)
      simp only [ht] at er6
      cbv
      refine pI (by simp [ht, pickI_iff]) ?_
      refine gI (by simp [ht, pickI_iff]) ?_
      refine gI (by simp [ht, pickI_iff]) ?_
      refine gI (by simp [ht, pickI_iff]) ?_
      refine pI (by simp [ht, pickI_iff]) ?_
      refine gI (by simp [ht, pickI_iff]) ?_
      refine gI (by simp [ht, pickI_iff]) ?_
      refine gI (by simp [ht, pickI_iff]) ?_
      refine gI (by simp [ht, pickI_iff]) ?_
      refine gI (by simp [ht, pickI_iff]) ?_
      refine pI (by simp [ht, pickI_iff]) ?_
      refine gI (by simp [ht, pickI_iff]) ?_
      refine gI (by simp [ht, pickI_iff]) ?_
      refine gI (by simp [ht, pickI_iff]) ?_
      refine gI (by simp [ht, pickI_iff]) ?_
      refine gI (by simp [ht, pickI_iff]) ?_
      refine gI (by simp [ht, pickI_iff]) ?_
      refine gI (by simp [ht, pickI_iff]) ?_
      refine gI (by simp [ht, pickI_iff]; intros; simp_all) ?_
      refine gI (by simp [ht, pickI_iff]) ?_
      refine pI (by simp [ht, pickI_iff]) ?_
      refine retF trivial trivial rfl rfl rfl ?_
      (obtain ⟨c1, c2, c3⟩ := hb1 (by assumption); subst c1 c2; rcases c3 with ⟨c3, c4⟩ | ⟨c3, c4, c5⟩ <;> simp [ht, *] <;> done)
    · simp [ht, ncast, len_es] at h4
      cbv
      obtain ⟨J7, hJ7⟩ : ∃ J7 : Nat → Int × List (List D) × List (List D) × List (List D) × List (List D) → Prop, ∀ n i u v u2 v2, J7 n (i, u, v, u2, v2) ↔ (∃ k : Nat, i = k ∧ k + n = jl.length ∧ u = nl.map Node.cells ∧ v = qp.map Place.cells ∧ u2 = ql.map Node.cells ∧ v2 = qp.map Place.cells) := ⟨fun n v => match v with | (i, u, v, u2, v2) => (∃ k : Nat, i = k ∧ k + n = jl.length ∧ u = nl.map Node.cells ∧ v = qp.map Place.cells ∧ u2 = ql.map Node.cells ∧ v2 = qp.map Place.cells), fun _ _ _ _ _ _ => Iff.rfl⟩
      refine loopU ⟨[5, 6, 7, 10, 11, 13], [], []⟩ (σ := Int × List (List D) × List (List D) × List (List D) × List (List D)) (fun v => [(13, .d (.int .i64 (t _ fun _ => v.1)))]) (fun v => [(0, .var [.d (.sl (t _ fun _ => v.2.1)), .d (.sl (t _ fun _ => v.2.2.1))]), (1, .var [.d (.sl (t _ fun _ => v.2.2.2.1)), .d (.sl (t _ fun _ => v.2.2.2.2))])]) J7 ?_
      cbv
      refine loopIn ⟨jl.length, (_, _, _, _, _), (hJ7 _ _ _ _ _ _).2 ?_, by simp only [ht]; rfl, ?_⟩
      · exact ⟨0, rfl, by omega, rfl, rfl, rfl, rfl⟩
      rintro n ⟨i, u, v, u2, v2⟩ hj
      replace hj := (hJ7 _ _ _ _ _ _).1 hj
      obtain ⟨k, rfl, j2, j3, j4, j5, j6⟩ := hj
      have len_u : u.length = nl.length := by rw [j3, List.length_map]
      have len_v : v.length = qp.length := by rw [j4, List.length_map]
      have len_u2 : u2.length = ql.length := by rw [j5, List.length_map]
      have len_v2 : v2.length = qp.length := by rw [j6, List.length_map]
      obtain ⟨jx, mjx⟩ := elemAt jl k
      obtain ⟨jy, mjy⟩ := elemAt jl (k - 1)
      cbv
      refine condI (fun h8 => ?_) (fun h8 => ?_)
      · simp [ht, ncast, len_es, len_u, len_v, len_u2, len_v2] at h8
        cbv
        obtain ⟨J9, hJ9⟩ : ∃ J9 : Nat → Bool × Int → Prop, ∀ m b p, J9 m (b, p) ↔ (∃ q : Nat, p = q ∧ q + m = qp.length ∧ b = (qp.take q).any (standAt jx nm)) := ⟨fun m v => match v with | (b, p) => (∃ q : Nat, p = q ∧ q + m = qp.length ∧ b = (qp.take q).any (standAt jx nm)), fun _ _ _ => Iff.rfl⟩
        refine loopU ⟨[5, 6, 7, 10, 11, 13, 14, 15], [], []⟩ (σ := Bool × Int) (fun v => [(14, .d (.bool (t _ fun _ => v.1))), (15, .d (.int .i64 (t _ fun _ => v.2)))]) (fun v => []) J9 ?_
        cbv
        refine loopIn ⟨qp.length, (_, _), (hJ9 _ _ _).2 ?_, by simp only [ht]; rfl, ?_⟩
        · exact ⟨0, rfl, by omega, by simp⟩
        rintro m ⟨b, p⟩ hj
        replace hj := (hJ9 _ _ _).1 hj
        obtain ⟨q, rfl, i2, i3⟩ := hj
        obtain ⟨xp, mxp⟩ := elemAt qp q
        cbv
        refine condI (fun h10 => ?_) (fun h10 => ?_)
        · simp [ht, ncast, len_es, len_u, len_v, len_u2, len_v2] at h10
          cbv
          refine drawI [true, true, false, false, false, false, false, false, false, false, false, false, true, true, false, false, false, false, false, false, false, true, true, true, true] (by kernel_rfl) (by kernel_rfl) ?_
          cbv
          refine gI (by simp [ht, pickI_iff]) ?_
          refine gI (by simp [ht, pickI_iff]) ?_
          refine gI (by simp [ht, pickI_iff]) ?_
          (refine idxKD ht (l := qp) (cells := Place.cells) (cT := Place.cellsT t) (by simp only [ht]; exact j4) q xp (fun _ => ⟨(by first | (simp only [ht]; done) | (simp only [ht] <;> rfl) | (simp [ht]; done)), mxp (by ((try simp only [ncast] at *); omega))⟩) (fun _ => rfl) (fun _ => (by simp only [ht, Place.cellsT] <;> rfl)) (fun g => by first | exact ⟨g, trivial⟩ | exact ⟨g, g, trivial⟩ | exact ⟨g, g, g, trivial⟩ | (simp [ht] at g ⊢; simp_all; done)) ?_)
          cbv
          refine gI (by simp [ht, pickI_iff]) ?_
          refine gI (by simp [ht, pickI_iff]) ?_
          refine gI (by simp [ht, pickI_iff]) ?_
          refine gI (by simp [ht, pickI_iff]) ?_
          (refine idxKD ht (l := jl) (cells := u64Row) (cT := u64RowT t) (by simp only [ht]) k jx (fun _ => ⟨(by first | (simp only [ht]; done) | (simp only [ht] <;> rfl) | (simp [ht]; done)), mjx (by ((try simp only [ncast] at *); omega))⟩) (fun _ => rfl) (fun _ => rfl) (fun g => by first | exact ⟨g, trivial⟩ | exact ⟨g, g, trivial⟩ | exact ⟨g, g, g, trivial⟩ | (simp [ht] at g ⊢; simp_all; done)) ?_)
          cbv
          refine gI (by simp [ht, pickI_iff]) ?_
          refine gI (by simp [ht, pickI_iff]) ?_
          refine gI (by simp [ht, pickI_iff]) ?_
          refine gI (by simp [ht, pickI_iff]) ?_
          refine gI (by simp [ht, pickI_iff]) ?_
          refine gI (by simp [ht, pickI_iff]) ?_
          (refine idxKD ht (l := qp) (cells := Place.cells) (cT := Place.cellsT t) (by simp only [ht]; exact j4) q xp (fun _ => ⟨(by first | (simp only [ht]; done) | (simp only [ht] <;> rfl) | (simp [ht]; done)), mxp (by ((try simp only [ncast] at *); omega))⟩) (fun _ => rfl) (fun _ => (by simp only [ht, Place.cellsT] <;> rfl)) (fun g => by first | exact ⟨g, trivial⟩ | exact ⟨g, g, trivial⟩ | exact ⟨g, g, g, trivial⟩ | (simp [ht] at g ⊢; simp_all; done)) ?_)
          cbv
          refine gI (by simp [ht, pickI_iff]) ?_
          refine gI (by simp [ht, pickI_iff]) ?_
          refine gI (by simp [ht, pickI_iff]) ?_
          refine gI (by simp [ht, pickI_iff]) ?_
          refine gI (by simp [ht, pickI_iff]; intros; simp_all) ?_
          refine pI (by simp [ht, pickI_iff]) ?_
          refine loopC (_, _) (by simp only [ht]; rfl) (m - 1) ?_ ((hJ9 _ _ _).2 ?_)
          · omega
          · simp only [ht, ncast]
            exact ⟨q + 1, i64_upN (by ((try simp only [ncast] at *); omega)), by ((try simp only [ncast] at *); omega), stand_step (mxp (by assumption)) i3⟩
        · simp [ht, ncast, len_es, len_u, len_v, len_u2, len_v2] at h10
          cbv
          refine drawI [true, true, true, true, true, true, false, false, false, false, false, false, false, false, false, true, true, true] (by kernel_rfl) (by kernel_rfl) ?_
          cbv
          refine gI (by simp [ht, pickI_iff]) ?_
          refine gI (by simp [ht, pickI_iff]) ?_
          refine gI (by simp [ht, pickI_iff]) ?_
          refine gI (by simp [ht, pickI_iff]) ?_
          refine gI (by simp [ht, pickI_iff]) ?_
          (refine idxKD ht (l := jl) (cells := u64Row) (cT := u64RowT t) (by simp only [ht]) k jx (fun _ => ⟨(by first | (simp only [ht]; done) | (simp only [ht] <;> rfl) | (simp [ht]; done)), mjx (by ((try simp only [ncast] at *); omega))⟩) (fun _ => rfl) (fun _ => rfl) (fun g => by first | exact ⟨g, trivial⟩ | exact ⟨g, g, trivial⟩ | exact ⟨g, g, g, trivial⟩ | (simp [ht] at g ⊢; simp_all; done)) ?_)
          cbv
          refine gI (by simp [ht, pickI_iff]) ?_
          refine gI (by simp [ht, pickI_iff]) ?_
          refine gI (by simp [ht, pickI_iff]) ?_
          refine gI (by simp [ht, pickI_iff]) ?_
          (refine idxKD ht (l := jl) (cells := u64Row) (cT := u64RowT t) (by simp only [ht]) (k - 1) jy (fun g => (by simp [ht] at g; exact ⟨by simp only [ht]; exact wrapSub (by omega) (by omega), mjy (by ((try simp only [ncast] at *); omega))⟩)) (fun _ => rfl) (fun _ => rfl) (fun g => by first | exact ⟨g, trivial⟩ | exact ⟨g, g, trivial⟩ | exact ⟨g, g, g, trivial⟩ | (simp [ht] at g ⊢; simp_all; done)) ?_)
          cbv
          refine gI (by simp [ht, pickI_iff]) ?_
          refine gI (by simp [ht, pickI_iff]) ?_
          refine gI (by simp [ht, pickI_iff]; intros; simp_all) ?_
          refine pI (by simp [ht, pickI_iff]) ?_
          refine condI (fun h11 => ?_) (fun h11 => ?_)
          · simp [ht, ncast, len_es, len_u, len_v, len_u2, len_v2] at h11
            cbv
            refine retF trivial trivial rfl rfl rfl ?_
            (exfalso; exact fails_no (hb2 (by assumption)).1 (mjx (by assumption)) (mjy (by omega)) (by omega) i3 (by assumption))
          · simp [ht, ncast, len_es, len_u, len_v, len_u2, len_v2] at h11
            cbv
            refine loopC (_, _, _, _, _) (by simp only [ht]; rfl) (n - 1) ?_ ((hJ7 _ _ _ _ _ _).2 ?_)
            · omega
            · simp only [ht, ncast]
              exact ⟨k + 1, i64_upN (by ((try simp only [ncast] at *); omega)), by ((try simp only [ncast] at *); omega), j3, j4, j5, j6⟩
      · simp [ht, ncast, len_es, len_u, len_v, len_u2, len_v2] at h8
        cbv
        obtain ⟨J12, hJ12⟩ : ∃ J12 : Nat → Int → Prop, ∀ n i, J12 n i ↔ (∃ k : Nat, i = k ∧ k + n = qp.length) := ⟨fun n v => match v with | i => (∃ k : Nat, i = k ∧ k + n = qp.length), fun _ _ => Iff.rfl⟩
        refine loopU ⟨[5, 6, 7, 10, 11, 16], [], []⟩ (σ := Int) (fun v => [(16, .d (.int .i64 (t _ fun _ => v)))]) (fun v => []) J12 ?_
        cbv
        refine loopIn ⟨qp.length, _, (hJ12 _ _).2 ?_, by simp only [ht]; rfl, ?_⟩
        · exact ⟨0, rfl, by omega⟩
        rintro n i hj
        replace hj := (hJ12 _ _).1 hj
        obtain ⟨k, rfl, j2'⟩ := hj
        obtain ⟨xq, mxq⟩ := elemAt qp k
        cbv
        refine condI (fun h13 => ?_) (fun h13 => ?_)
        · simp [ht, ncast, len_es, len_u, len_v, len_u2, len_v2] at h13
          cbv
          (refine idxK ht (l := qp) (cells := Place.cells) (cT := Place.cellsT t) (by simp only [ht]; exact j4) (mxq (by ((try simp only [ncast] at *); omega))) (by simp only [ht]) (fun _ => rfl) (fun _ => (by simp only [ht, Place.cellsT] <;> rfl)) ?_)
          cbv
          obtain ⟨J14, hJ14⟩ : ∃ J14 : Nat → Bool × Int → Prop, ∀ m b p, J14 m (b, p) ↔ (∃ q : Nat, p = q ∧ q + m = jl.length ∧ b = (decide (xq.node ≠ nm) || decide (xq.job ∈ jl.take q))) := ⟨fun m v => match v with | (b, p) => (∃ q : Nat, p = q ∧ q + m = jl.length ∧ b = (decide (xq.node ≠ nm) || decide (xq.job ∈ jl.take q))), fun _ _ _ => Iff.rfl⟩
          refine loopU ⟨[5, 6, 7, 10, 11, 16, 17, 18], [], []⟩ (σ := Bool × Int) (fun v => [(17, .d (.bool (t _ fun _ => v.1))), (18, .d (.int .i64 (t _ fun _ => v.2)))]) (fun v => []) J14 ?_
          cbv
          refine loopIn ⟨jl.length, (_, _), (hJ14 _ _ _).2 ?_, by simp only [ht]; rfl, ?_⟩
          · exact ⟨0, rfl, by omega, by simp⟩
          rintro m ⟨b, p⟩ hj
          replace hj := (hJ14 _ _ _).1 hj
          obtain ⟨q, rfl, i2, i3⟩ := hj
          obtain ⟨jq, mjq⟩ := elemAt jl q
          cbv
          refine condI (fun h15 => ?_) (fun h15 => ?_)
          · simp [ht, ncast, len_es, len_u, len_v, len_u2, len_v2] at h15
            cbv
            refine drawI [true, true, false, false, false, false, false, false, false, false, false, false, true, true, true] (by kernel_rfl) (by kernel_rfl) ?_
            cbv
            refine gI (by simp [ht, pickI_iff]) ?_
            refine gI (by simp [ht, pickI_iff]) ?_
            (refine idxKD ht (l := jl) (cells := u64Row) (cT := u64RowT t) (by simp only [ht]) q jq (fun _ => ⟨(by first | (simp only [ht]; done) | (simp only [ht] <;> rfl) | (simp [ht]; done)), mjq (by ((try simp only [ncast] at *); omega))⟩) (fun _ => rfl) (fun _ => rfl) (fun g => by first | exact ⟨g, trivial⟩ | exact ⟨g, g, trivial⟩ | exact ⟨g, g, g, trivial⟩ | (simp [ht] at g ⊢; simp_all; done)) ?_)
            cbv
            refine gI (by simp [ht, pickI_iff]) ?_
            refine gI (by simp [ht, pickI_iff]) ?_
            refine gI (by simp [ht, pickI_iff]) ?_
            refine gI (by simp [ht, pickI_iff]) ?_
            (refine idxKD ht (l := qp) (cells := Place.cells) (cT := Place.cellsT t) (by simp only [ht]; exact j4) k xq (fun _ => ⟨(by first | (simp only [ht]; done) | (simp only [ht] <;> rfl) | (simp [ht]; done)), mxq (by ((try simp only [ncast] at *); omega))⟩) (fun _ => rfl) (fun _ => (by simp only [ht, Place.cellsT] <;> rfl)) (fun g => by first | exact ⟨g, trivial⟩ | exact ⟨g, g, trivial⟩ | exact ⟨g, g, g, trivial⟩ | (simp [ht] at g ⊢; simp_all; done)) ?_)
            cbv
            refine gI (by simp [ht, pickI_iff]) ?_
            refine gI (by simp [ht, pickI_iff]) ?_
            refine gI (by simp [ht, pickI_iff]) ?_
            refine pI (by simp [ht, pickI_iff]) ?_
            refine loopC (_, _) (by simp only [ht]; rfl) (m - 1) ?_ ((hJ14 _ _ _).2 ?_)
            · omega
            · simp only [ht, ncast]
              exact ⟨q + 1, i64_upN (by ((try simp only [ncast] at *); omega)), by ((try simp only [ncast] at *); omega), met_step (mjq (by assumption)) i3⟩
          · simp [ht, ncast, len_es, len_u, len_v, len_u2, len_v2] at h15
            cbv
            refine condI (fun h16 => ?_) (fun h16 => ?_)
            · simp [ht, ncast, len_es, len_u, len_v, len_u2, len_v2] at h16
              cbv
              refine retF trivial trivial rfl rfl rfl ?_
              (exfalso; exact met_all (hb2 (by assumption)).1 (mxq (by assumption)) (by omega) (i3.symm.trans (by assumption)))
            · simp [ht, ncast, len_es, len_u, len_v, len_u2, len_v2] at h16
              cbv
              refine loopC _ (by simp only [ht]; rfl) (n - 1) ?_ ((hJ12 _ _).2 ?_)
              · omega
              · simp only [ht, ncast]
                exact ⟨k + 1, i64_upN (by ((try simp only [ncast] at *); omega)), by ((try simp only [ncast] at *); omega)⟩
        · simp [ht, ncast, len_es, len_u, len_v, len_u2, len_v2] at h13
          cbv
          refine callES trivial (c_mendE ht _ (by (simp only [ht]; ((try simp only [ncast] at *); omega))) (by (simp only [ht]; ((try simp only [ncast] at *); omega))) (by omega)) trivial rfl rfl rfl (fun r17 er17 => ?_)
          simp only [ht] at er17
          replace er17 := er17.trans (hb2 (by assumption)).2.2.2
          subst r17
          cbv
          refine callES trivial (c_findE ht _ (by (simp only [ht]; ((try simp only [ncast] at *); omega))) (by omega)) trivial rfl rfl rfl (fun r18 er18 => ?_)
          simp only [ht] at er18
          first | rw [← hW] at er18 | rw [← hWq] at er18
          subst r18
          cbv
          refine drawI [true, true, true, true, true, true, true, false, false, false, false, false, false, false, true, true, true, true, true, true, true, false, false, true, true, true] (by kernel_rfl) (by kernel_rfl) ?_
          cbv
          refine gI (by simp [ht, pickI_iff]) ?_
          refine gI (by simp [ht, pickI_iff]) ?_
          refine gI (by simp [ht, pickI_iff]) ?_
          refine pI (by simp [ht, pickI_iff]) ?_
          refine gI (by simp [ht, pickI_iff]) ?_
          first | (refine callEQS (fun g9 => ⟨(by first | exact ⟨g9, trivial⟩ | exact ⟨g9, g9, trivial⟩ | (simp [ht] at g9 ⊢; simp_all; done)), by simp [ht], c_slotsE ht (l := ql) (ps := qp) (by simp only [ht]; exact j5) (by simp only [ht]; exact j6) (by omega) (by omega)⟩) rfl rfl rfl (fun r9 er9 => ?_); simp only [ht] at er9; rw [← hsq] at er9; subst er9) | (refine callEQS (fun g9 => ⟨(by first | exact ⟨g9, trivial⟩ | exact ⟨g9, g9, trivial⟩ | (simp [ht] at g9 ⊢; simp_all; done)), by simp [ht], c_slotsE ht (l := nl) (ps := qp) (by simp only [ht]; exact j3) (by simp only [ht]; exact j4) (by omega) (by omega)⟩) rfl rfl rfl (fun r9 er9 => ?_); simp only [ht] at er9; rw [← hsp] at er9; subst er9)
          cbv
          refine gI (by simp [ht, pickI_iff]) ?_
          refine gI (by simp [ht, pickI_iff]) ?_
          refine gI (by simp [ht, pickI_iff]) ?_
          first | (refine callEQS (fun g9 => ⟨(by first | exact ⟨g9, trivial⟩ | exact ⟨g9, g9, trivial⟩ | (simp [ht] at g9 ⊢; simp_all; done)), by simp [ht], c_slotsE ht (l := ql) (ps := qp) (by simp only [ht]; exact j5) (by simp only [ht]; exact j6) (by omega) (by omega)⟩) rfl rfl rfl (fun r9 er9 => ?_); simp only [ht] at er9; rw [← hsq] at er9; subst er9) | (refine callEQS (fun g9 => ⟨(by first | exact ⟨g9, trivial⟩ | exact ⟨g9, g9, trivial⟩ | (simp [ht] at g9 ⊢; simp_all; done)), by simp [ht], c_slotsE ht (l := nl) (ps := qp) (by simp only [ht]; exact j3) (by simp only [ht]; exact j4) (by omega) (by omega)⟩) rfl rfl rfl (fun r9 er9 => ?_); simp only [ht] at er9; rw [← hsp] at er9; subst er9)
          cbv
          refine gI (by simp [ht, pickI_iff]) ?_
          refine gI (by simp [ht, pickI_iff]) ?_
          refine pI (by simp [ht, pickI_iff]) ?_
          refine gI (by simp [ht, pickI_iff]) ?_
          refine gI (by simp [ht, pickI_iff]) ?_
          refine pI (by simp [ht, pickI_iff]) ?_
          refine gI (by simp [ht, pickI_iff]) ?_
          refine gI (by simp [ht, pickI_iff]) ?_
          refine callEQ (fun g19 => ⟨by simp [ht] at g19 ⊢; exact g19, trivial, c_sameE ht (thE ht rfl) (by (simp only [ht]; ((try simp only [ncast] at *); omega))) (thE ht rfl) (by (simp only [ht]; ((try simp only [ncast] at *); omega))) (by ((try simp only [ncast] at *); omega)) (by omega) (by ((try simp only [ncast] at *); omega)) (by omega) (by assumption) (by assumption)⟩) rfl rfl (fun r20 er20 => ?_)
          simp only [ht] at er20
          cbv
          refine pI (by simp [ht, pickI_iff]) ?_
          refine retF trivial trivial rfl rfl rfl ?_
          (obtain ⟨_, e1, e2, _⟩ := hb2 (by assumption); simp [ht, ncast, e1, e2, er20]; done)
end Dem
end
section
/- FROM ARGUMENTS THAT READ AS DATA TO THE CALCULUS: typed data. -/
open Go Go.Deep
namespace Dem

/-- what a cell may be -/
inductive PT where
  | bool
  | int (k : IntKind)
  | str
  | sl (es : List PT)

def tyFs (r : TypeId → Option (List PT)) (sz : TypeId → Nat) : List Field → Nat → Option (List PT)
  | [], _ => some []
  | f :: fs, off => if f.offset = off then match r f.type, tyFs r sz fs (off + sz f.type) with
    | some a, some b => if a.length = sz f.type then some (a ++ b) else none
    | _, _ => none else none

def tyOf (P : Program) : Nat → TypeId → Option (List PT)
  | 0, _ => none
  | n + 1, t => match P.underlying t with
    | some .bool => some [.bool]
    | some (.int k) => some [.int k]
    | some .string => some [.str]
    | some (.slice e) => match tyOf P n e with
      | some ps => if ps.length = P.cellsOf e ∧ 0 < ps.length then some [.sl ps] else none
      | none => none
    | some (.struct fs) => match tyFs (tyOf P n) P.cellsOf fs.toList 0 with
      | some ps => if ps.length = P.cellsOf t then some ps else none
      | none => none
    | some (.array k e) => match tyOf P n e with
      | some ps => if ps.length = P.cellsOf e ∧ k * ps.length = P.cellsOf t then some (List.replicate k ps).flatten else none
      | none => none
    | _ => none

mutual
def HasTy : PT → D → Prop
  | .bool, d => ∃ b, d = .bool b
  | .int k, d => ∃ n, d = .int k n ∧ (Lit.int k n).wf = true
  | .str, d => ∃ s : List UInt8, d = .str s ∧ s.length ≤ maxLen
  | .sl ps, d => ∃ es : List (List D), d = .sl es ∧ es.length ≤ maxLen ∧ ∀ r ∈ es, HasTys ps r
def HasTys : List PT → List D → Prop
  | [], ds => ds = []
  | p :: ps, ds => ∃ d r, ds = d :: r ∧ HasTy p d ∧ HasTys ps r
end

theorem HasTys.length : ∀ {ps : List PT} {ds : List D}, HasTys ps ds → ds.length = ps.length
  | [], ds, h => by simp only [HasTys] at h; subst h; rfl
  | p :: ps, ds, h => by
    simp only [HasTys] at h
    obtain ⟨d, r, rfl, _, h2⟩ := h
    simp [HasTys.length h2]
theorem HasTys.append : ∀ {ps qs : List PT} {ds es : List D}, HasTys ps ds → HasTys qs es → HasTys (ps ++ qs) (ds ++ es)
  | [], qs, ds, es, h, g => by simp only [HasTys] at h; subst h; exact g
  | p :: ps, qs, ds, es, h, g => by
    simp only [HasTys] at h
    obtain ⟨d, r, rfl, h1, h2⟩ := h
    simp only [List.cons_append, HasTys]
    exact ⟨d, r ++ es, rfl, h1, h2.append g⟩

theorem RepDs.append {w : World} {ok : Nat → Prop} : ∀ {ds es : List D} {vs us : List Value}, RepDs w ok ds vs → RepDs w ok es us → RepDs w ok (ds ++ es) (vs ++ us)
  | [], es, vs, us, h, g => by simp only [RepDs] at h; subst h; exact g
  | d :: ds, es, vs, us, h, g => by
    simp only [RepDs] at h
    obtain ⟨v, r, rfl, h1, h2⟩ := h
    simp only [List.cons_append, RepDs]
    exact ⟨v, r ++ us, rfl, h1, h2.append g⟩
theorem RepDs.row {w : World} {ok : Nat → Prop} {blk : Nat} : ∀ {ds : List D} {vs : List Value} {off : Nat}, RepDs w ok ds vs → (∀ i, i < vs.length → w.cell? ⟨blk, off + i, none⟩ = vs[i]?) → RepRow w ok blk ds off
  | [], _, _, _, _ => by simp [RepRow]
  | d :: ds, vs, off, h, hc => by
    simp only [RepDs] at h
    obtain ⟨v, r, rfl, h1, h2⟩ := h
    simp only [RepRow]
    refine ⟨⟨v, by simpa using hc 0 (by simp), h1⟩, h2.row fun i hi => ?_⟩
    have := hc (i + 1) (by simp; omega)
    simpa [Nat.add_assoc, Nat.add_comm 1 i] using this
theorem RepDs.as {β : Nat → Nat} {bx : List Box} {w : World} {ok : Nat → Prop} : ∀ {ds : List D} {vs : List Value}, RepDs w ok ds vs → RepAs β bx w ok (ds.map .d) vs
  | [], vs, h => by simp only [RepDs] at h; subst h; simp [RepAs]
  | d :: ds, vs, h => by
    simp only [RepDs] at h
    obtain ⟨v, r, rfl, h1, h2⟩ := h
    simp only [List.map_cons, RepAs]
    exact ⟨v, r, rfl, by simpa [RepA] using h1, h2.as⟩

mutual
def flatD {H : Type} : DataW H → List D
  | .lit (.bool b) => [.bool b]
  | .lit (.int k n) => [.int k n]
  | .lit (.string s) => [.str s]
  | .nil => [.sl []]
  | .slice elems _ => [.sl (flatRows elems)]
  | .agg parts => flatCat parts
  | _ => []
def flatRows {H : Type} : List (DataW H) → List (List D)
  | [] => []
  | d :: r => flatD d :: flatRows r
def flatCat {H : Type} : List (DataW H) → List D
  | [] => []
  | d :: r => flatD d ++ flatCat r
end
theorem flatRows_map {H : Type} : ∀ l : List (DataW H), flatRows l = l.map flatD
  | [] => rfl
  | d :: r => by simp [flatRows, flatRows_map r]

theorem rangeRows {w : World} {ok : Nat → Prop} {blk sz : Nat} : ∀ (n off : Nat) (f : Nat → List D), (∀ i, i < n → RepRow w ok blk (f i) (off + i * sz) ∧ (f i).length = sz) → RepRows w ok blk sz ((List.range n).map f) off
  | 0, off, _, _ => by simp [RepRows]
  | n + 1, off, f, h => by
    obtain ⟨h1, h2⟩ := h 0 (by omega)
    rw [List.range_succ_eq_map, List.map_cons, List.map_map]
    simp only [RepRows]
    refine ⟨h2, by simpa using h1, rangeRows n (off + sz) _ fun i hi => ?_⟩
    obtain ⟨k1, k2⟩ := h (i + 1) (by omega)
    rw [show off + sz + i * sz = off + (i + 1) * sz by rw [Nat.succ_mul]; omega]
    exact ⟨k1, k2⟩

theorem spot_none {w : World} {a : Addr} {v : Value} (h : w.cell? a = some v) : a.spot = none := by
  unfold World.cell? at h
  split at h
  · split at h
    · cases h
    · rename_i hs; simpa using hs
  · cases h
theorem add_eq {a : Addr} (h : a.spot = none) (n : Nat) : a.add n = ⟨a.block, a.off + n, none⟩ := by
  unfold Addr.add
  split
  · rename_i h0; subst h0; cases a; simp_all
  · rfl
theorem take_split {α : Type} (cs : List α) (off a b : Nat) : (cs.drop off).take (a + b) = (cs.drop off).take a ++ (cs.drop (off + a)).take b := by
  rw [List.take_add, List.drop_drop]

section
variable {H : Type} {enc : TypeId × Value → H} {P : Program} {w : World} {spare : Nat → Bool} {held : Bool} {ok : Nat → Prop}

theorem fields_has {r : TypeId → Option (List PT)} {n : Nat} {cs : List Value} (hr : ∀ t cs x ps, DataW.trod enc P w 0 spare held n t cs = some x → r t = some ps → RepDs w ok (flatD x.1) cs ∧ HasTys ps (flatD x.1)) :
    ∀ (fs : List Field) (xs : List (DataW H × List MemPlace)) (off : Nat) (ps : List PT), tyFs r P.cellsOf fs off = some ps → xs.length = fs.length →
      (∀ (i : Nat) (f : Field), fs[i]? = some f → DataW.trod enc P w 0 spare held n f.type ((cs.drop f.offset).take (P.cellsOf f.type)) = xs[i]?) →
      RepDs w ok (flatCat (xs.map (·.1))) ((cs.drop off).take ps.length) ∧ HasTys ps (flatCat (xs.map (·.1)))
  | [], xs, off, ps, h, hl, _ => by
    simp only [tyFs, Option.some.injEq] at h; subst h
    obtain rfl : xs = [] := by simpa using hl
    exact ⟨by simp [RepDs, flatCat], by simp [HasTys, flatCat]⟩
  | f :: fs, [], off, ps, h, hl, hx => by simp at hl
  | f :: fs, x :: xs, off, ps, h, hl, hx => by
    simp only [tyFs] at h
    split at h
    · rename_i ho
      split at h
      · rename_i a b ha hb
        split at h
        · rename_i hla
          simp only [Option.some.injEq] at h; subst h
          have hx0 := hx 0 f rfl
          obtain ⟨g1, g2⟩ := hr _ _ _ _ (by simpa using hx0) ha
          obtain ⟨k1, k2⟩ := fields_has hr fs xs _ b hb (by simpa using hl) (fun i f hf => by simpa using hx (i + 1) f (by simpa using hf))
          rw [List.length_append, take_split]
          rw [ho, ← hla] at g1
          rw [← hla] at k1
          simp only [List.map_cons, flatCat]
          exact ⟨g1.append k1, g2.append k2⟩
        · cases h
      · cases h
    · cases h

theorem elems_has {r : List PT} {cs : List Value} : ∀ (k off : Nat) (xs : List (DataW H × List MemPlace)), xs.length = k → (∀ i x, xs[i]? = some x → RepDs w ok (flatD x.1) ((cs.drop (off + i * r.length)).take r.length) ∧ HasTys r (flatD x.1)) →
    RepDs w ok (flatCat (xs.map (·.1))) ((cs.drop off).take (k * r.length)) ∧ HasTys (List.replicate k r).flatten (flatCat (xs.map (·.1)))
  | 0, off, xs, hl, _ => by
    obtain rfl : xs = [] := by simpa using hl
    exact ⟨by simp [RepDs, flatCat], by simp [HasTys, flatCat]⟩
  | k + 1, off, [], hl, h => by simp at hl
  | k + 1, off, x :: xs, hl, h => by
    obtain ⟨g1, g2⟩ := h 0 x rfl
    obtain ⟨k1, k2⟩ := elems_has (r := r) (cs := cs) k (off + r.length) xs (by simpa using hl) (fun i x hx => by
      obtain ⟨k1, k2⟩ := h (i + 1) x (by simpa using hx)
      rw [show off + r.length + i * r.length = off + (i + 1) * r.length by rw [Nat.succ_mul]; omega]
      exact ⟨k1, k2⟩)
    rw [show (k + 1) * r.length = r.length + k * r.length by rw [Nat.succ_mul]; omega, take_split, List.replicate_succ, List.flatten_cons]
    simp only [List.map_cons, flatCat]
    exact ⟨RepDs.append (by simpa using g1) k1, g2.append k2⟩

theorem trod_has (hok : ∀ blk, blk < w.heap.size → ok blk) :
    ∀ (n m : Nat) (t : TypeId) (cs : List Value) (x : DataW H × List MemPlace) (ps : List PT), DataW.trod enc P w 0 spare held m t cs = some x → tyOf P n t = some ps → RepDs w ok (flatD x.1) cs ∧ HasTys ps (flatD x.1)
  | 0, _, _, _, _, _, _, h => by simp [tyOf] at h
  | n + 1, m, t, cs, x, ps, h, hp => by
    have ih := trod_has hok n
    rw [tyOf] at hp
    cases hu : P.underlying t with
    | none => simp [hu] at hp
    | some d =>
      simp only [hu] at hp
      cases d <;> (try (cases hp; done)) <;> simp only at hp
      case bool =>
        simp only [Option.some.injEq] at hp; subst hp
        obtain ⟨b, rfl, rfl⟩ := DataW.trod_bool hu h
        exact ⟨by simp [RepDs, RepD, flatD], by simp [HasTys, HasTy, flatD]⟩
      case int k =>
        simp only [Option.some.injEq] at hp; subst hp
        obtain ⟨z, rfl, rfl, hw⟩ := DataW.trod_int hu h
        exact ⟨by simp [RepDs, RepD, flatD], by simpa [HasTys, HasTy, flatD] using hw⟩
      case string =>
        simp only [Option.some.injEq] at hp; subst hp
        obtain ⟨s, rfl, rfl, hs⟩ := DataW.trod_string hu h
        refine ⟨by simp [RepDs, RepD, flatD], ?_⟩
        simp only [HasTys, HasTy, flatD]
        exact ⟨_, _, rfl, ⟨_, rfl, by rw [Array.length_toList]; exact hs⟩, rfl⟩
      case slice e =>
        split at hp
        · rename_i qs hq
          split at hp
          · rename_i hl
            simp only [Option.some.injEq] at hp; subst hp
            rcases open_slice hu h with ⟨rfl, rfl⟩ | ⟨a, len, cap, mm, n', Dd, Pl, rfl, hb, hlc, hm, hmm, rfl, hx⟩
            · exact ⟨by simp [RepDs, RepD, flatD], by simp [HasTys, HasTy, flatD]⟩
            · have hlen : len ≤ mm := by rw [hmm]; split <;> omega
              have hel : ∀ i, i < len → ∃ cs', w.cells? 0 (a.add (i * P.cellsOf e)) (P.cellsOf e) = some cs' ∧ RepDs w ok (flatD (Dd i)) cs' ∧ HasTys qs (flatD (Dd i)) := by
                intro i hi
                obtain ⟨cs', hc, htr⟩ := hx i (by omega)
                exact ⟨cs', hc, ih _ _ _ _ _ htr hq⟩
              have hfl : flatD (.slice ((List.range len).map Dd) ((List.range (mm - len)).map fun j => Dd (len + j))) = [.sl ((List.range len).map fun i => flatD (Dd i))] := by
                simp [flatD, flatRows_map, List.map_map, Function.comp_def]
              simp only [hfl]
              have hty : HasTys [.sl qs] [.sl ((List.range len).map fun i => flatD (Dd i))] := by
                simp only [HasTys, HasTy]
                refine ⟨_, _, rfl, ⟨_, rfl, by simp; omega, ?_⟩, rfl⟩
                intro r hr
                obtain ⟨i, hi, rfl⟩ := List.mem_map.1 hr
                obtain ⟨cs', _, _, g⟩ := hel i (by simpa using hi)
                exact g
              refine ⟨?_, hty⟩
              cases len with
              | zero => simp [RepDs, RepD]
              | succ len =>
                have hsp : a.spot = none := by
                  obtain ⟨cs', hc, htr⟩ := hel 0 (by omega)
                  obtain ⟨_, hl', hcell⟩ := World.cells?_some hc
                  have h0 := hcell 0 (by omega)
                  rw [List.getElem?_eq_getElem (by omega)] at h0
                  have := spot_none h0
                  simpa [Addr.add] using this
                have hblk : a.block < w.heap.size := by
                  obtain ⟨cs', hc, htr⟩ := hel 0 (by omega)
                  have := World.cells?_block hc (by omega)
                  simpa [Addr.add] using this
                have g := rangeRows (w := w) (ok := ok) (blk := a.block) (sz := P.cellsOf e) (len + 1) a.off (fun i => flatD (Dd i)) (fun i hi => by
                  obtain ⟨cs', hc, g1, g2⟩ := hel i hi
                  obtain ⟨_, hl', hcell⟩ := World.cells?_some hc
                  refine ⟨g1.row (fun j hj => ?_), by rw [g2.length]; exact hl.1⟩
                  have := hcell j (by omega)
                  rw [add_eq hsp, add_eq rfl] at this
                  exact this)
                simp only [RepDs, RepD]
                exact ⟨_, _, rfl, ⟨some a, cap, by simp, by simp; omega, .inr ⟨a.block, a.off, P.cellsOf e, by cases a; simp_all, hok _ hblk, g⟩⟩, rfl⟩
          · cases hp
        · cases hp
      case struct fs =>
        split at hp
        · rename_i qs hq
          split at hp
          · rename_i hl
            simp only [Option.some.injEq] at hp; subst hp
            obtain ⟨xs, m', hm, rfl, hcl, hxl, hxs⟩ := DataW.trod_struct hu h
            have hf : ∀ (i : Nat) (f : Field), fs.toList[i]? = some f → DataW.trod enc P w 0 spare held m' f.type ((cs.drop f.offset).take (P.cellsOf f.type)) = xs[i]? := by
              intro i f hf
              exact hxs i f (by simpa using hf)
            obtain ⟨g1, g2⟩ := fields_has (ok := ok) (fun t cs x ps => ih m' t cs x ps) fs.toList xs 0 _ hq (by simpa using hxl) hf
            simp only [flatD]
            refine ⟨?_, g2⟩
            have e : (cs.drop 0).take qs.length = cs := by rw [List.drop_zero, hl, ← hcl, List.take_length]
            rwa [e] at g1
          · cases hp
        · cases hp
      case array k e =>
        split at hp
        · rename_i qs hq
          split at hp
          · rename_i hl
            simp only [Option.some.injEq] at hp; subst hp
            obtain ⟨xs, m', hm, rfl, hcl, hxl, hxs⟩ := DataW.trod_array hu h
            obtain ⟨g1, g2⟩ := elems_has (w := w) (ok := ok) (r := qs) (cs := cs) k 0 xs hxl (fun i x hi => by
              have hi3 : i < xs.length := (List.getElem?_eq_some_iff.1 hi).1
              have := hxs i (by omega)
              rw [hl.1, Nat.zero_add]
              rw [hi] at this
              exact ih _ _ _ _ _ this hq)
            simp only [flatD]
            refine ⟨?_, g2⟩
            have e : (cs.drop 0).take (k * qs.length) = cs := by rw [List.drop_zero, hl.2, ← hcl, List.take_length]
            rwa [e] at g1
          · cases hp
        · cases hp
end
end Dem
end
