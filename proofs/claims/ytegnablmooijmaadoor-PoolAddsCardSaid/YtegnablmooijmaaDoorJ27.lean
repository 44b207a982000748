/- JOINED TEXTS: Co13, Co14, Pl4. -/
import Derived.Test.YtegnablmooijmaaDoorJ24
import Derived.Test.YtegnablmooijmaaDoorJ26
set_option linter.unusedSimpArgs false
set_option linter.unusedVariables false
section
/- CONTRACTS: pool: Same, Slots, Right. -/
open Go Dem Go.Proofs
namespace Dem
set_option maxRecDepth 100000
variable {t : Th}
theorem c_sameNodeE (ht : TT t) (nm nm' : Str) (a b c d a' b' c' d' : Int) {lb lb' : List Pair} {lr lr' : List (List D)} (hlr : lr = lb.map Pair.cells) (hlr' : lr' = lb'.map Pair.cells) (up up' : Bool) (hl : lb.length < 1000000000) (hl' : lb'.length < 1000000000) :
    FC 36 [.agg [ST nm, U64 a, U64 b, U64 c, U64 d, SL lr, BL up], .agg [ST nm', U64 a', U64 b', U64 c', U64 d', SL lr', BL up']] [] (.ret (EBool (t _ fun _ => decide ((⟨nm, ⟨a, b, c, d⟩, lb, up⟩ : Node) = ⟨nm', ⟨a', b', c', d'⟩, lb', up'⟩)))) [] := by
  refine fc' ht (bx0 := []) Tryd.func36 (c := _) rfl rfl (N := 31) rfl (rs := _) rfl (n := 0) rfl rfl ?_
  cbv
  have len_lr : lr.length = lb.length := by rw [hlr, List.length_map]
  have len_lr' : lr'.length = lb'.length := by rw [hlr', List.length_map]
  refine gI (by simp [ht, pickI_iff]) ?_
  refine gI (by simp [ht, pickI_iff]) ?_
  refine gI (by simp [ht, pickI_iff]) ?_
  refine gI (by simp [ht, pickI_iff]) ?_
  refine gI (by simp [ht, pickI_iff]) ?_
  refine pI (by simp [ht, pickI_iff]) ?_
  refine gI (by simp [ht, pickI_iff]) ?_
  refine gI (by simp [ht, pickI_iff]) ?_
  refine gI (by simp [ht, pickI_iff]) ?_
  refine gI (by simp [ht, pickI_iff]) ?_
  refine gI (by simp [ht, pickI_iff]) ?_
  refine pI (by simp [ht, pickI_iff]) ?_
  refine gI (by simp [ht, pickI_iff]) ?_
  refine gI (by simp [ht, pickI_iff]) ?_
  refine gI (by simp [ht, pickI_iff]) ?_
  refine gI (by simp [ht, pickI_iff]) ?_
  refine callEQ (fun g0 => ⟨by simp [ht] at g0 ⊢; exact g0, trivial, c_eqPairE ht (by assumption) (by assumption) (by assumption) (by assumption)⟩) rfl rfl (fun r1 er1 => ?_)
  simp only [ht] at er1
  cbv
  refine pI (by simp [ht, pickI_iff]) ?_
  refine retF trivial trivial rfl rfl rfl ?_
  (simp [ht, EBool, *]; grind)
theorem c_eqNodeE (ht : TT t) {l m : List Node} {es fs : List (List D)} (hes : es = l.map Node.cells) (hfs : fs = m.map Node.cells) (hl : l.length < 1000000000) (hm : m.length < 1000000000) (hls : ∀ x ∈ l, x.labels.length < 1000000000) (hms : ∀ x ∈ m, x.labels.length < 1000000000) :
    FC 35 [SL es, SL fs, .fn 36 []] [] (.ret (EBool (t _ fun _ => decide (l = m)))) [] := by
  refine fc' ht (bx0 := []) Tryd.func35 (c := _) rfl rfl (N := 32) rfl (rs := _) rfl (n := 0) rfl rfl ?_
  cbv
  have len_es : es.length = l.length := by rw [hes, List.length_map]
  have len_fs : fs.length = m.length := by rw [hfs, List.length_map]
  refine condI (fun h0 => ?_) (fun h0 => ?_)
  · simp [ht, ncast, len_es, len_fs] at h0
    cbv
    refine retF trivial trivial rfl rfl rfl ?_
    (simp [ht]; rintro rfl; simp_all; done)
  · simp [ht, ncast, len_es, len_fs] at h0
    cbv
    obtain ⟨J1, hJ1⟩ : ∃ J1 : Nat → Int → Prop, ∀ n i, J1 n i ↔ (∃ k : Nat, i = k ∧ k + n = l.length ∧ l.length = m.length ∧ decide (l = m) = decide (l.drop k = m.drop k)) := ⟨fun n v => match v with | i => (∃ k : Nat, i = k ∧ k + n = l.length ∧ l.length = m.length ∧ decide (l = m) = decide (l.drop k = m.drop k)), fun _ _ => Iff.rfl⟩
    refine loopU ⟨[1, 2, 15, 16, 17], [], []⟩ (σ := Int) (fun v => [(17, .d (.int .i64 (t _ fun _ => v)))]) (fun v => []) J1 ?_
    cbv
    refine loopIn ⟨l.length, _, (hJ1 _ _).2 ?_, by simp only [ht]; rfl, ?_⟩
    · (simp only [ht, ncast, EBool, node_eq, vec_eq]; grind)
    rintro n i hj
    replace hj := (hJ1 _ _).1 hj
    obtain ⟨k, rfl, j1, j2, j4⟩ := hj
    cbv
    refine condI (fun h2 => ?_) (fun h2 => ?_)
    · simp [ht, ncast, len_es, len_fs] at h2
      cbv
      refine idxM ht hes (cT := Node.cellsT t) (by (simp only [ht, ncast]; omega)) (by (simp only [ht, ncast]; omega)) (fun _ => rfl) (fun _ => (by (simp only [ht, Node.cellsT]; done))) (fun x3 mx3 => ?_)
      simp [ht, ncast] at mx3
      rw [drop_at mx3] at j4
      have sx3 := hls _ (List.mem_of_getElem? mx3)
      cbv
      refine idxM ht hfs (cT := Node.cellsT t) (by (simp only [ht, ncast]; omega)) (by (simp only [ht, ncast]; omega)) (fun _ => rfl) (fun _ => (by (simp only [ht, Node.cellsT]; done))) (fun x4 mx4 => ?_)
      simp [ht, ncast] at mx4
      rw [drop_at mx4] at j4
      have sx4 := hms _ (List.mem_of_getElem? mx4)
      cbv
      refine callEF trivial (c_sameNodeE ht _ _ _ _ _ _ _ _ _ _ (thE ht rfl) (thE ht rfl) _ _ (by assumption) (by assumption)) trivial rfl rfl (fun r5 er5 => ?_)
      simp only [ht] at er5
      cbv
      refine condI (fun h6 => ?_) (fun h6 => ?_)
      · simp [ht, ncast, len_es, len_fs] at h6
        cbv
        refine retF trivial trivial rfl rfl rfl ?_
        (simp [ht]; rintro rfl; simp_all; done)
      · simp [ht, ncast, len_es, len_fs] at h6
        cbv
        refine loopC _ rfl (n - 1) ?_ ((hJ1 _ _).2 ?_)
        · omega
        · simp only [ht, ncast]
          refine ⟨k + 1, i64_upN (by omega), by omega, by omega, ?_⟩
          (simp_all [ht, EBool, node_eq, vec_eq]; done)
    · simp [ht, ncast, len_es, len_fs] at h2
      cbv
      refine retF trivial trivial rfl rfl rfl ?_
      (simp [ht, j4, List.drop_eq_nil_of_le (show l.length ≤ k by omega), List.drop_eq_nil_of_le (show m.length ≤ k by omega)]; done)
theorem c_sameE (ht : TT t) {l l' : List Node} {ps ps' : List Place} {es es' qs qs' : List (List D)} (hes : es = l.map Node.cells) (hes' : es' = l'.map Node.cells) (hqs : qs = ps.map Place.cells) (hqs' : qs' = ps'.map Place.cells)
    (hl : l.length < 1000000000) (hl' : l'.length < 1000000000) (hpl : ps.length < 1000000000) (hpl' : ps'.length < 1000000000) (hls : ∀ x ∈ l, x.labels.length < 1000000000) (hls' : ∀ x ∈ l', x.labels.length < 1000000000) :
    FC 15 [.agg [SL es, SL qs], .agg [SL es', SL qs']] [] (.ret (EBool (t _ fun _ => decide (l = l' ∧ ps = ps')))) [] := by
  refine fc' ht (bx0 := []) Tryd.func15 (c := _) rfl rfl (N := 17) rfl (rs := _) rfl (n := 0) rfl rfl ?_
  cbv
  have len_es : es.length = l.length := by rw [hes, List.length_map]
  have len_es' : es'.length = l'.length := by rw [hes', List.length_map]
  have len_qs : qs.length = ps.length := by rw [hqs, List.length_map]
  have len_qs' : qs'.length = ps'.length := by rw [hqs', List.length_map]
  refine callEF trivial (c_eqNodeE ht (by assumption) (by assumption) (by assumption) (by assumption) (by assumption) (by assumption)) trivial rfl rfl (fun r0 er0 => ?_)
  simp only [ht] at er0
  cbv
  refine gI (by simp [ht, pickI_iff]) ?_
  refine gI (by simp [ht, pickI_iff]) ?_
  refine gI (by simp [ht, pickI_iff]) ?_
  refine gI (by simp [ht, pickI_iff]) ?_
  refine callEQ (fun g1 => ⟨by simp [ht] at g1 ⊢; exact g1, trivial, c_eqPlaceE ht (by assumption) (by assumption) (by assumption) (by assumption)⟩) rfl rfl (fun r2 er2 => ?_)
  simp only [ht] at er2
  cbv
  refine pI (by simp [ht, pickI_iff]) ?_
  refine retF trivial trivial rfl rfl rfl ?_
  (simp [ht, EBool, *]; done)
theorem c_slotsE (ht : TT t) {l : List Node} {ps : List Place} {es qs : List (List D)} (hes : es = l.map Node.cells) (hqs : qs = ps.map Place.cells) (hl : l.length < 1000000000) (hpl : ps.length < 1000000000) :
    FC 22 [.agg [SL es, SL qs]] [] (.ret (ESlots t (t _ fun _ => l.filterMap (pslot l ps)))) [] := by
  refine fc' ht (bx0 := []) Tryd.func22 (c := _) rfl rfl (N := 38) rfl (rs := _) rfl (n := 0) rfl rfl ?_
  cbv
  have len_es : es.length = l.length := by rw [hes, List.length_map]
  have len_qs : qs.length = ps.length := by rw [hqs, List.length_map]
  obtain ⟨J0, hJ0⟩ : ∃ J0 : Nat → List (List D) × Int → Prop, ∀ n o i, J0 n (o, i) ↔ (∃ (k : Nat) (rs : List Slot), i = k ∧ k + n = l.length ∧ o = rs.map Slot.cells ∧ rs.length ≤ k ∧ l.filterMap (pslot l ps) = rs ++ (l.drop k).filterMap (pslot l ps)) := ⟨fun n v => match v with | (o, i) => (∃ (k : Nat) (rs : List Slot), i = k ∧ k + n = l.length ∧ o = rs.map Slot.cells ∧ rs.length ≤ k ∧ l.filterMap (pslot l ps) = rs ++ (l.drop k).filterMap (pslot l ps)), fun _ _ _ => Iff.rfl⟩
  refine loopU ⟨[1, 3, 9, 10, 11], [(3, 6)], []⟩ (σ := List (List D) × Int) (fun v => [(3, .ow 1 6 (t _ fun _ => (v.1).length)), (11, .d (.int .i64 (t _ fun _ => v.2)))]) (fun v => [(1, .row 6 (t _ fun _ => v.1))]) J0 ?_
  cbv
  refine loopIn ⟨l.length, ([], _), (hJ0 _ _ _).2 ?_, by simp only [ht]; rfl, ?_⟩
  · exact ⟨0, [], rfl, by simp, rfl, by simp, by simp⟩
  rintro n ⟨o, i⟩ hj
  replace hj := (hJ0 _ _ _).1 hj
  obtain ⟨k, rs, rfl, j1, j2, j3, j4⟩ := hj
  have len_o : o.length = rs.length := by rw [j2, List.length_map]
  cbv
  refine condI (fun h1 => ?_) (fun h1 => ?_)
  · simp [ht, ncast, len_es, len_qs, len_o] at h1
    cbv
    refine idxM ht hes (cT := Node.cellsT t) (by (simp only [ht, ncast]; omega)) (by (simp only [ht, ncast]; omega)) (fun _ => rfl) (fun _ => (by (simp only [ht, Node.cellsT]; done))) (fun x2 mx2 => ?_)
    simp [ht, ncast] at mx2
    rw [drop_at mx2, List.filterMap_cons, pslot] at j4
    cbv
    refine callEF trivial (c_freeE ht _ (by assumption) (by assumption) (by omega) (by omega)) trivial rfl rfl (fun r3 er3 => ?_)
    simp only [ht] at er3
    cbv
    refine gI (by simp [ht, pickI_iff]) ?_
    refine gI (by simp [ht, pickI_iff]) ?_
    refine pI (by simp [ht, pickI_iff]) ?_
    refine condI (fun h4 => ?_) (fun h4 => ?_)
    · simp [ht, ncast, len_es, len_qs, len_o] at h4
      cbv
      refine ⟨?_, ?_⟩
      · (simp only [ht, true_and]; exact apBig j2 (fun _ => rfl) rfl (by omega) (by decide))
      cbv
      refine loopC (_, _) (by simp only [ht, ← List.length_append]; rfl) (n - 1) ?_ ((hJ0 _ _ _).2 ?_)
      · omega
      · simp only [ht, ncast]
        first | exact ⟨k + 1, rs, i64_upN (by omega), by omega, j2, by omega, by grind⟩ | refine ⟨k + 1, rs ++ [⟨(x2).name, (pfree (x2).name l ps).1, (x2).labels⟩], i64_upN (by omega), by omega, ?_, by simp; omega, ?_⟩
        · (simp [ht, ESlots, pslot, Slot.cells, *]; done)
        · (simp_all [ht, ESlots, pslot, Slot.cells]; done)
    · simp [ht, ncast, len_es, len_qs, len_o] at h4
      cbv
      refine loopC (_, _) (by simp only [ht]; rfl) (n - 1) ?_ ((hJ0 _ _ _).2 ?_)
      · omega
      · simp only [ht, ncast]
        first | exact ⟨k + 1, rs, i64_upN (by omega), by omega, j2, by omega, by grind⟩ | refine ⟨k + 1, rs ++ [⟨(x2).name, (pfree (x2).name l ps).1, (x2).labels⟩], i64_upN (by omega), by omega, ?_, by simp; omega, ?_⟩
  · simp [ht, ncast, len_es, len_qs, len_o] at h1
    cbv
    refine retF trivial (by simp [ht]) rfl rfl rfl ?_
    (rw [List.drop_eq_nil_of_le (by omega)] at j4; simp [ht, ESlots, pslot, Slot.cells, *]; done)
theorem c_wrightE (ht : TT t) (s : Str) (hs : s.length < 9223372036854775807) : FC 39 [ST s] [] (.ret (EBool (t _ fun _ => wright s))) [] := by
  simp only [ht]; exact c_wright ht s hs rfl
theorem c_lrightE (ht : TT t) {l : List Pair} {es : List (List D)} (hes : es = l.map Pair.cells) (hl : l.length < 1000000000) (hsm : ∀ p ∈ l, p.sm) : FC 40 [SL es] [] (.ret (EBool (t _ fun _ => lright l))) [] := by
  simp only [ht]; exact c_lright ht l (by omega) hsm hes rfl
theorem c_lost1 (ht : TT t) (jb : Int) (nd : Str) (v1 v2 v3 v4 : Int) {l : List Node} {es qs : List (List D)} (hes : es = l.map Node.cells) (hl : l.length < 1000000000) {r : Bool} (hr : r = plost l ⟨jb, nd, ⟨v1, v2, v3, v4⟩⟩) :
    FC 41 [.agg [U64 jb, ST nd, U64 v1, U64 v2, U64 v3, U64 v4], .ptr 0 0] [.var [SL es, SL qs]] (.ret (BL r)) [.var [SL es, SL qs]] := by
  refine fc' ht (bx0 := [.var [SL es, SL qs]]) Tryd.func41 (c := _) rfl rfl (N := 9) rfl (rs := _) rfl (n := 1) rfl rfl ?_
  cbv
  have len_es : es.length = l.length := by rw [hes, List.length_map]
  refine callEF trivial (c_placeE ht _ (by assumption) (by omega)) trivial rfl rfl (fun r0 er0 => ?_)
  simp only [ht] at er0
  cbv
  refine retF trivial trivial rfl rfl rfl ?_
  (simp [ht, plost, idxOf_any, *]; grind)
theorem c_idxPlaceR (ht : TT t) (ns qs : List (List D)) {l : List (Place)} {es : List (List D)} (hes : es = l.map Place.cells) (f : Nat) (p : Place → Bool) (hl : l.length < 9223372036854775807)
    (hf : ∀ x ∈ l, FC f [.agg [.d (.int .u64 x.job), .d (.str x.node), .d (.int .u64 x.v.a), .d (.int .u64 x.v.b), .d (.int .u64 x.v.c), .d (.int .u64 x.v.d)], .ptr 0 0] [.var [SL ns, SL qs]] (.ret (BL (p x))) [.var [SL ns, SL qs]]) {r : Int} (hr : r = idxOf p l) : FC 67 [SL es, .fn f [.ptr 0 0]] [.var [SL ns, SL qs]] (.ret (I64 r)) [.var [SL ns, SL qs]] := by
  have hel : es.length = l.length := by rw [hes, List.length_map]
  obtain ⟨J, hJ⟩ : ∃ J : Nat → Nat → Prop, ∀ n v, J n v ↔ (v + n = l.length ∧ ∀ i < v, ∀ x, l[i]? = some x → p x = false) := ⟨fun n v => v + n = l.length ∧ ∀ i < v, ∀ x, l[i]? = some x → p x = false, fun _ _ => Iff.rfl⟩
  refine fc' ht (bx0 := [.var [SL ns, SL qs]]) Tryd.func67 (c := _) rfl rfl (N := 19) rfl (rs := _) rfl (n := 1) rfl rfl ?_
  cbv
  refine loopU ⟨[0, 1, 7, 8], [], []⟩ (σ := Nat) (fun k => [(8, I64 (t _ fun _ => (k : Int)))]) (fun _ => []) J ?_
  cbv
  refine loopIn ⟨l.length, 0, (hJ _ _).2 ⟨by omega, by intro i hi; simp at hi⟩, by simp only [ht]; rfl, ?_⟩
  rintro n k hj
  obtain ⟨h2, h3⟩ := (hJ _ _).1 hj
  clear hj
  cbv
  refine condI (fun h => ?_) (fun h => ?_)
  · simp only [ht, ncast, decide_eq_true_eq] at h
    have hk : k < l.length := by omega
    obtain ⟨x, hx⟩ : ∃ x, l[k]? = some x := ⟨l[k], by simp⟩
    have hxm : x ∈ l := List.mem_of_getElem? hx
    have hfx := hf x hxm
    obtain ⟨px, hpx⟩ : ∃ b, b = p x := ⟨_, rfl⟩
    rw [← hpx] at hfx
    obtain ⟨jb, nd, ⟨v1, v2, v3, v4⟩⟩ := x
    cbv
    refine idxI [.int .u64 jb, .str nd, .int .u64 v1, .int .u64 v2, .int .u64 v3, .int .u64 v4] ?_ ?_ ?_
    · simp only [ht, ncast]; refine ⟨by omega, h, ?_⟩; rw [hes]; intro r hr; obtain ⟨y, _, rfl⟩ := List.mem_map.1 hr; rfl
    · simp [ht, ncast, hes, hx]
    cbv
    refine callG trivial hfx ?_
    cbv
    refine condI (fun hb => ?_) (fun hb => ?_)
    · cbv
      refine retF trivial trivial rfl rfl rfl ?_
      have e := idxOf_at hx (hpx ▸ hb) h3
      simp only [ht, ncast, hr, idxOf, e]
    · cbv
      refine loopIn ⟨n - 1, k + 1, ⟨by omega, (hJ _ _).2 ⟨by omega, ?_⟩⟩, ?_⟩
      · intro i hi y hy
        by_cases hik : i < k
        · exact h3 i hik y hy
        · have : i = k := by omega
          subst this; rw [hx] at hy; cases hy; rw [← hpx]; exact hb
      · simp only [ht, ncast, i64_upN (show k < 9223372036854775807 by omega)]; rfl
  · simp only [ht, ncast, decide_eq_false_iff_not] at h
    have hk : ¬ k < l.length := by omega
    clear h
    cbv
    refine retF trivial trivial rfl rfl rfl ?_
    rw [hr, idxOf, idxOf_no]
    intro i y hy
    have : i < l.length := by rcases Nat.lt_or_ge i l.length with h' | h'; · exact h'
                              · simp [List.getElem?_eq_none h'] at hy
    exact h3 i (by omega) y hy
theorem c_anyPlaceR (ht : TT t) (ns qs : List (List D)) {l : List (Place)} {es : List (List D)} (hes : es = l.map Place.cells) (f : Nat) (p : Place → Bool) (hl : l.length < 9223372036854775807)
    (hf : ∀ x ∈ l, FC f [.agg [.d (.int .u64 x.job), .d (.str x.node), .d (.int .u64 x.v.a), .d (.int .u64 x.v.b), .d (.int .u64 x.v.c), .d (.int .u64 x.v.d)], .ptr 0 0] [.var [SL ns, SL qs]] (.ret (BL (p x))) [.var [SL ns, SL qs]]) {r : Bool} (hr : r = l.any p) : FC 42 [SL es, .fn f [.ptr 0 0]] [.var [SL ns, SL qs]] (.ret (BL r)) [.var [SL ns, SL qs]] := by
  obtain ⟨k, hk⟩ : ∃ k, k = idxOf p l := ⟨_, rfl⟩
  refine fc' ht (bx0 := [.var [SL ns, SL qs]]) Tryd.func42 (c := _) rfl rfl (N := 9) rfl (rs := _) rfl (n := 1) rfl rfl ?_
  cbv
  refine callG trivial (c_idxPlaceR ht ns qs hes f p hl hf hk) ?_
  cbv
  refine retF trivial trivial rfl rfl rfl ?_
  simp only [ht, hr, idxOf_any, hk]
theorem c_anyLost (ht : TT t) {l : List Node} {ps : List Place} {es qs : List (List D)} (hes : es = l.map Node.cells) (hqs : qs = ps.map Place.cells) (hl : l.length < 1000000000) (hpl : ps.length < 1000000000) {r : Bool} (hr : r = ps.any (plost l)) :
    FC 42 [SL qs, .fn 41 [.ptr 0 0]] [.var [SL es, SL qs]] (.ret (BL r)) [.var [SL es, SL qs]] :=
  c_anyPlaceR ht es qs hqs 41 (plost l) (by omega) (fun x _ => c_lost1 ht x.job x.node x.v.a x.v.b x.v.c x.v.d hes hl rfl) hr
theorem c_prightE (ht : TT t) {l : List Node} {ps : List Place} {es qs : List (List D)} (hes : es = l.map Node.cells) (hqs : qs = ps.map Place.cells) (hl : l.length < 1000000000) (hpl : ps.length < 1000000000) (hsm : ∀ x ∈ l, x.sm) :
    FC 19 [.agg [SL es, SL qs]] [] (.ret (EBool (t _ fun _ => pright ⟨l, ps⟩))) [] := by
  refine fc' ht (bx0 := []) Tryd.func19 (c := _) rfl rfl (N := 66) rfl (rs := _) rfl (n := 0) rfl rfl ?_
  cbv
  have len_es : es.length = l.length := by rw [hes, List.length_map]
  have len_qs : qs.length = ps.length := by rw [hqs, List.length_map]
  obtain ⟨J0, hJ0⟩ : ∃ J0 : Nat → Int → Prop, ∀ n i, J0 n i ↔ (∃ k : Nat, i = k ∧ k + n = l.length ∧ prightF l ps none l = prightF l ps (prevName l k) (l.drop k)) := ⟨fun n v => match v with | i => (∃ k : Nat, i = k ∧ k + n = l.length ∧ prightF l ps none l = prightF l ps (prevName l k) (l.drop k)), fun _ _ => Iff.rfl⟩
  refine loopU ⟨[1, 9, 10, 11], [], []⟩ (σ := Int) (fun v => [(11, .d (.int .i64 (t _ fun _ => v)))]) (fun v => []) J0 ?_
  cbv
  refine loopIn ⟨l.length, _, (hJ0 _ _).2 ?_, by simp only [ht]; rfl, ?_⟩
  · exact ⟨0, rfl, by simp, by simp [prevName]⟩
  rintro n i hj
  replace hj := (hJ0 _ _).1 hj
  obtain ⟨k, rfl, j1, j4⟩ := hj
  cbv
  refine condI (fun h1 => ?_) (fun h1 => ?_)
  · simp [ht, ncast, len_es, len_qs] at h1
    cbv
    refine idxM ht hes (cT := Node.cellsT t) (by (simp only [ht, ncast]; omega)) (by (simp only [ht, ncast]; omega)) (fun _ => rfl) (fun _ => (by (simp only [ht, Node.cellsT]; done))) (fun x2 mx2 => ?_)
    simp [ht, ncast] at mx2
    simp only [drop_at mx2, prightF] at j4
    first | obtain ⟨s1, s2, s3⟩ := hsm _ (List.mem_of_getElem? mx2) | skip
    cbv
    refine callEF trivial (c_freeE ht _ (by assumption) (by assumption) (by omega) (by omega)) trivial rfl rfl (fun r3 er3 => ?_)
    simp only [ht] at er3
    cbv
    refine drawI [true, true, true, true, true, true, true, true, true, true, true, true, true, true, true, true, true, true, false, false, false, false, false, false, false, false, false, true, true, true] (by kernel_rfl) (by kernel_rfl) ?_
    cbv
    refine gI (by simp [ht, pickI_iff]) ?_
    refine gI (by simp [ht, pickI_iff]) ?_
    refine callEQ (fun g4 => ⟨by simp [ht] at g4 ⊢; exact g4, trivial, c_wrightE ht _ (by assumption)⟩) rfl rfl (fun r5 er5 => ?_)
    simp only [ht] at er5
    cbv
    refine gI (by simp [ht, pickI_iff]) ?_
    refine pI (by simp [ht, pickI_iff]) ?_
    refine gI (by simp [ht, pickI_iff]) ?_
    refine gI (by simp [ht, pickI_iff]) ?_
    refine callEQ (fun g6 => ⟨by simp [ht] at g6 ⊢; exact g6, trivial, c_lrightE ht (thE ht rfl) (by assumption) (by assumption)⟩) rfl rfl (fun r7 er7 => ?_)
    simp only [ht] at er7
    cbv
    refine gI (by simp [ht, pickI_iff]) ?_
    refine pI (by simp [ht, pickI_iff]) ?_
    refine gI (by simp [ht, pickI_iff]) ?_
    refine gI (by simp [ht, pickI_iff]) ?_
    refine gI (by simp [ht, pickI_iff]) ?_
    refine gI (by simp [ht, pickI_iff]) ?_
    refine gI (by simp [ht, pickI_iff]) ?_
    refine gI (by simp [ht, pickI_iff]) ?_
    refine gI (by simp [ht, pickI_iff]) ?_
    refine gI (by simp [ht, pickI_iff]) ?_
    refine gI (by simp [ht, pickI_iff]) ?_
    (refine idxG2 ht hes (cT := Node.cellsT t) (k - 1) (fun g => by simp [ht, ncast] at g ⊢; simp [g]) (fun g => by simp [ht, ncast] at g; simp only [ht, ncast]; exact ⟨wrapSub (by omega) (by omega), by omega⟩) (fun _ => rfl) (fun _ => by simp only [ht, Node.cellsT]) (fun y my => ?_); simp [ht, ncast] at my)
    cbv
    refine gI (by simp [ht, pickI_iff]) ?_
    refine gI (by simp [ht, pickI_iff]) ?_
    refine gI (by simp [ht, pickI_iff]) ?_
    refine gI (by simp [ht, pickI_iff]; intros; simp_all) ?_
    refine pI (by simp [ht, pickI_iff]) ?_
    refine condI (fun h8 => ?_) (fun h8 => ?_)
    · simp [ht, ncast, len_es, len_qs] at h8
      cbv
      refine retF trivial trivial rfl rfl rfl ?_
      (simp only [ht]; rw [pvOk_prev] at j4; grind [pright, sle])
    · simp [ht, ncast, len_es, len_qs] at h8
      cbv
      refine loopC _ rfl (n - 1) ?_ ((hJ0 _ _).2 ?_)
      · omega
      · simp only [ht, ncast]
        refine ⟨k + 1, i64_upN (by omega), by omega, ?_⟩
        (rw [pvOk_prev] at j4; simp only [prevName, mx2, Option.map_some]; grind [sle])
  · simp [ht, ncast, len_es, len_qs] at h1
    cbv
    refine gI (by simp [ht, pickI_iff]) ?_
    refine gI (by simp [ht, pickI_iff]) ?_
    refine gI (by simp [ht, pickI_iff]) ?_
    (obtain ⟨r9, er9⟩ : ∃ r, r = ps.any (plost l) := ⟨_, rfl⟩; refine callQC [0] (fun g => ⟨by simp [ht] at g ⊢; exact g, c_anyLost ht hes hqs hl hpl er9⟩) rfl rfl rfl rfl ?_)
    cbv
    refine gI (by simp [ht, pickI_iff]) ?_
    refine pI (by simp [ht, pickI_iff]) ?_
    refine retF trivial trivial rfl rfl rfl ?_
    (rw [List.drop_eq_nil_of_le (by omega), prightF] at j4; simp [ht, ncast, pright, j4, er9, len_es]; congr 1; rw [decide_eq_decide]; omega)
end Dem
end
section
/- CONTRACTS: pool.Add. -/
open Go Dem Go.Proofs
namespace Dem
set_option maxRecDepth 100000
variable {t : Th}
theorem c_add1 (ht : TT t) (nm : Str) (a b c d : Int) {lb : List (List D)} (up : Bool) (nm' : Str) (a' b' c' d' : Int) {lb' : List (List D)} (up' : Bool) {r : Bool} (hr : r = !Op.bytesLess nm' nm) :
    FC 47 [.agg [ST nm', U64 a', U64 b', U64 c', U64 d', SL lb', BL up'], .ptr 0 0] [.var [ST nm, U64 a, U64 b, U64 c, U64 d, SL lb, BL up]] (.ret (BL r)) [.var [ST nm, U64 a, U64 b, U64 c, U64 d, SL lb, BL up]] := by
  refine fc' ht (bx0 := [.var [ST nm, U64 a, U64 b, U64 c, U64 d, SL lb, BL up]]) Tryd.func47 (c := _) rfl rfl (N := 9) rfl (rs := _) rfl (n := 1) rfl rfl ?_
  cbv
  refine retF trivial trivial rfl rfl rfl ?_
  (simp only [ht, hr]; done)
theorem c_idxNodeA (ht : TT t) (nm : Str) (a b c d : Int) (lb : List (List D)) (up : Bool) {l : List (Node)} {es : List (List D)} (hes : es = l.map Node.cells) (f : Nat) (p : Node → Bool) (hl : l.length < 9223372036854775807)
    (hf : ∀ x ∈ l, FC f [.agg [.d (.str x.name), .d (.int .u64 x.cap.a), .d (.int .u64 x.cap.b), .d (.int .u64 x.cap.c), .d (.int .u64 x.cap.d), .d (.sl (x.labels.map Pair.cells)), .d (.bool x.up)], .ptr 0 0] [.var [ST nm, U64 a, U64 b, U64 c, U64 d, SL lb, BL up]] (.ret (BL (p x))) [.var [ST nm, U64 a, U64 b, U64 c, U64 d, SL lb, BL up]]) {r : Int} (hr : r = idxOf p l) : FC 46 [SL es, .fn f [.ptr 0 0]] [.var [ST nm, U64 a, U64 b, U64 c, U64 d, SL lb, BL up]] (.ret (I64 r)) [.var [ST nm, U64 a, U64 b, U64 c, U64 d, SL lb, BL up]] := by
  have hel : es.length = l.length := by rw [hes, List.length_map]
  obtain ⟨J, hJ⟩ : ∃ J : Nat → Nat → Prop, ∀ n v, J n v ↔ (v + n = l.length ∧ ∀ i < v, ∀ x, l[i]? = some x → p x = false) := ⟨fun n v => v + n = l.length ∧ ∀ i < v, ∀ x, l[i]? = some x → p x = false, fun _ _ => Iff.rfl⟩
  refine fc' ht (bx0 := [.var [ST nm, U64 a, U64 b, U64 c, U64 d, SL lb, BL up]]) Tryd.func46 (c := _) rfl rfl (N := 19) rfl (rs := _) rfl (n := 1) rfl rfl ?_
  cbv
  refine loopU ⟨[0, 1, 7, 8], [], []⟩ (σ := Nat) (fun k => [(8, I64 (t _ fun _ => (k : Int)))]) (fun _ => []) J ?_
  cbv
  refine loopIn ⟨l.length, 0, (hJ _ _).2 ⟨by omega, by intro i hi; simp at hi⟩, by simp only [ht]; rfl, ?_⟩
  rintro n k hj
  obtain ⟨h2, h3⟩ := (hJ _ _).1 hj
  clear hj
  cbv
  refine condI (fun h => ?_) (fun h => ?_)
  · simp only [ht, ncast, decide_eq_true_eq] at h
    have hk : k < l.length := by omega
    obtain ⟨x, hx⟩ : ∃ x, l[k]? = some x := ⟨l[k], by simp⟩
    have hxm : x ∈ l := List.mem_of_getElem? hx
    have hfx := hf x hxm
    obtain ⟨px, hpx⟩ : ∃ b, b = p x := ⟨_, rfl⟩
    rw [← hpx] at hfx
    obtain ⟨nm', ⟨a', b', c', d'⟩, lb', up'⟩ := x; obtain ⟨lr', hlr'⟩ : ∃ lr : List (List D), lr = lb'.map Pair.cells := ⟨_, rfl⟩; simp only [← hlr'] at hfx
    cbv
    refine idxI [.str nm', .int .u64 a', .int .u64 b', .int .u64 c', .int .u64 d', .sl lr', .bool up'] ?_ ?_ ?_
    · simp only [ht, ncast]; refine ⟨by omega, h, ?_⟩; rw [hes]; intro r hr; obtain ⟨y, _, rfl⟩ := List.mem_map.1 hr; rfl
    · simp [ht, ncast, hes, hx, hlr']
    cbv
    refine callG trivial hfx ?_
    cbv
    refine condI (fun hb => ?_) (fun hb => ?_)
    · cbv
      refine retF trivial trivial rfl rfl rfl ?_
      have e := idxOf_at hx (hpx ▸ hb) h3
      simp only [ht, ncast, hr, idxOf, e]
    · cbv
      refine loopIn ⟨n - 1, k + 1, ⟨by omega, (hJ _ _).2 ⟨by omega, ?_⟩⟩, ?_⟩
      · intro i hi y hy
        by_cases hik : i < k
        · exact h3 i hik y hy
        · have : i = k := by omega
          subst this; rw [hx] at hy; cases hy; rw [← hpx]; exact hb
      · simp only [ht, ncast, i64_upN (show k < 9223372036854775807 by omega)]; rfl
  · simp only [ht, ncast, decide_eq_false_iff_not] at h
    have hk : ¬ k < l.length := by omega
    clear h
    cbv
    refine retF trivial trivial rfl rfl rfl ?_
    rw [hr, idxOf, idxOf_no]
    intro i y hy
    have : i < l.length := by rcases Nat.lt_or_ge i l.length with h' | h'; · exact h'
                              · simp [List.getElem?_eq_none h'] at hy
    exact h3 i (by omega) y hy
theorem c_insertNodeE (ht : TT t) {l : List Node} {x : Node} {k : Nat} {i : Int} {lr : List (List D)} (hi : i = k) (hk : k ≤ l.length) (hl : l.length < 1000000) (hlr : lr = x.labels.map Pair.cells) :
    FC 48 [.ow 0 7 (t _ fun _ => (l.map Node.cells).length), I64 i, .cl [[.str x.name, .int .u64 x.cap.a, .int .u64 x.cap.b, .int .u64 x.cap.c, .int .u64 x.cap.d, .sl lr, .bool x.up]]] [.row 7 (t _ fun _ => l.map Node.cells)] (.ret (SL (t _ fun _ => (l.take k ++ x :: l.drop k).map Node.cells))) [.dead] := by
  simp only [ht]; subst hi hlr
  refine fcalls_sub (args' := [.ow 0 7 (l.map Node.cells).length, I64 k, SL [Node.cells x]]) ?_ (c_insertNode ht (by simp) (by simpa using hk) ?_ rfl (by simpa using hl) (by simp))
  · intro β w ok vs h
    simp only [RepAs] at h ⊢
    obtain ⟨u1, us1, rfl, h1, u2, us2, rfl, h2, u3, us3, rfl, h3, h4⟩ := h
    exact ⟨u1, _, rfl, h1, u2, _, rfl, h2, u3, us3, rfl, cl_sl h3, h4⟩
  · intro r hr; obtain ⟨y, _, rfl⟩ := List.mem_map.1 hr; rfl
theorem c_addE (ht : TT t) {l : List Node} {ps : List Place} {es qs : List (List D)} (hes : es = l.map Node.cells) (hqs : qs = ps.map Place.cells) (nm : Str) (a b c d : Int) {lb : List Pair} {lr : List (List D)} (hlr : lr = lb.map Pair.cells) (up : Bool) (hl : l.length < 1000000000) (hn : nm.length < 9223372036854775807) (hlb : lb.length < 1000000000) (hsm : ∀ p ∈ lb, p.sm) :
    FC 23 [.agg [SL es, SL qs], .agg [ST nm, U64 a, U64 b, U64 c, U64 d, SL lr, BL up]] [] (.ret (EPoolE t (t _ fun _ => padd ⟨l, ps⟩ ⟨nm, ⟨a, b, c, d⟩, lb, up⟩))) [] := by
  refine fc' ht (bx0 := []) Tryd.func23 (c := _) rfl rfl (N := 51) rfl (rs := _) rfl (n := 0) rfl rfl ?_
  cbv
  have len_es : es.length = l.length := by rw [hes, List.length_map]
  have len_qs : qs.length = ps.length := by rw [hqs, List.length_map]
  have len_lr : lr.length = lb.length := by rw [hlr, List.length_map]
  refine callEF trivial (c_wrightE ht _ (by assumption)) trivial rfl rfl (fun r0 er0 => ?_)
  simp only [ht] at er0
  cbv
  refine condI (fun h1 => ?_) (fun h1 => ?_)
  · simp [ht, ncast, len_es, len_qs, len_lr] at h1
    cbv
    refine retF trivial trivial rfl rfl rfl ?_
    (simp only [ht, ncast, EPoolE, EPool, padd]; grind)
  · simp [ht, ncast, len_es, len_qs, len_lr] at h1
    cbv
    refine callEF trivial (c_lrightE ht (by assumption) (by assumption) (by assumption)) trivial rfl rfl (fun r2 er2 => ?_)
    simp only [ht] at er2
    cbv
    refine condI (fun h3 => ?_) (fun h3 => ?_)
    · simp [ht, ncast, len_es, len_qs, len_lr] at h3
      cbv
      refine retF trivial trivial rfl rfl rfl ?_
      (simp only [ht, ncast, EPoolE, EPool, padd]; grind)
    · simp [ht, ncast, len_es, len_qs, len_lr] at h3
      cbv
      refine callEF trivial (c_placeE ht _ (by assumption) (by omega)) trivial rfl rfl (fun r4 er4 => ?_)
      simp only [ht] at er4
      cbv
      refine condI (fun h5 => ?_) (fun h5 => ?_)
      · simp [ht, ncast, len_es, len_qs, len_lr] at h5
        cbv
        refine retF trivial trivial rfl rfl rfl ?_
        (simp only [ht, ncast, EPoolE, EPool, padd]; grind)
      · simp [ht, ncast, len_es, len_qs, len_lr] at h5
        cbv
        refine condI (fun h6 => ?_) (fun h6 => ?_)
        · simp [ht, ncast, len_es, len_qs, len_lr] at h6
          cbv
          refine retF trivial trivial rfl rfl rfl ?_
          (simp only [ht, ncast, EPoolE, EPool, padd]; grind)
        · simp [ht, ncast, len_es, len_qs, len_lr] at h6
          cbv
          (obtain ⟨r9, er9⟩ : ∃ r, r = idxOf (fun o : Node => !Op.bytesLess o.name nm) l := ⟨_, rfl⟩; refine callB [1] trivial rfl rfl (c_idxNodeA ht nm a b c d lr true hes 47 (fun o : Node => !Op.bytesLess o.name nm) (by omega) (fun x _ => c_add1 ht nm a b c d true x.name x.cap.a x.cap.b x.cap.c x.cap.d x.up rfl) er9) (backIn ?_); have ec := idxOf_cases er9; clear er9; rcases ec with ⟨e1, e2, e3⟩ | ⟨i, x, hi, hil, e1, e2, e3, e4⟩)
          · cbv
            refine condI (fun h7 => ?_) (fun h7 => ?_)
            · simp [ht, ncast, len_es, len_qs, len_lr] at h7
              cbv
              refine drawI [false, false, false, false, false, false, true, true, true] (by kernel_rfl) (by kernel_rfl) ?_
              cbv
              refine gI (by simp [ht, pickI_iff]) ?_
              refine gI (by simp [ht, pickI_iff]) ?_
              refine .inr (bornO trivial (c_cloneNodeE ht (by assumption) (by assumption)) trivial rfl (.inr rfl) rfl ?_)
              cbv
              refine gI (by simp [ht, pickI_iff]) ?_
              refine gI (by simp [ht, pickI_iff]) ?_
              refine gI (by simp [ht, pickI_iff]) ?_
              refine callB [3] trivial rfl rfl (c_insertNodeE ht (l := l) (x := ⟨nm, ⟨a, b, c, d⟩, lb, true⟩) (k := pat l nm) (by first | (simp [ht, pat, e2, len_es]; done) | (simp only [pat, e3]; exact hi)) (by first | (simp [pat, e2]; done) | (simp only [pat, e3]; omega)) (by simp only [ncast] at *; omega) hlr) (backIn ?_)
              cbv
              refine retF trivial trivial rfl rfl rfl ?_
              (simp only [ht, ncast, EPoolE, EPool, padd]; grind)
            · simp [ht, ncast, len_es, len_qs, len_lr] at h7
              omega
          · cbv
            refine condI (fun h8 => ?_) (fun h8 => ?_)
            · simp [ht, ncast, len_es, len_qs, len_lr] at h8
              (simp only [ncast] at *; omega)
            · simp [ht, ncast, len_es, len_qs, len_lr] at h8
              cbv
              refine drawI [false, false, false, false, false, false, true, true, true] (by kernel_rfl) (by kernel_rfl) ?_
              cbv
              refine gI (by simp [ht, pickI_iff]) ?_
              refine gI (by simp [ht, pickI_iff]) ?_
              refine .inr (bornO trivial (c_cloneNodeE ht (by assumption) (by assumption)) trivial rfl (.inr rfl) rfl ?_)
              cbv
              refine gI (by simp [ht, pickI_iff]) ?_
              refine gI (by simp [ht, pickI_iff]) ?_
              refine gI (by simp [ht, pickI_iff]) ?_
              refine callB [3] trivial rfl rfl (c_insertNodeE ht (l := l) (x := ⟨nm, ⟨a, b, c, d⟩, lb, true⟩) (k := pat l nm) (by first | (simp [ht, pat, e2, len_es]; done) | (simp only [pat, e3]; exact hi)) (by first | (simp [pat, e2]; done) | (simp only [pat, e3]; omega)) (by simp only [ncast] at *; omega) hlr) (backIn ?_)
              cbv
              refine retF trivial trivial rfl rfl rfl ?_
              (simp only [ht, ncast, EPoolE, EPool, padd]; grind)
end Dem
end
section
/- PLAIN LAW: what the chapter's statements say of a pool that is right. -/
open Go
namespace Dem
/- what copies on a node have together -/
def vused (name : Str) (ps : List Place) : Vec := ⟨usedAt 0 (here name ps), usedAt 1 (here name ps), usedAt 2 (here name ps), usedAt 3 (here name ps)⟩
theorem vused_at (name : Str) (ps : List Place) : ∀ k < 4, (vused name ps).at_ k = (usedAt k (here name ps) : Int) := by
  rw [lt4]; exact ⟨rfl, rfl, rfl, rfl⟩
theorem here_take {name : Str} {ps : List Place} {k : Nat} {x : Place} (h : ps[k]? = some x) : here name (ps.take (k + 1)) = here name (ps.take k) ++ (if x.node = name then [x] else []) := by
  rw [take_snoc h, here, List.filter_append, here]
  congr 1
  by_cases hx : x.node = name <;> simp [hx]
theorem usedAt_snoc (k : Nat) (l m : List Place) : usedAt k (l ++ m) = usedAt k l + usedAt k m := by simp [usedAt]
theorem vused_skip {name : Str} {ps : List Place} {k : Nat} {x : Place} (h : ps[k]? = some x) (hx : x.node ≠ name) : vused name (ps.take (k + 1)) = vused name (ps.take k) := by
  unfold vused; rw [here_take h, if_neg hx, List.append_nil]
theorem vused_step {p : Pool} (hp : p.ok) (hw : p.w) {n : Node} (hn : n ∈ p.nodes) {k : Nat} {x : Place} (h : p.places[k]? = some x) (hx : x.node = n.name) :
    vadd (vused n.name (p.places.take k)) x.v = (vused n.name (p.places.take (k + 1)), true) := by
  have hf := Pool.ok_free hp hw hn
  have hc := hw.cap n hn
  have hsub : ∀ j, usedAt j (here n.name (p.places.take (k + 1))) ≤ usedAt j (here n.name p.places) := fun j => usedAt_sub ((List.take_sublist _ _).filter _)
  have e : ∀ j, usedAt j (here n.name (p.places.take (k + 1))) = usedAt j (here n.name (p.places.take k)) + (x.v.at_ j).toNat := by
    intro j; rw [here_take h, if_pos hx, usedAt_snoc]; simp [usedAt]
  have hok : (vadd (vused n.name (p.places.take k)) x.v).2 = true := by
    rw [vadd_ok]; intro j hj
    have a1 := hf j hj; have a2 := hsub j; have a3 := e j; have a4 := hc j hj
    rw [vused_at _ _ j hj]; omega
  have hat := vadd_at hok
  refine Prod.ext (Vec.ext_at fun j hj => ?_) hok
  rw [hat j hj, vused_at _ _ j hj, vused_at _ _ j hj, e j]; omega
theorem vused_all {p : Pool} (hp : p.ok) (hw : p.w) {n : Node} (hn : n ∈ p.nodes) : vadd (vused n.name p.places) (pfree n.name p.nodes p.places).1 = (n.cap, true) ∧ vfits (vused n.name p.places) n.cap = true := by
  have hf := Pool.ok_free hp hw hn
  have hc := hw.cap n hn
  have hl := hp.free n hn
  have hl2 := hl
  rw [pfree_mem2 hp.asc hn] at hl2
  have hv : (pfree n.name p.nodes p.places).1 = (left n.name p.places (n.cap, true)).1 := by rw [pfree_mem hp.asc hn, if_pos hl2]
  have hat := (left_spec n.name p.places n.cap hc).2 hl2
  rw [hv]
  have hok : (vadd (vused n.name p.places) (left n.name p.places (n.cap, true)).1).2 = true := by
    rw [vadd_ok]; intro j hj
    have a1 := hf j hj; have a3 := hat j hj; have a4 := hc j hj
    rw [vused_at _ _ j hj, a3]; omega
  refine ⟨Prod.ext (Vec.ext_at fun j hj => ?_) hok, ?_⟩
  · have a1 := hf j hj; have a3 := hat j hj; have a4 := hc j hj
    show _ = n.cap.at_ j
    rw [vadd_at hok j hj, vused_at _ _ j hj, a3]; omega
  · unfold vfits; rw [vsub_ok]; intro j hj
    have a1 := hf j hj
    rw [vused_at _ _ j hj]; omega
/- laying all, or none -/
theorem playGo_none (l : List Node) (job : Int) (v : Vec) : ∀ (names : List Str) (ps : List Place), (playGo l job v names ps).1 = none → (playGo l job v names ps).2 = ps ++ names.map (fun n => ⟨job, n, v⟩) ∧ ∀ n ∈ names, (pfind n l).2 = true ∧ (pfind n l).1.up = true
  | [], ps, _ => by simp [playGo]
  | n :: r, ps, g => by
    unfold playGo at g ⊢
    split
    · rename_i h1; rw [if_pos h1] at g; cases g
    · rename_i h1
      rw [if_neg h1] at g
      obtain ⟨a, b⟩ := playGo_none l job v r _ g
      refine ⟨by rw [a]; simp, ?_⟩
      intro m hm
      rcases List.mem_cons.1 hm with rfl | hm
      · have h0 : proom m v l ps = 0 := by omega
        exact ⟨(proom_zero h0).1, (proom_zero h0).2.1⟩
      · exact b m hm
theorem playGo_some (l : List Node) (job : Int) (v : Vec) : ∀ (names : List Str) (ps : List Place) (e : Int), (playGo l job v names ps).1 = some e → e ≠ 0
  | [], ps, e, g => by cases g
  | n :: r, ps, e, g => by
    unfold playGo at g
    split at g
    · cases g; assumption
    · exact playGo_some l job v r _ e g
theorem play_cases (p : Pool) (job : Int) (names : List Str) (v : Vec) : ((play p job names v).1 = p ∧ (play p job names v).2 ≠ 0) ∨
    ((play p job names v) = (⟨p.nodes, p.places ++ names.map (fun n => ⟨job, n, v⟩)⟩, 0) ∧ ∀ n ∈ names, (pfind n p.nodes).2 = true ∧ (pfind n p.nodes).1.up = true) := by
  unfold play
  split
  · rename_i e he; exact .inl ⟨rfl, playGo_some _ _ _ _ _ _ he⟩
  · rename_i he
    obtain ⟨a, b⟩ := playGo_none _ _ _ _ _ he
    exact .inr ⟨by rw [a], b⟩
theorem pdrop_ok {p : Pool} (h : p.ok) (hw : p.w) (job : Int) : (pdrop p job).ok ∧ (pdrop p job).w := ⟨drop_ok h hw _, drop_w hw _⟩
theorem pof_lays {p : Pool} {job : Int} (hno : ∀ x ∈ p.places, x.job ≠ job) (names : List Str) (v : Vec) : pof job (p.places ++ names.map (fun n => ⟨job, n, v⟩)) = names := by
  unfold pof
  rw [List.filter_append, List.filter_eq_nil_iff.2 (by intro x hx; simp [hno x hx]), List.filter_eq_self.2 (by intro x hx; obtain ⟨n, _, rfl⟩ := List.mem_map.1 hx; simp)]
  simp [Function.comp_def]
theorem pdrop_lays {p : Pool} {job : Int} (hno : ∀ x ∈ p.places, x.job ≠ job) (names : List Str) (v : Vec) : pdrop ⟨p.nodes, p.places ++ names.map (fun n => ⟨job, n, v⟩)⟩ job = p := by
  unfold pdrop
  simp only
  rw [List.filter_append, List.filter_eq_self.2 (by intro x hx; simp [hno x hx]), List.filter_eq_nil_iff.2 (by intro x hx; obtain ⟨n, _, rfl⟩ := List.mem_map.1 hx; simp), List.append_nil]
theorem pdrop_no (p : Pool) (job : Int) : ∀ x ∈ (pdrop p job).places, x.job ≠ job := by
  intro x hx; have := (List.mem_filter.1 hx).2; simpa using this
/- failing, and mending -/
theorem pturn_cases (p : Pool) (ha : Asc p.nodes) (name : Str) (up : Bool) : ((pturn p name up) = (p, 7) ∧ (pfind name p.nodes).2 = false) ∨
    (∃ i x, p.nodes[i]? = some x ∧ x.name = name ∧ pfind name p.nodes = (x, true) ∧ ((x.up = up ∧ pturn p name up = (p, 15)) ∨ (x.up = !up ∧ pturn p name up = (⟨p.nodes.set i { x with up := up }, p.places⟩, 0)))) := by
  rcases idxOf_cases (p := fun x : Node => decide (x.name = name)) (l := p.nodes) rfl with ⟨_, h1, h2⟩ | ⟨i, x, _, hi, hx, hp, h1, h2⟩
  · refine .inl ⟨by unfold pturn; rw [h1, h2], by unfold pfind; rw [h2]⟩
  · simp only [decide_eq_true_eq] at hp
    refine .inr ⟨i, x, hx, hp, by unfold pfind; rw [h2], ?_⟩
    by_cases hu : x.up = up
    · exact .inl ⟨hu, by unfold pturn; rw [h1, h2]; simp [hu]⟩
    · refine .inr ⟨by cases h : x.up <;> cases up <;> simp_all, by unfold pturn; rw [h1, h2]; simp [hu]⟩
theorem nodup_idx {l : List Node} (ha : Asc l) {i j : Nat} {x y : Node} (hx : l[i]? = some x) (hy : l[j]? = some y) (e : x.name = y.name) : i = j := by
  obtain ⟨hi, rfl⟩ := List.getElem?_eq_some_iff.1 hx
  obtain ⟨hj, rfl⟩ := List.getElem?_eq_some_iff.1 hy
  rcases Nat.lt_trichotomy i j with h | h | h
  · exact absurd (List.pairwise_iff_getElem.1 ha i j hi hj h) (by rw [e]; exact slt_irrefl _)
  · exact h
  · exact absurd (List.pairwise_iff_getElem.1 ha j i hj hi h) (by rw [e]; exact slt_irrefl _)
theorem pfind_set {l : List Node} (ha : Asc l) {i : Nat} {x : Node} (hx : l[i]? = some x) (up : Bool) : pfind x.name (l.set i { x with up := up }) = ({ x with up := up }, true) := by
  have ha' : Asc (l.set i { x with up := up }) := asc_names (set_names hx) ha
  have hm : ({ x with up := up } : Node) ∈ l.set i { x with up := up } := by
    have hi := (List.getElem?_eq_some_iff.1 hx).1
    exact List.mem_of_getElem? (i := i) (by simp [hi])
  exact pfind_mem ha' hm
theorem mend_back {p : Pool} (ha : Asc p.nodes) {i : Nat} {x : Node} (hx : p.nodes[i]? = some x) (hu : x.up = true) : pturn ⟨p.nodes.set i { x with up := false }, p.places⟩ x.name true = (p, 0) := by
  have hi := (List.getElem?_eq_some_iff.1 hx).1
  have ha' : Asc (p.nodes.set i { x with up := false }) := asc_names (set_names hx) ha
  rcases pturn_cases ⟨p.nodes.set i { x with up := false }, p.places⟩ ha' x.name true with ⟨_, h⟩ | ⟨j, y, hy, hn, _, h⟩
  · rw [pfind_set ha hx] at h; cases h
  · have hxi : (p.nodes.set i { x with up := false })[i]? = some { x with up := false } := by simp [hi]
    have hji : j = i := nodup_idx ha' hy hxi hn
    subst hji
    simp only at hy
    rw [hxi] at hy; cases hy
    rcases h with ⟨h, _⟩ | ⟨_, h⟩
    · cases h
    · rw [h]
      have e : ({ ({ x with up := false } : Node) with up := true } : Node) = x := by cases x; simp_all
      simp only [e]
      have : p.nodes.set j x = p.nodes := by
        apply List.ext_getElem?
        intro k
        rw [List.getElem?_set]
        split
        · rename_i e; subst e; simp [hi, ← hx]
        · rfl
      rw [List.set_set, this]
def slotsS (p : Pool) : List Slot := p.nodes.filterMap (pslot p.nodes p.places)
theorem slots_len (l : List Node) (ps : List Place) (r : List Node) (h : ∀ n ∈ r, (pfree n.name l ps).2 = true) : (r.filterMap (pslot l ps)).length = (r.filter (·.up)).length := by
  induction r with
  | nil => rfl
  | cons n r ih =>
    have h1 := h n (by simp)
    have h2 := ih fun m hm => h m (by simp [hm])
    rw [List.filterMap_cons, List.filter_cons]
    cases hu : n.up
    · simp [pslot, hu, h2]
    · simp [pslot, hu, h1, h2]
theorem ups_set {l : List Node} {i : Nat} {x : Node} (hx : l[i]? = some x) (hu : x.up = true) : ((l.set i { x with up := false }).filter (·.up)).length + 1 = (l.filter (·.up)).length := by
  induction l generalizing i with
  | nil => simp at hx
  | cons m r ih =>
    cases i with
    | zero => simp at hx; subst hx; simp [hu]
    | succ i =>
      simp only [List.getElem?_cons_succ] at hx
      have := ih hx
      simp only [List.set_cons_succ, List.filter_cons]
      cases m.up <;> simp <;> omega
theorem slots_fail {p : Pool} (hp : p.ok) {i : Nat} {x : Node} (hx : p.nodes[i]? = some x) (hu : x.up = true) : (slotsS ⟨p.nodes.set i { x with up := false }, p.places⟩).length + 1 = (slotsS p).length := by
  unfold slotsS
  rw [slots_len _ _ _ hp.free, ← ups_set hx hu, slots_len]
  intro n hn
  simp only
  rw [pfree_set hx]
  rcases set_mem hn with hn | rfl
  · exact hp.free n hn
  · exact hp.free x (List.mem_of_getElem? hx)
end Dem
end
