/- JOINED TEXTS: Co6, Co7, Co8. -/
import Derived.Test.YtegnablmooijmaaDoorJ21
import Derived.Test.YtegnablmooijmaaDoorJ22
set_option linter.unusedSimpArgs false
set_option linter.unusedVariables false
section
/- CONTRACTS: Insert, Clone. -/
open Go Dem Go.Proofs
namespace Dem
set_option maxRecDepth 100000
variable {t : Th}

theorem c_cloneNode (ht : TT t) {es : List (List D)} (hes : ∀ r ∈ es, r.length = 7) (hs : es.length * 80 ≤ 140737488355328) {m : Nat} (hm : m = es.length) :
    FC 49 [SL es] [] (.ret (.ow 0 7 m)) [.row 7 es] := by
  refine fc' ht (bx0 := []) Tryd.func49 (c := _) rfl rfl (N := 8) rfl (rs := _) rfl (n := 0) rfl rfl ?_
  cbv
  refine ⟨fun b hb => ?_⟩
  simp only [ht] at hb
  cbv
  refine condI (fun h => ?_) (fun h => ?_)
  · have he := hb h
    subst he
    cbv
    exact retN trivial rfl rfl (by rw [hm]; rfl) rfl
  · clear hb h
    cbv
    refine ⟨?_, ?_⟩
    · simp only [ht]; simp; exact ⟨hs, hes⟩
    refine retO trivial rfl rfl rfl rfl ?_ ?_
    · simp only [ht]; rw [hm]; simp
    · simp only [ht]; rfl

theorem c_clonePlace (ht : TT t) {es : List (List D)} (hes : ∀ r ∈ es, r.length = 6) (hs : es.length * 56 ≤ 140737488355328) {m : Nat} (hm : m = es.length) :
    FC 33 [SL es] [] (.ret (.ow 0 6 m)) [.row 6 es] := by
  refine fc' ht (bx0 := []) Tryd.func33 (c := _) rfl rfl (N := 8) rfl (rs := _) rfl (n := 0) rfl rfl ?_
  cbv
  refine ⟨fun b hb => ?_⟩
  simp only [ht] at hb
  cbv
  refine condI (fun h => ?_) (fun h => ?_)
  · have he := hb h
    subst he
    cbv
    exact retN trivial rfl rfl (by rw [hm]; rfl) rfl
  · clear hb h
    cbv
    refine ⟨?_, ?_⟩
    · simp only [ht]; simp; exact ⟨hs, hes⟩
    refine retO trivial rfl rfl rfl rfl ?_ ?_
    · simp only [ht]; rw [hm]; simp
    · simp only [ht]; rfl

theorem c_insertNode0 (ht : TT t) {es : List (List D)} {x : D} {row : List D} {i n c : Nat} (hn : n = es.length) (hi : i ≤ n) (hc : n ≤ c) (hc0 : n = 0 → c = 0) (hes : ∀ r ∈ es, r.length = 7) (hrow : (x :: row).length = 7) (hs : n < 1000000) {r : List (List D)} (hr : r = es.take i ++ (x :: row) :: es.drop i) :
    FC 48 [.vw 0 7 0 n c true, I64 (i : Int), SL [x :: row]] [.row 7 es] (.ret (SL r)) [.dead] := by
  obtain ⟨n1, hn1⟩ : ∃ n1, n1 = n + 1 := ⟨_, rfl⟩
  obtain ⟨i1, hi1⟩ : ∃ i1, i1 = i + 1 := ⟨_, rfl⟩
  obtain ⟨ni, hni⟩ : ∃ ni, ni = n - i := ⟨_, rfl⟩
  obtain ⟨ci, hci⟩ : ∃ ci, ci = c - i := ⟨_, rfl⟩
  obtain ⟨ci1, hci1⟩ : ∃ ci1, ci1 = c - i1 := ⟨_, rfl⟩
  obtain ⟨n1i, hn1i⟩ : ∃ n1i, n1i = n1 - i := ⟨_, rfl⟩
  have hW : ∀ P : Prop, ((IntKind.i64.wrap ((n : Int) + 1) = (n1 : Int)) → (IntKind.i64.wrap ((n1 : Int) - (i : Int)) = (n1i : Int)) → (IntKind.i64.wrap ((i : Int) + 1) = (i1 : Int)) → P) → P :=
    fun P h => h (by rw [wrap64 (by omega) (by omega)]; omega) (by rw [wrap64 (by omega) (by omega)]; omega) (by rw [wrap64 (by omega) (by omega)]; omega)
  have hrl : r.length = n1 := by rw [hr, List.length_append, List.length_cons, List.length_take, List.length_drop]; omega
  have hOv : n ≠ 0 → FC 71 [SL [x :: row], .vw 0 7 i1 ni ci1 true] [.row 7 es] (.ret (BL false)) [.row 7 es] := fun h0 =>
    fcalls_overlaps tOk Tryd.func71 rfl rfl rfl rfl (tS := 27) (tR := 4) rfl rfl (by intro h; rw [h] at hn; exact h0 hn)
  refine fc' ht (bx0 := [.row 7 es]) Tryd.func48 (c := _) rfl rfl (N := 95) rfl (rs := _) rfl (n := 1) rfl rfl ?_
  cbv
  refine viewI (.vw 0 7 i ni ci true) [.row 7 es] ?_ ?_ rfl ?_
  · simp [ht, cutV, cutC]; omega
  · simp [ht, lowOf, highOf, hni, hci]
  cbv
  refine condF (by simp [ht]) ?_
  cbv
  refine condI (fun h => ?_) (fun h => ?_)
  · have hin : i = n := by simp [ht, ncast] at h; omega
    clear h
    cbv
    refine viewI (.ow 1 7 n1) [.dead, .row 7 r] ?_ ?_ ?_ ?_
    · simp only [ht]
      refine ⟨⟨hn, by simp; omega, ?_⟩, rfl, hn, fun h => ⟨hc0 (by rw [hn, h]; rfl), rfl⟩⟩
      intro r hr
      rcases List.mem_append.1 hr with hr | hr
      · exact hes r hr
      · simp at hr; subst hr; exact hrow
    · simp [ht, hn1, hn]
    · simp only [ht]; rw [hr]
      have : i = es.length := by omega
      subst this; simp
    cbv
    refine retF trivial ?_ rfl rfl rfl rfl
    simp only [ht]; exact hrl.symm
  · have hin : i < n := by simp [ht, ncast] at h; omega
    clear h
    have hrec : r = (r.drop 0).take n1 := by rw [List.drop_zero, List.take_of_length_le (by omega)]
    cbv
    refine condI (fun h2 => ?_) (fun h2 => ?_)
    · have hcn : c = n := by
        refine hW _ fun e1 e2 e3 => ?_
        simp [ht, ncast, e1] at h2; omega
      clear h2
      obtain ⟨L, hL⟩ : ∃ L : List (List D), L = es.take i ++ List.replicate (es.length + 1 - i) [D.str [], D.int IntKind.u64 0, D.int IntKind.u64 0, D.int IntKind.u64 0, D.int IntKind.u64 0, D.sl [], D.bool false] := ⟨_, rfl⟩
      have hLl : L.length = n1 := by rw [hL]; simp; omega
      obtain ⟨L1, hL1⟩ : ∃ L1, L1 = wrote L i [x :: row] := ⟨_, rfl⟩
      have hL1l : L1.length = n1 := by rw [hL1]; simp [wrote, hLl]; omega
      have hr2 : r = wrote L1 i1 (es.drop i) := by rw [hi1, hL1, hL, ins_grow (by omega), hr]
      cbv
      refine viewI (.vw 0 7 0 i c true) [.row 7 es] ?_ ?_ rfl ?_
      · simp [ht, cutV, cutC]; omega
      · simp [ht, lowOf, highOf]
      cbv
      refine viewI (.vw 1 7 0 n1 n1 false) [.row 7 es, .row 7 L] ?_ ?_ ?_ ?_
      · refine hW _ fun e1 e2 e3 => ?_
        simp [ht, ncast, e1, e2]; omega
      · refine hW _ fun e1 e2 e3 => ?_
        simp [ht, ncast, e1, e2]; omega
      · refine hW _ fun e1 e2 e3 => ?_
        simp [ht, ncast, e1, e2, hL]; omega
      cbv
      refine viewI (.vw 1 7 i n1i n1i false) [.row 7 es, .row 7 L] ?_ ?_ rfl ?_
      · simp [ht, cutV, cutC]; omega
      · simp [ht, lowOf, highOf, hn1i]
      cbv
      refine viewI (I64 1) [.row 7 es, .row 7 L1] ?_ ?_ ?_ ?_
      · simp only [ht, fitsW]
        refine ⟨⟨by omega, ?_⟩, ?_⟩
        · intro h; rw [h] at hLl; simp at hLl; omega
        · intro r hr; have := List.mem_of_mem_take hr; simp at this; rw [this]; exact hrow
      · simp [ht, ncast]; omega
      · simp [ht, hL1, show min 1 n1i = 1 by omega]
      cbv
      refine drawI [false, false, false, false, false, false, false, false, true] (by kernel_rfl) (by kernel_rfl) ?_
      cbv
      repeat (first | refine gI (by first | (simp [ht, pickI_iff]; done) | (simp [ht, pickI_iff]; intros; simp_all; done)) ?_ | refine pI (by first | (simp [ht, pickI_iff]; done) | (simp [ht, pickI_iff]; intros; simp_all; done)) ?_)
      refine viewG (.vw 1 7 i1 ni ni false) (fun _ => ⟨?_, ?_⟩) ?_
      · refine hW _ fun e1 e2 e3 => ?_
        simp [ht, ncast, e3, cutV, cutC]; omega
      · refine hW _ fun e1 e2 e3 => ?_
        simp [ht, ncast, e3, lowOf, highOf]; omega
      cbv
      repeat (first | refine gI (by first | (simp [ht, pickI_iff]; done) | (simp [ht, pickI_iff]; intros; simp_all; done)) ?_ | refine pI (by first | (simp [ht, pickI_iff]; done) | (simp [ht, pickI_iff]; intros; simp_all; done)) ?_)
      refine viewG (.vw 0 7 i ni ci true) (fun _ => ⟨?_, ?_⟩) ?_
      · simp [ht, cutV, cutC]; omega
      · simp [ht, lowOf, highOf, hni, hci]
      cbv
      refine viewI (I64 (ni : Nat)) [.row 7 es, .row 7 r, .unborn] ?_ ?_ ?_ ?_
      · simp only [ht, fitsW]
        refine ⟨by omega, ⟨by omega, ?_⟩, ?_⟩
        · intro h; rw [h] at hL1l; simp at hL1l; omega
        · intro r hr; exact hes r (List.mem_of_mem_drop (List.mem_of_mem_take hr))
      · simp [ht, ncast]
      · simp only [ht, hr2]
        rw [List.take_of_length_le (by simp; omega)]
      cbv
      refine retK [true] trivial ?_ rfl rfl rfl ?_
      · simp only [ht]; omega
      · simp only [ht]; rw [← hrec]
    · have hcn : n < c := by
        refine hW _ fun e1 e2 e3 => ?_
        simp [ht, ncast, e1] at h2; omega
      clear h2
      obtain ⟨L1, hL1⟩ : ∃ L1, L1 = wrote es i1 (es.drop i) := ⟨_, rfl⟩
      have hr2 : r = wrote L1 i [x :: row] := by rw [hL1, hi1, ins_in (by omega), hr]
      have hL1l : L1.length = n1 := by rw [hL1]; simp [wrote]; omega
      cbv
      refine viewI (.vw 0 7 0 n1 c true) [.row 7 es] ?_ ?_ rfl ?_
      · refine hW _ fun e1 e2 e3 => ?_
        simp [ht, ncast, e1, cutV, cutC]; omega
      · refine hW _ fun e1 e2 e3 => ?_
        simp [ht, ncast, e1, lowOf, highOf]
      cbv
      refine viewI (.vw 0 7 i1 ni ci1 true) [.row 7 es] ?_ ?_ rfl ?_
      · refine hW _ fun e1 e2 e3 => ?_
        simp [ht, ncast, e3, cutV, cutC]; omega
      · refine hW _ fun e1 e2 e3 => ?_
        simp [ht, ncast, e3, lowOf, highOf]; omega
      cbv
      refine callG trivial (hOv (by omega)) ?_
      cbv
      refine condT (by simp [ht]) ?_
      cbv
      refine drawI [false, false, false, false, false, false, false, false, true] (by kernel_rfl) (by kernel_rfl) ?_
      cbv
      repeat (first | refine gI (by first | (simp [ht, pickI_iff]; done) | (simp [ht, pickI_iff]; intros; simp_all; done)) ?_ | refine pI (by first | (simp [ht, pickI_iff]; done) | (simp [ht, pickI_iff]; intros; simp_all; done)) ?_)
      refine viewG (.vw 0 7 i1 ni ci1 true) (fun _ => ⟨?_, ?_⟩) ?_
      · refine hW _ fun e1 e2 e3 => ?_
        simp [ht, ncast, e3, cutV, cutC]; omega
      · refine hW _ fun e1 e2 e3 => ?_
        simp [ht, ncast, e3, lowOf, highOf]; omega
      cbv
      repeat (first | refine gI (by first | (simp [ht, pickI_iff]; done) | (simp [ht, pickI_iff]; intros; simp_all; done)) ?_ | refine pI (by first | (simp [ht, pickI_iff]; done) | (simp [ht, pickI_iff]; intros; simp_all; done)) ?_)
      refine viewG (.vw 0 7 i n1i ci true) (fun _ => ⟨?_, ?_⟩) ?_
      · simp [ht, cutV, cutC]; omega
      · simp [ht, lowOf, highOf, hn1i, hci]
      cbv
      refine viewI (I64 (ni : Nat)) [.row 7 L1, .unborn] ?_ ?_ ?_ ?_
      · simp only [ht, fitsW]
        refine ⟨by omega, ⟨by omega, ?_⟩, ?_⟩
        · intro h; rw [h] at hn; simp at hn; omega
        · intro r hr; exact hes r (List.mem_of_mem_drop (List.mem_of_mem_take hr))
      · simp [ht, ncast]; omega
      · simp only [ht, hL1]
        rw [List.take_of_length_le (by simp; omega)]
      cbv
      refine viewI (.vw 0 7 i n1i ci true) [.row 7 L1, .unborn] ?_ ?_ rfl ?_
      · simp [ht, cutV, cutC]; omega
      · simp [ht, lowOf, highOf, hn1i, hci]
      cbv
      refine viewI (I64 1) [.row 7 r, .unborn] ?_ ?_ ?_ ?_
      · simp only [ht, fitsW]
        refine ⟨⟨by omega, ?_⟩, ?_⟩
        · intro h; rw [h] at hL1l; simp at hL1l; omega
        · intro r hr; have := List.mem_of_mem_take hr; simp at this; rw [this]; exact hrow
      · simp [ht, ncast]; omega
      · simp [ht, hr2, show min 1 n1i = 1 by omega]
      cbv
      refine retK [true] trivial ?_ rfl rfl rfl ?_
      · simp only [ht]; omega
      · simp only [ht]; rw [← hrec]

theorem c_insertNode (ht : TT t) {es : List (List D)} {x : D} {row : List D} {i n : Nat} (hn : n = es.length) (hi : i ≤ n) (hes : ∀ r ∈ es, r.length = 7) (hrow : (x :: row).length = 7) (hs : n < 1000000) {r : List (List D)} (hr : r = es.take i ++ (x :: row) :: es.drop i) :
    FC 48 [.ow 0 7 n, I64 (i : Int), SL [x :: row]] [.row 7 es] (.ret (SL r)) [.dead] :=
  fcalls_view fun c hc hc0 => c_insertNode0 ht hn hi hc hc0 hes hrow hs hr
end Dem
end
section
/- CONTRACTS: pool.Drop. -/
open Go Dem Go.Proofs
namespace Dem
set_option maxRecDepth 100000
variable {t : Th}
theorem c_idxPlaceK (ht : TT t) (job : Int) {l : List (Place)} {es : List (List D)} (hes : es = l.map Place.cells) (f : Nat) (p : Place → Bool) (hl : l.length < 9223372036854775807)
    (hf : ∀ x ∈ l, FC f [.agg [.d (.int .u64 x.job), .d (.str x.node), .d (.int .u64 x.v.a), .d (.int .u64 x.v.b), .d (.int .u64 x.v.c), .d (.int .u64 x.v.d)], .ptr 1 0] [.var [.d (.int .u64 job)], .var [.fn 31 [.ptr 0 0]]] (.ret (BL (p x))) [.var [.d (.int .u64 job)], .var [.fn 31 [.ptr 0 0]]]) {r : Int} (hr : r = idxOf p l) : FC 67 [SL es, .fn f [.ptr 1 0]] [.var [.d (.int .u64 job)], .var [.fn 31 [.ptr 0 0]]] (.ret (I64 r)) [.var [.d (.int .u64 job)], .var [.fn 31 [.ptr 0 0]]] := by
  have hel : es.length = l.length := by rw [hes, List.length_map]
  obtain ⟨J, hJ⟩ : ∃ J : Nat → Nat → Prop, ∀ n v, J n v ↔ (v + n = l.length ∧ ∀ i < v, ∀ x, l[i]? = some x → p x = false) := ⟨fun n v => v + n = l.length ∧ ∀ i < v, ∀ x, l[i]? = some x → p x = false, fun _ _ => Iff.rfl⟩
  refine fc' ht (bx0 := [.var [.d (.int .u64 job)], .var [.fn 31 [.ptr 0 0]]]) Tryd.func67 (c := _) rfl rfl (N := 19) rfl (rs := _) rfl (n := 2) rfl rfl ?_
  cbv
  refine loopU ⟨[0, 1, 7, 8], [], []⟩ (σ := Nat) (fun k => [(8, I64 (t _ fun _ => (k : Int)))]) (fun _ => []) J ?_
  cbv
  refine loopIn ⟨l.length, 0, (hJ _ _).2 ⟨by omega, by intro i hi; simp at hi⟩, by simp only [ht]; rfl, ?_⟩
  rintro n k hj
  obtain ⟨h2, h3⟩ := (hJ _ _).1 hj
  clear hj
  cbv
  refine condI (fun h => ?_) (fun h => ?_)
  · simp only [ht, ncast, decide_eq_true_eq] at h
    have hk : k < l.length := by omega
    obtain ⟨x, hx⟩ : ∃ x, l[k]? = some x := ⟨l[k], by simp⟩
    have hxm : x ∈ l := List.mem_of_getElem? hx
    have hfx := hf x hxm
    obtain ⟨px, hpx⟩ : ∃ b, b = p x := ⟨_, rfl⟩
    rw [← hpx] at hfx
    obtain ⟨jb, nd, ⟨v1, v2, v3, v4⟩⟩ := x
    cbv
    refine idxI [.int .u64 jb, .str nd, .int .u64 v1, .int .u64 v2, .int .u64 v3, .int .u64 v4] ?_ ?_ ?_
    · simp only [ht, ncast]; refine ⟨by omega, h, ?_⟩; rw [hes]; intro r hr; obtain ⟨y, _, rfl⟩ := List.mem_map.1 hr; rfl
    · simp [ht, ncast, hes, hx]
    cbv
    refine callG trivial hfx ?_
    cbv
    refine condI (fun hb => ?_) (fun hb => ?_)
    · cbv
      refine retF trivial trivial rfl rfl rfl ?_
      have e := idxOf_at hx (hpx ▸ hb) h3
      simp only [ht, ncast, hr, idxOf, e]
    · cbv
      refine loopIn ⟨n - 1, k + 1, ⟨by omega, (hJ _ _).2 ⟨by omega, ?_⟩⟩, ?_⟩
      · intro i hi y hy
        by_cases hik : i < k
        · exact h3 i hik y hy
        · have : i = k := by omega
          subst this; rw [hx] at hy; cases hy; rw [← hpx]; exact hb
      · simp only [ht, ncast, i64_upN (show k < 9223372036854775807 by omega)]; rfl
  · simp only [ht, ncast, decide_eq_false_iff_not] at h
    have hk : ¬ k < l.length := by omega
    clear h
    cbv
    refine retF trivial trivial rfl rfl rfl ?_
    rw [hr, idxOf, idxOf_no]
    intro i y hy
    have : i < l.length := by rcases Nat.lt_or_ge i l.length with h' | h'; · exact h'
                              · simp [List.getElem?_eq_none h'] at hy
    exact h3 i (by omega) y hy
theorem c_delPlace0 (ht : TT t) (job : Int) {l : List (Place)} {es : List (List D)} (hes : es = l.map Place.cells) {m c : Nat} (hm : m = l.length) (hc : m ≤ c) (f : Nat) (p : Place → Bool) (hl : l.length < 9223372036854775807)
    (hf : ∀ x ∈ l, FC f [.agg [.d (.int .u64 x.job), .d (.str x.node), .d (.int .u64 x.v.a), .d (.int .u64 x.v.b), .d (.int .u64 x.v.c), .d (.int .u64 x.v.d)], .ptr 1 0] [.var [.d (.int .u64 job)], .var [.fn 31 [.ptr 0 0]]] (.ret (BL (p x))) [.var [.d (.int .u64 job)], .var [.fn 31 [.ptr 0 0]]]) {r : List (List D)} (hr : r = (l.filter (fun x => !p x)).map Place.cells) :
    FC 61 [.vw 2 6 0 m c true, .fn f [.ptr 1 0]] [.var [.d (.int .u64 job)], .var [.fn 31 [.ptr 0 0]], .row 6 es] (.ret (SL r)) [.var [.d (.int .u64 job)], .var [.fn 31 [.ptr 0 0]], .dead] := by
  have hel : es.length = m := by rw [hes, List.length_map, hm]
  have hrows : ∀ r ∈ es, r.length = 6 := by rw [hes]; intro r hr; obtain ⟨y, _, rfl⟩ := List.mem_map.1 hr; rfl
  obtain ⟨k, hk⟩ : ∃ k, k = idxOf p l := ⟨_, rfl⟩
  have hes' : (t (List (List D)) fun _ => (es.drop 0).take m) = l.map Place.cells := by simp only [ht]; rw [List.drop_zero, List.take_of_length_le (by omega), hes]
  have hidx := c_idxPlaceK ht job hes' f p hl hf hk
  obtain ⟨J, hJ⟩ : ∃ J : Nat → Nat × Nat × List (List D) → Prop, ∀ n v, J n v ↔ (v.2.1 + n = m ∧ v.1 < v.2.1 ∧ v.2.2.length = m ∧ (∀ r ∈ v.2.2, r.length = 6) ∧ v.2.2.take v.1 = ((l.take v.2.1).filter (fun x => !p x)).map Place.cells ∧ v.2.2.drop v.2.1 = es.drop v.2.1) := ⟨fun n v => v.2.1 + n = m ∧ v.1 < v.2.1 ∧ v.2.2.length = m ∧ (∀ r ∈ v.2.2, r.length = 6) ∧ v.2.2.take v.1 = ((l.take v.2.1).filter (fun x => !p x)).map Place.cells ∧ v.2.2.drop v.2.1 = es.drop v.2.1, fun _ _ => Iff.rfl⟩
  refine fc' ht (bx0 := [.var [.d (.int .u64 job)], .var [.fn 31 [.ptr 0 0]], .row 6 es]) Tryd.func61 (c := _) rfl rfl (N := 42) rfl (rs := _) rfl (n := 3) rfl rfl ?_
  cbv
  refine callL (TT.eq ht) (v := I64 k) [false, false, true] [0, 1] trivial rfl ?_ rfl rfl rfl rfl rfl rfl rfl hidx ?_
  · simp [ht]; omega
  cbv
  refine condI (fun h => ?_) (fun h => ?_)
  · have hk1 : k = -1 := by simp [ht] at h; exact h
    have hnone := idxOf_neg (hk ▸ hk1 : idxOf p l = -1)
    clear h
    cbv
    refine retK [false, false, true] trivial ?_ rfl rfl rfl ?_
    · simp only [ht]; omega
    · simp only [ht, hr]; rw [filter_all hnone, ← hes, List.drop_zero, List.take_of_length_le (by omega)]
  · have hk1 : k ≠ -1 := by simp [ht] at h; exact h
    clear h
    obtain ⟨i0, x0, hi0, hx0, hp0, hb0⟩ := idxOf_pos (hk ▸ hk1 : idxOf p l ≠ -1)
    rw [← hk] at hi0
    subst hi0
    have hi0l : i0 < m := by rw [hm]; exact (List.getElem?_eq_some_iff.1 hx0).1
    cbv
    refine loopU ⟨[0, 1, 5, 6], [], []⟩ (σ := Nat × Nat × List (List D)) (fun v => [(5, I64 (t _ fun _ => (v.1 : Int))), (6, I64 (t _ fun _ => (v.2.1 : Int)))]) (fun v => [(2, .row 6 (t _ fun _ => v.2.2))]) J ?_
    cbv
    refine loopIn ⟨m - (i0 + 1), (i0, i0 + 1, es), (hJ _ _).2 ⟨?_, ?_, hel, hrows, ?_, rfl⟩, by simp only [ht, ncast, Int.ofNat_eq_natCast, i64_upN (show i0 < 9223372036854775807 by omega)]; rfl, ?_⟩
    · show i0 + 1 + (m - (i0 + 1)) = m; omega
    · show i0 < i0 + 1; omega
    · show es.take i0 = _
      rw [take_snoc hx0, List.filter_append, filter_all hb0, hes, ← List.map_take]; simp [hp0]
    rintro n ⟨i, j, cur⟩ hj
    obtain ⟨j1, j2, j3, j4, j5, j6⟩ := (hJ _ _).1 hj
    clear hj
    simp only at j1 j2 j3 j4 j5 j6
    cbv
    refine condI (fun h => ?_) (fun h => ?_)
    · have hjm : j < m := by simp [ht, ncast] at h; omega
      clear h
      obtain ⟨x, hx⟩ : ∃ x, l[j]? = some x := ⟨l[j]'(by omega), by simp⟩
      have hxm : x ∈ l := List.mem_of_getElem? hx
      have hfx := hf x hxm
      have hcur : cur[j]? = some (Place.cells x) := by
        have : (cur.drop j)[0]? = (es.drop j)[0]? := by rw [j6]
        rw [List.getElem?_drop, List.getElem?_drop, Nat.add_zero, hes, List.getElem?_map, hx] at this
        exact this
      obtain ⟨px, hpx⟩ : ∃ b, b = p x := ⟨_, rfl⟩
      rw [← hpx] at hfx
      obtain ⟨cx, hcx⟩ : ∃ cx, cx = Place.cells x := ⟨_, rfl⟩
      rw [← hcx] at hcur
      have hstep : (l.take (j + 1)).filter (fun x => !p x) = (l.take j).filter (fun x => !p x) ++ (if px then [] else [x]) := by
        rw [take_snoc hx, List.filter_append]; cases px <;> simp [← hpx]
      obtain ⟨jb, nd, ⟨v1, v2, v3, v4⟩⟩ := x
      cbv
      refine ⟨?_, rowI [.int .u64 jb, .str nd, .int .u64 v1, .int .u64 v2, .int .u64 v3, .int .u64 v4] ?_ ?_ ?_⟩
      · simp [ht, ncast]; omega
      · simp [ht, ncast, j3]; omega
      · simp [ht, ncast, List.getD_eq_getElem?_getD, hcur, hcx]
      cbv
      refine callB [0, 1] trivial rfl rfl hfx (backIn ?_)
      cbv
      refine condI (fun hb => ?_) (fun hb => ?_)
      · have hb' : px = false := by simpa [ht] using hb
        clear hb
        obtain ⟨nc, hnc⟩ : ∃ nc, nc = cur.set i cx := ⟨_, rfl⟩
        have hci : (cur.getD i []).length = 6 := j4 _ (by rw [List.getD_eq_getElem?_getD, List.getElem?_eq_getElem (by omega)]; exact List.getElem_mem _)
        cbv
        refine ⟨?_, ?_⟩
        · simp [ht, ncast]; omega
        refine ⟨?_, ?_⟩
        · simp [ht, ncast, j3]; exact ⟨by omega, by simpa using hci.symm ▸ (Nat.le_refl _)⟩
        refine loopIn ⟨n - 1, (i + 1, j + 1, nc), ⟨by omega, (hJ _ _).2 ⟨?_, ?_, ?_, ?_, ?_, ?_⟩⟩, ?_⟩
        · show j + 1 + (n - 1) = m; omega
        · show i + 1 < j + 1; omega
        · show nc.length = m; rw [hnc, List.length_set]; exact j3
        · show ∀ r ∈ nc, r.length = 6
          intro r hr; rw [hnc] at hr
          rcases List.mem_or_eq_of_mem_set hr with hr | rfl
          · exact j4 r hr
          · rw [hcx]; rfl
        · show nc.take (i + 1) = _
          rw [hnc, take_set_succ _ _ _ (by omega), j5, hstep, hb', hcx]; simp
        · show nc.drop (j + 1) = es.drop (j + 1)
          rw [hnc, drop_set_lt _ _ _ _ (by omega), ← List.drop_drop, j6, List.drop_drop]
        · simp only [ht, ncast, Int.ofNat_eq_natCast, i64_upN (show i < 9223372036854775807 by omega), i64_upN (show j < 9223372036854775807 by omega)]
          have ei : 0 + ((i : Int)).toNat = i := by simp
          have e : cur.set i (spliceD (cur.getD i []) 0 [.int .u64 jb, .str nd, .int .u64 v1, .int .u64 v2, .int .u64 v3, .int .u64 v4]) = nc := by rw [hnc, spliceD_whole _ _ (by rw [hci]; rfl), hcx]
          simp only [ei, e]; rfl
      · have hb' : px = true := by simpa [ht] using hb
        clear hb
        cbv
        refine loopIn ⟨n - 1, (i, j + 1, cur), ⟨by omega, (hJ _ _).2 ⟨?_, ?_, j3, j4, ?_, ?_⟩⟩, ?_⟩
        · show j + 1 + (n - 1) = m; omega
        · show i < j + 1; omega
        · show cur.take i = _
          rw [j5, hstep, hb']; simp
        · show cur.drop (j + 1) = es.drop (j + 1)
          rw [← List.drop_drop, j6, List.drop_drop]
        · simp only [ht, ncast, Int.ofNat_eq_natCast, i64_upN (show j < 9223372036854775807 by omega)]; rfl
    · have hjm : j = m := by simp [ht, ncast] at h; omega
      clear h
      obtain ⟨mi, hmi⟩ : ∃ mi, mi = m - i := ⟨_, rfl⟩
      obtain ⟨ci, hci⟩ : ∃ ci, ci = c - i := ⟨_, rfl⟩
      obtain ⟨nc, hnc⟩ : ∃ nc, nc = wrote cur i (List.replicate mi [.int .u64 0, .str [], .int .u64 0, .int .u64 0, .int .u64 0, .int .u64 0]) := ⟨_, rfl⟩
      have hnt : nc.take i = r := by
        have hl' : (cur.take i).length = i := by simp; omega
        rw [hnc, wrote, List.append_assoc, List.take_left' hl', j5, hr, hjm, hm, List.take_length]
      have hncl : i ≤ nc.length := by rw [hnc]; simp [wrote]; omega
      cbv
      refine viewI (.vw 2 6 i mi ci true) [.var [.d (.int .u64 job)], .var [.fn 31 [.ptr 0 0]], .row 6 cur] ?_ ?_ ?_ ?_
      · simp [ht, ncast, cutV, cutC]; omega
      · simp [ht, ncast, lowOf, highOf, hmi, hci]
      · simp only [ht]
      cbv
      refine viewI (.tup []) [.var [.d (.int .u64 job)], .var [.fn 31 [.ptr 0 0]], .row 6 nc] ?_ rfl ?_ ?_
      · simp [ht, fitsW]
        refine ⟨by omega, ?_⟩
        intro h; rw [h] at j3; simp at j3; omega
      · simp only [ht, hnc]
      cbv
      refine viewI (.vw 2 6 0 i c true) [.var [.d (.int .u64 job)], .var [.fn 31 [.ptr 0 0]], .row 6 nc] ?_ ?_ rfl ?_
      · simp [ht, ncast, cutV, cutC]; omega
      · simp [ht, ncast, lowOf, highOf]
      cbv
      refine retK [false, false, true] trivial ?_ rfl rfl rfl ?_
      · simp only [ht]; omega
      · simp only [ht]; rw [List.drop_zero, hnt]

theorem c_delPlace (ht : TT t) (job : Int) {l : List (Place)} {es : List (List D)} (hes : es = l.map Place.cells) {m : Nat} (hm : m = l.length) (f : Nat) (p : Place → Bool) (hl : l.length < 9223372036854775807)
    (hf : ∀ x ∈ l, FC f [.agg [.d (.int .u64 x.job), .d (.str x.node), .d (.int .u64 x.v.a), .d (.int .u64 x.v.b), .d (.int .u64 x.v.c), .d (.int .u64 x.v.d)], .ptr 1 0] [.var [.d (.int .u64 job)], .var [.fn 31 [.ptr 0 0]]] (.ret (BL (p x))) [.var [.d (.int .u64 job)], .var [.fn 31 [.ptr 0 0]]]) {r : List (List D)} (hr : r = (l.filter (fun x => !p x)).map Place.cells) :
    FC 61 [.ow 2 6 m, .fn f [.ptr 1 0]] [.var [.d (.int .u64 job)], .var [.fn 31 [.ptr 0 0]], .row 6 es] (.ret (SL r)) [.var [.d (.int .u64 job)], .var [.fn 31 [.ptr 0 0]], .dead] :=
  fcalls_view fun c hc _ => c_delPlace0 ht job hes hm hc f p hl hf hr

theorem c_drop1 (ht : TT t) (job jb : Int) (nd : Str) (v1 v2 v3 v4 : Int) {r : Bool} (hr : r = !decide (jb = job)) : FC 31 [.agg [.d (.int .u64 jb), .d (.str nd), .d (.int .u64 v1), .d (.int .u64 v2), .d (.int .u64 v3), .d (.int .u64 v4)], .ptr 0 0] [.var [.d (.int .u64 job)]] (.ret (BL r)) [.var [.d (.int .u64 job)]] := by
  refine fc' ht (bx0 := [.var [.d (.int .u64 job)]]) Tryd.func31 (c := _) rfl rfl (N := 8) rfl (rs := _) rfl (n := 1) rfl rfl ?_
  cbv
  refine retF trivial trivial rfl rfl rfl ?_
  simp only [ht, hr]

theorem c_kept1 (ht : TT t) (job jb : Int) (nd : Str) (v1 v2 v3 v4 : Int) {r : Bool} (hr : r = decide (jb = job)) : FC 62 [.agg [.d (.int .u64 jb), .d (.str nd), .d (.int .u64 v1), .d (.int .u64 v2), .d (.int .u64 v3), .d (.int .u64 v4)], .ptr 1 0] [.var [.d (.int .u64 job)], .var [.fn 31 [.ptr 0 0]]] (.ret (BL r)) [.var [.d (.int .u64 job)], .var [.fn 31 [.ptr 0 0]]] := by
  obtain ⟨q, hq⟩ : ∃ q, q = !decide (jb = job) := ⟨_, rfl⟩
  refine fc' ht (bx0 := [.var [.d (.int .u64 job)], .var [.fn 31 [.ptr 0 0]]]) Tryd.func62 (c := _) rfl rfl (N := 8) rfl (rs := _) rfl (n := 2) rfl rfl ?_
  cbv
  refine callB [0] trivial rfl rfl (c_drop1 ht job jb nd v1 v2 v3 v4 hq) (backIn ?_)
  cbv
  refine retF trivial trivial rfl rfl rfl ?_
  simp only [ht, hr, hq]; simp

theorem c_keptDrop (ht : TT t) (job : Int) {l : List Place} {es : List (List D)} (hes : es = l.map Place.cells) (hl : l.length < 1000000) {r : List (List D)} (hr : r = (l.filter (fun x => !decide (x.job = job))).map Place.cells) :
    FC 30 [SL es, .fn 31 [.ptr 0 0]] [.var [.d (.int .u64 job)]] (.ret (SL r)) [.var [.d (.int .u64 job)]] := by
  have hrows : ∀ r ∈ es, r.length = 6 := by rw [hes]; intro r hr; obtain ⟨y, _, rfl⟩ := List.mem_map.1 hr; rfl
  obtain ⟨m, hm⟩ : ∃ m, m = l.length := ⟨_, rfl⟩
  have hel : m = es.length := by rw [hes, List.length_map, hm]
  refine fc' ht (bx0 := [.var [.d (.int .u64 job)]]) Tryd.func30 (c := _) rfl rfl (N := 9) rfl (rs := _) rfl (n := 1) rfl rfl ?_
  cbv
  refine callO trivial (c_clonePlace ht hrows (by rw [← hel]; omega) hel) trivial rfl (.inr rfl) ?_
  cbv
  refine callB [0, 1, 2] trivial rfl rfl (c_delPlace ht job hes hm 62 (fun x => decide (x.job = job)) (by omega) (fun x _ => c_kept1 ht job x.job x.node x.v.a x.v.b x.v.c x.v.d rfl) hr) (backIn ?_)
  cbv
  exact retF trivial trivial rfl rfl rfl rfl

theorem c_poolDrop (ht : TT t) (job : Int) {ns : List (List D)} {l : List Place} {es : List (List D)} (hes : es = l.map Place.cells) (hl : l.length < 1000000) {r : List (List D)} (hr : r = (l.filter (fun x => !decide (x.job = job))).map Place.cells) :
    FC 10 [.agg [SL ns, SL es], U64 job] [] (.ret (.agg [SL ns, SL r])) [] := by
  refine fc' ht (bx0 := []) Tryd.func10 (c := _) rfl rfl (N := 12) rfl (rs := _) rfl (n := 0) rfl rfl ?_
  cbv
  refine drawI [false, false, false, false, false, false, true, true] (by kernel_rfl) (by kernel_rfl) ?_
  cbv
  repeat (first | refine gI (by first | (simp [ht, pickI_iff]; done) | (simp [ht, pickI_iff]; intros; simp_all; done)) ?_ | refine pI (by first | (simp [ht, pickI_iff]; done) | (simp [ht, pickI_iff]; intros; simp_all; done)) ?_)
  refine .inl (callQB [true, false, true] [1] (fun _ => ⟨trivial, trivial, c_keptDrop ht job hes hl hr⟩) rfl rfl (.inr ⟨rfl, rfl⟩) rfl rfl rfl rfl ?_)
  cbv
  exact retF trivial trivial rfl rfl rfl rfl
end Dem
end
section
/- CONTRACTS: pool: place, Find. -/
open Go Dem Go.Proofs
namespace Dem
set_option maxRecDepth 100000
variable {t : Th}

theorem c_place1 (ht : TT t) (name nm : Str) (a b c d : Int) (lr : List (List D)) (up : Bool) {r : Bool} (hr : r = decide (nm = name)) :
    FC 64 [.agg [.d (.str nm), .d (.int .u64 a), .d (.int .u64 b), .d (.int .u64 c), .d (.int .u64 d), .d (.sl lr), .d (.bool up)], .ptr 0 0] [.var [.d (.str name)]] (.ret (BL r)) [.var [.d (.str name)]] := by
  refine fc' ht (bx0 := [.var [.d (.str name)]]) Tryd.func64 (c := _) rfl rfl (N := 8) rfl (rs := _) rfl (n := 1) rfl rfl ?_
  cbv
  refine retF trivial trivial rfl rfl rfl ?_
  simp only [ht, hr]

theorem c_idxNode (ht : TT t) (name : Str) {l : List (Node)} {es : List (List D)} (hes : es = l.map Node.cells) (f : Nat) (p : Node → Bool) (hl : l.length < 9223372036854775807)
    (hf : ∀ x ∈ l, FC f [.agg [.d (.str x.name), .d (.int .u64 x.cap.a), .d (.int .u64 x.cap.b), .d (.int .u64 x.cap.c), .d (.int .u64 x.cap.d), .d (.sl (x.labels.map Pair.cells)), .d (.bool x.up)], .ptr 0 0] [.var [.d (.str name)]] (.ret (BL (p x))) [.var [.d (.str name)]]) {r : Int} (hr : r = idxOf p l) : FC 46 [SL es, .fn f [.ptr 0 0]] [.var [.d (.str name)]] (.ret (I64 r)) [.var [.d (.str name)]] := by
  have hel : es.length = l.length := by rw [hes, List.length_map]
  obtain ⟨J, hJ⟩ : ∃ J : Nat → Nat → Prop, ∀ n v, J n v ↔ (v + n = l.length ∧ ∀ i < v, ∀ x, l[i]? = some x → p x = false) := ⟨fun n v => v + n = l.length ∧ ∀ i < v, ∀ x, l[i]? = some x → p x = false, fun _ _ => Iff.rfl⟩
  refine fc' ht (bx0 := [.var [.d (.str name)]]) Tryd.func46 (c := _) rfl rfl (N := 19) rfl (rs := _) rfl (n := 1) rfl rfl ?_
  cbv
  refine loopU ⟨[0, 1, 7, 8], [], []⟩ (σ := Nat) (fun k => [(8, I64 (t _ fun _ => (k : Int)))]) (fun _ => []) J ?_
  cbv
  refine loopIn ⟨l.length, 0, (hJ _ _).2 ⟨by omega, by intro i hi; simp at hi⟩, by simp only [ht]; rfl, ?_⟩
  rintro n k hj
  obtain ⟨h2, h3⟩ := (hJ _ _).1 hj
  clear hj
  cbv
  refine condI (fun h => ?_) (fun h => ?_)
  · simp only [ht, ncast, decide_eq_true_eq] at h
    have hk : k < l.length := by omega
    obtain ⟨x, hx⟩ : ∃ x, l[k]? = some x := ⟨l[k], by simp⟩
    have hxm : x ∈ l := List.mem_of_getElem? hx
    have hfx := hf x hxm
    obtain ⟨px, hpx⟩ : ∃ b, b = p x := ⟨_, rfl⟩
    rw [← hpx] at hfx
    obtain ⟨nm, ⟨a, b, c, d⟩, lb, up⟩ := x; obtain ⟨lr, hlr⟩ : ∃ lr : List (List D), lr = lb.map Pair.cells := ⟨_, rfl⟩; simp only [← hlr] at hfx
    cbv
    refine idxI [.str nm, .int .u64 a, .int .u64 b, .int .u64 c, .int .u64 d, .sl lr, .bool up] ?_ ?_ ?_
    · simp only [ht, ncast]; refine ⟨by omega, h, ?_⟩; rw [hes]; intro r hr; obtain ⟨y, _, rfl⟩ := List.mem_map.1 hr; rfl
    · simp [ht, ncast, hes, hx, hlr]
    cbv
    refine callG trivial hfx ?_
    cbv
    refine condI (fun hb => ?_) (fun hb => ?_)
    · cbv
      refine retF trivial trivial rfl rfl rfl ?_
      have e := idxOf_at hx (hpx ▸ hb) h3
      simp only [ht, ncast, hr, idxOf, e]
    · cbv
      refine loopIn ⟨n - 1, k + 1, ⟨by omega, (hJ _ _).2 ⟨by omega, ?_⟩⟩, ?_⟩
      · intro i hi y hy
        by_cases hik : i < k
        · exact h3 i hik y hy
        · have : i = k := by omega
          subst this; rw [hx] at hy; cases hy; rw [← hpx]; exact hb
      · simp only [ht, ncast, i64_upN (show k < 9223372036854775807 by omega)]; rfl
  · simp only [ht, ncast, decide_eq_false_iff_not] at h
    have hk : ¬ k < l.length := by omega
    clear h
    cbv
    refine retF trivial trivial rfl rfl rfl ?_
    rw [hr, idxOf, idxOf_no]
    intro i y hy
    have : i < l.length := by rcases Nat.lt_or_ge i l.length with h' | h'; · exact h'
                              · simp [List.getElem?_eq_none h'] at hy
    exact h3 i (by omega) y hy

theorem c_place (ht : TT t) (name : Str) {l : List Node} {es ps : List (List D)} (hes : es = l.map Node.cells) (hl : l.length < 9223372036854775807) {r : Int} (hr : r = idxOf (fun x => decide (x.name = name)) l) :
    FC 38 [.agg [SL es, SL ps], ST name] [] (.ret (I64 r)) [] := by
  refine fc' ht (bx0 := []) Tryd.func38 (c := _) rfl rfl (N := 9) rfl (rs := _) rfl (n := 0) rfl rfl ?_
  cbv
  refine callB [1] trivial rfl rfl (c_idxNode ht name hes 64 (fun x => decide (x.name = name)) hl (fun x _ => c_place1 ht name x.name x.cap.a x.cap.b x.cap.c x.cap.d _ x.up rfl) hr) (backIn ?_)
  cbv
  exact retF trivial trivial rfl rfl rfl rfl

theorem c_find (ht : TT t) (name : Str) {l : List Node} {es ps : List (List D)} (hes : es = l.map Node.cells) (hl : l.length < 9223372036854775807) {nm : Str} {a b c d : Int} {lb : List Pair} {up ok : Bool} (hr : pfind name l = (⟨nm, ⟨a, b, c, d⟩, lb, up⟩, ok)) {lr : List (List D)} (hlr : lr = lb.map Pair.cells) :
    FC 18 [.agg [SL es, SL ps], ST name] [] (.ret (.tup [.agg [.d (.str nm), .d (.int .u64 a), .d (.int .u64 b), .d (.int .u64 c), .d (.int .u64 d), .d (.sl lr), .d (.bool up)], BL ok])) [] := by
  have hrows : ∀ r ∈ es, r.length = 7 := by rw [hes]; intro r hr; obtain ⟨y, _, rfl⟩ := List.mem_map.1 hr; rfl
  obtain ⟨k, hk⟩ : ∃ k, k = idxOf (fun x : Node => decide (x.name = name)) l := ⟨_, rfl⟩
  have hneg : k < 0 → k = -1 := by intro h; rw [hk] at h ⊢; unfold idxOf at h ⊢; split at h <;> omega
  refine fc' ht (bx0 := []) Tryd.func18 (c := _) rfl rfl (N := 18) rfl (rs := _) rfl (n := 0) rfl rfl ?_
  cbv
  refine callF trivial (c_place ht name hes hl hk) trivial rfl rfl ?_
  cbv
  refine condI (fun h => ?_) (fun h => ?_)
  · have hk1 : k = -1 := hneg (by simpa [ht] using h)
    clear h hneg
    have hp := pfind_neg (hk ▸ hk1)
    rw [hr] at hp
    obtain ⟨⟨rfl, ⟨rfl, rfl, rfl, rfl⟩, rfl, rfl⟩, rfl⟩ : (nm = [] ∧ (a = 0 ∧ b = 0 ∧ c = 0 ∧ d = 0) ∧ lb = [] ∧ up = false) ∧ ok = false := by
      simpa [Node.zero, Vec.zero] using hp
    have hlr0 : lr = [] := by rw [hlr]; rfl
    subst hlr0
    clear hlr
    cbv
    exact retF trivial trivial rfl rfl rfl rfl
  · have hk1 : k ≠ -1 := by intro h1; rw [h1] at h; simp [ht] at h
    clear h hneg
    obtain ⟨i, x, h1, h2, h3⟩ := pfind_pos (hk ▸ hk1)
    rw [hr] at h3
    simp only [Prod.mk.injEq] at h3
    obtain ⟨rfl, rfl⟩ := h3
    rw [← hk] at h1
    subst h1
    have hi : i < l.length := (List.getElem?_eq_some_iff.1 h2).1
    have hel : es.length = l.length := by rw [hes, List.length_map]
    cbv
    refine idxI [.str nm, .int .u64 a, .int .u64 b, .int .u64 c, .int .u64 d, .sl lr, .bool up] ?_ ?_ ?_
    · simp only [ht, ncast, Int.ofNat_eq_natCast]; exact ⟨by omega, by omega, hrows⟩
    · simp [ht, ncast, hes, h2, hlr]
    cbv
    exact retF trivial trivial rfl rfl rfl rfl
end Dem
end
