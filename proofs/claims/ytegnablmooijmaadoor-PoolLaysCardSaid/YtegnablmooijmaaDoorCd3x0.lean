/- JOINED TEXTS: Co32, Rw3. -/
import Derived.Test.YtegnablmooijmaaDoorJ33
import Derived.Test.YtegnablmooijmaaDoorJ34
import Derived.Test.YtegnablmooijmaaDoorRows
set_option linter.unusedSimpArgs false
set_option linter.unusedVariables false
section
/- CONTRACTS: the law of laying. -/
open Go Dem Go.Proofs
namespace Dem
set_option maxRecDepth 100000
set_option maxHeartbeats 4000000
variable {t : Th}
def wName (b : Byt) : Str := nodeN (b.n % 5)
theorem wName_len (b : Byt) : (wName b).length ≤ 4 := nodesL_len (nodeN_mem (Nat.mod_lt _ (by decide)))
theorem lays_facts {P : Pool} (ho : P.ok) (hw : P.w) (hno : ∀ x ∈ P.places, x.job ≠ 77) (names : List Str) {v : Vec} (hv : v.w) {ql : List Node} {qp : List Place} {e : Int} (hF : ((⟨ql, qp⟩ : Pool), e) = play P 77 names v) :
    ql = P.nodes ∧ qp.length ≤ P.places.length + names.length ∧ (¬ e = 0 → qp = P.places) ∧
    (e = 0 → qp = P.places ++ names.map (fun n => ⟨77, n, v⟩) ∧ pof 77 qp = names ∧ (∀ n ∈ names, (pfind n P.nodes).2 = true ∧ (pfind n P.nodes).1.up = true) ∧ pright ⟨P.nodes, qp⟩ = true ∧ pdrop ⟨P.nodes, qp⟩ 77 = P) := by
  have c := lays_cases ho hw hno names hv
  have pl := play_len P 77 names v
  rw [← hF] at c pl
  simp only at c pl
  refine ⟨pl.2.1, pl.1, fun h => ?_, fun h => ?_⟩
  · rcases c with ⟨_, h1⟩ | ⟨h1, _⟩
    · rw [← h1]
    · exact absurd h1 h
  · rcases c with ⟨h1, _⟩ | ⟨_, h1, h2, h3, h4, h5⟩
    · exact absurd h h1
    · injection h1 with h6 h7
      subst h6
      exact ⟨h7, h2, h3, h4, h5⟩
theorem lays_no {n m : Int} {r : Bool} (h1 : n = m) (h : ¬ n = m ∨ r = false) (hr : r = decide True) : False := by
  rcases h with h | h
  · exact h h1
  · rw [hr] at h; simp at h
theorem lays_up {a b : Bool} (h : a = true ∧ b = true) (h2 : a = false ∨ b = false) : False := by
  obtain ⟨rfl, rfl⟩ := h; simp at h2
theorem c_poolLays (ht : TT t) {l : List Laid} {es : List (List D)} (hes : es = l.map Laid.cells) (hu : ∀ x ∈ l, x.u) (hl : l.length < 9223372036854775808) (x : Laid) (hx : x.u)
    {wl : List Byt} {ws : List (List D)} (hws : ws = wl.map Byt.cells) (hwl : wl.length < 9223372036854775808) (hwb : ∀ x ∈ wl, x.n < 256) {a0 a1 a2 a3 a4 a5 : Int} (e3 : a3 = x.a) (e4 : a4 = x.b) :
    FC 3 [SL es, .agg [.d (.int .u8 a0), .d (.int .u8 a1), .d (.int .u8 a2), .d (.int .u8 a3), .d (.int .u8 a4), .d (.int .u8 a5)], SL ws] [] (.ret (BL true)) [] := by
  obtain ⟨⟨nl, pl0⟩, hP⟩ : ∃ P, P = fillS l := ⟨_, rfl⟩
  obtain ⟨ns, hns⟩ : ∃ ns : List (List D), ns = nodesL.map strRow := ⟨_, rfl⟩
  have oks0 := (fillS_ok l).1
  have okw0 := (fillS_ok l).2
  have lim := fill_lim l
  rw [← hP] at oks0 okw0 lim
  have bp0 : pl0.length ≤ 120 := lim.places
  have sm : ∀ x ∈ nl, x.sm := lim.sm
  obtain ⟨oks, okw⟩ := pdrop_ok oks0 okw0 77
  have hno := pdrop_no ⟨nl, pl0⟩ 77
  obtain ⟨pl, hpl⟩ : ∃ p, p = pl0.filter (fun x => !decide (x.job = 77)) := ⟨_, rfl⟩
  have hD : pdrop ⟨nl, pl0⟩ 77 = ⟨nl, pl⟩ := by rw [hpl]; rfl
  rw [hD] at oks okw hno
  have bn : nl.length ≤ 16 := oks.most
  have bp : pl.length ≤ 120 := by rw [hpl]; exact Nat.le_trans (List.length_filter_le _ _) bp0
  have hls : ∀ x ∈ nl, x.labels.length < 1000000000 := fun x hx => (sm x hx).2.1
  obtain ⟨⟨v0, v1, v2, v3⟩, hv⟩ : ∃ v, v = x.amount := ⟨_, rfl⟩
  have hvw := amount_w x
  rw [← hv] at hvw
  refine fc' ht (bx0 := []) Tryd.func3 (c := _) rfl rfl (N := 124) rfl (rs := _) rfl (n := 0) rfl rfl ?_
  cbv
  have len_es : es.length = l.length := by rw [hes, List.length_map]
  have len_ws : ws.length = wl.length := by rw [hws, List.length_map]
  refine callF trivial (c_examples ht) trivial rfl rfl ?_
  cbv
  refine condI (fun h0 => ?_) (fun h0 => ?_)
  · simp [ht, ncast, len_es, len_ws] at h0
  · simp [ht, ncast, len_es, len_ws] at h0
    cbv
    refine callES trivial (c_filledE ht (by assumption) (by assumption) (by assumption)) trivial rfl rfl rfl (fun r1 er1 => ?_)
    simp only [ht] at er1
    rw [← hP] at er1
    subst r1
    cbv
    refine callES trivial (c_dropE ht _ (thE ht rfl) (thE ht rfl) (by ((try simp only [ncast] at *); omega))) trivial rfl rfl rfl (fun r2 er2 => ?_)
    simp only [ht] at er2
    first | replace er2 := er2.trans hD | replace er2 := er2.trans (hb2 (by assumption)).2.2.2.2
    subst r2
    cbv
    obtain ⟨J3, hJ3⟩ : ∃ J3 : Nat → List (List D) × Int × List (List D) × List (List D) → Prop, ∀ m o z u v, J3 m (o, z, u, v) ↔ (∃ j : Nat, z = j ∧ j + m = 10 ∧ j ≤ wl.length ∧ o = ((wl.take j).map wName).map strRow ∧ u = nl.map Node.cells ∧ v = pl.map Place.cells) := ⟨fun m v => match v with | (o, z, u, v) => (∃ j : Nat, z = j ∧ j + m = 10 ∧ j ≤ wl.length ∧ o = ((wl.take j).map wName).map strRow ∧ u = nl.map Node.cells ∧ v = pl.map Place.cells), fun _ _ _ _ _ => Iff.rfl⟩
    refine loopU ⟨[2, 4, 7, 8, 9, 10], [(9, 1)], []⟩ (σ := List (List D) × Int × List (List D) × List (List D)) (fun v => [(9, .ow 2 1 (t _ fun _ => (v.1).length)), (10, .d (.int .i64 (t _ fun _ => v.2.1)))]) (fun v => [(2, .row 1 (t _ fun _ => v.1)), (1, .var [.d (.sl (t _ fun _ => v.2.2.1)), .d (.sl (t _ fun _ => v.2.2.2))])]) J3 ?_
    cbv
    refine loopIn ⟨10, ([], _, _, _), (hJ3 _ _ _ _ _).2 ?_, by simp only [ht]; rfl, ?_⟩
    · exact ⟨0, rfl, by omega, by omega, by simp, rfl, rfl⟩
    rintro m ⟨o, z, u, v⟩ hj
    replace hj := (hJ3 _ _ _ _ _).1 hj
    obtain ⟨j, rfl, i1, i2, i3, j3, j4⟩ := hj
    have len_u : u.length = nl.length := by rw [j3, List.length_map]
    have len_v : v.length = pl.length := by rw [j4, List.length_map]
    obtain ⟨xb, mxb⟩ : ∃ x, j < wl.length → wl[j]? = some x := (by by_cases h : j < wl.length; exact ⟨wl[j], fun _ => List.getElem?_eq_getElem h⟩; exact ⟨⟨0⟩, fun h' => absurd h' h⟩)
    obtain ⟨nb, hnb⟩ : ∃ n, n = wName xb := ⟨_, rfl⟩
    obtain ⟨nms, hnm⟩ : ∃ n, n = (wl.take j).map wName := ⟨_, rfl⟩
    have hnms : o = nms.map strRow := by rw [hnm]; exact i3
    have bnm : nms.length ≤ 10 := by rw [hnm]; simp; omega
    obtain ⟨⟨⟨ql, qp⟩, e⟩, hF⟩ : ∃ F, F = play ⟨nl, pl⟩ 77 nms ⟨v0, v1, v2, v3⟩ := ⟨_, rfl⟩
    obtain ⟨hq1, hq2, hb1, hb2⟩ := lays_facts oks okw hno nms hvw hF
    have hq1 := hq1.symm
    simp only at hq1 hq2 hb1 hb2
    subst hq1
    have hvl : v.length = pl.length := by rw [j4, List.length_map]
    have hol : o.length = nms.length := by rw [hnms, List.length_map]
    have hlk : ∀ k : Nat, k ≤ 10 → IntKind.i64.wrap ((v.length : Int) + k) = ((pl.length + k : Nat) : Int) := fun k hk => by rw [wrap64 (by omega) (by omega)]; omega
    have hlen : e = 0 → (qp.length : Int) = IntKind.i64.wrap ((pl.length : Int) + (o.length : Int)) := fun h => by rw [← hvl, (hb2 h).1, hol, hlk _ (by omega)]; simp
    cbv
    refine gI (by simp [ht, pickI_iff]) ?_
    refine gI (by simp [ht, pickI_iff]) ?_
    refine pI (by simp [ht, pickI_iff]) ?_
    refine condI (fun h4 => ?_) (fun h4 => ?_)
    · simp [ht, ncast, len_es, len_ws, len_u, len_v] at h4
      cbv
      refine drawI [false, false, false, false, false, false, false, false, false, false, true, true] (by kernel_rfl) (by kernel_rfl) ?_
      cbv
      refine gI (by simp [ht, pickI_iff]) ?_
      refine .inl ?_
      refine callQS (fun g9 => ⟨trivial, trivial, c_nodesN ht hns⟩) rfl rfl rfl ?_
      cbv
      refine gI (by simp [ht, pickI_iff]) ?_
      refine gI (by simp [ht, pickI_iff]) ?_
      (refine idxK ht hws (cT := Byt.cellsT t) (mxb (by ((try simp only [ncast] at *); omega))) (by simp only [ht]) (fun _ => rfl) (fun _ => (by simp only [ht, Byt.cellsT] <;> rfl)) ?_)
      cbv
      refine gI (by simp [ht, pickI_iff]) ?_
      refine gI (by simp [ht, pickI_iff]) ?_
      (refine idxK ht hns (cT := strCellsT t) (i := xb.n % 5) (x := nb) (by rw [hnb]; exact nodeN_get (Nat.mod_lt _ (by decide))) (by simp only [ht, tm5]) (fun _ => rfl) (fun _ => rfl) ?_)
      cbv
      refine gI (by simp [ht, pickI_iff]) ?_
      refine gI (by simp [ht, pickI_iff]) ?_
      refine ⟨?_, ?_⟩
      · (simp only [ht, true_and]; exact apBig hnms (fun _ => rfl) rfl (by omega) (by decide))
      cbv
      refine loopC (_, _, _, _) (by simp only [ht, ← List.length_append]; rfl) (m - 1) ?_ ((hJ3 _ _ _ _ _).2 ?_)
      · ((try simp only [ncast] at *); omega)
      · simp only [ht, ncast]
        exact ⟨j + 1, i64_upN (by ((try simp only [ncast] at *); omega)), by ((try simp only [ncast] at *); omega), by ((try simp only [ncast] at *); omega), by rw [i3, hnb, take_snoc (mxb (by ((try simp only [ncast] at *); omega))), List.map_append, List.map_append]; rfl, j3, j4⟩
    · simp [ht, ncast, len_es, len_ws, len_u, len_v] at h4
      cbv
      refine drawSL 9 [1, 5, 6, 7] [false, false, false, false, false, false, false, false, false, true, true] (by kernel_rfl) (by kernel_rfl) (by kernel_rfl) (by kernel_rfl) ?_
      cbv
      refine ⟨?_, ?_⟩
      · (simp [ht, ncast]; done)
      refine gI (by simp [ht, pickI_iff]) ?_
      refine gI (by simp [ht, pickI_iff]) ?_
      refine gI (by simp [ht, pickI_iff]) ?_
      refine .inl ?_
      (refine callEQ (fun g9 => ⟨(by first | trivial | (simp [ht]; done) | (simp [ht] at g9 ⊢; exact g9) | (simp [ht] at g9 ⊢; simp_all; done)), (by first | trivial | simp [ht]), c_amountE ht x hx e3 e4⟩) rfl rfl (fun r9 er9 => ?_); simp only [ht] at er9; rw [← hv] at er9; subst er9)
      cbv
      refine .inl ?_
      (refine callEQS (fun g9 => ⟨trivial, (by simp [ht]), c_layE ht _ _ _ _ _ (l := nl) (ps := pl) (names := nms) (by simp only [ht]; exact j3) (by simp only [ht]; exact j4) (by simp only [ht]; exact hnms) (by omega) (by omega) (by omega)⟩) rfl rfl rfl (fun r11 er11 => ?_); simp only [ht] at er11; replace er11 := er11.trans hF.symm; subst er11)
      cbv
      refine gI (by simp [ht, pickI_iff]) ?_
      refine gI (by simp [ht, pickI_iff]) ?_
      refine gI (by simp [ht, pickI_iff]) ?_
      refine condI (fun h5 => ?_) (fun h5 => ?_)
      · simp [ht, ncast, len_es, len_ws, len_u, len_v] at h5
        cbv
        refine gI (by simp [ht, pickI_iff]) ?_
        refine gI (by simp [ht, pickI_iff]) ?_
        refine callEQ (fun g6 => ⟨trivial, trivial, c_sameE ht (by (simp only [ht]; ((try simp only [ncast] at *); omega))) (thE ht rfl) (by (simp only [ht]; ((try simp only [ncast] at *); omega))) (thE ht rfl) (by omega) (by ((try simp only [ncast] at *); omega)) (by omega) (by ((try simp only [ncast] at *); omega)) (by assumption) (by assumption)⟩) rfl rfl (fun r7 er7 => ?_)
        simp only [ht] at er7
        cbv
        refine pI (by simp [ht, pickI_iff]) ?_
        refine retF trivial trivial rfl rfl rfl ?_
        (have c1 := hb1 (by assumption); subst c1; simp [ht, *]; done)
      · simp [ht, ncast, len_es, len_ws, len_u, len_v] at h5
        cbv
        refine gI (by simp [ht, pickI_iff]) ?_
        refine callEQS (fun g8 => ⟨(by first | (simp [ht]; done) | (simp [ht] at g8 ⊢; exact g8) | (simp [ht] at g8 ⊢; simp_all; done)), by simp [ht], c_ofE ht _ (thE ht rfl) (by ((try simp only [ncast] at *); omega))⟩) rfl rfl rfl (fun r9 er9 => ?_)
        simp only [ht] at er9
        replace er9 := er9.trans (hb2 (by assumption)).2.1
        subst r9
        cbv
        refine gI (by simp [ht, pickI_iff]) ?_
        refine callEQ (fun g10 => ⟨by simp [ht] at g10 ⊢; exact g10, trivial, c_textsE ht (thE ht rfl) (by (simp only [ht]; ((try simp only [ncast] at *); omega))) (by omega) (by omega)⟩) rfl rfl (fun r11 er11 => ?_)
        simp only [ht] at er11
        cbv
        refine gI (by simp [ht, pickI_iff]) ?_
        refine pI (by simp [ht, pickI_iff]) ?_
        refine condI (fun h12 => ?_) (fun h12 => ?_)
        · simp [ht, ncast, len_es, len_ws, len_u, len_v] at h12
          cbv
          refine retF trivial trivial rfl rfl rfl ?_
          (exfalso; exact lays_no (hlen (by assumption)) (by assumption) er11)
        · simp [ht, ncast, len_es, len_ws, len_u, len_v] at h12
          cbv
          obtain ⟨J13, hJ13⟩ : ∃ J13 : Nat → Int → Prop, ∀ n i, J13 n i ↔ (∃ k : Nat, i = k ∧ k + n = nms.length) := ⟨fun n v => match v with | i => (∃ k : Nat, i = k ∧ k + n = nms.length), fun _ _ => Iff.rfl⟩
          refine loopU ⟨[4, 7, 8, 9, 11, 13], [], []⟩ (σ := Int) (fun v => [(13, .d (.int .i64 (t _ fun _ => v)))]) (fun v => []) J13 ?_
          cbv
          refine loopIn ⟨nms.length, _, (hJ13 _ _).2 ?_, by simp only [ht]; rfl, ?_⟩
          · exact ⟨0, rfl, by omega⟩
          rintro n i hj
          replace hj := (hJ13 _ _).1 hj
          obtain ⟨k, rfl, i4⟩ := hj
          have len_o : o.length = nms.length := by rw [hnms, List.length_map]
          obtain ⟨nx, mnx⟩ := elemAt nms k
          obtain ⟨⟨⟨f1, f2, f3, f4⟩, f5⟩, hW⟩ : ∃ w, w = pfind nx nl := ⟨_, rfl⟩
          have hup : e = 0 → k < nms.length → f5 = true ∧ f4 = true := fun h h2 => by have := (hb2 h).2.2.1 nx (List.mem_of_getElem? (mnx h2)); rw [← hW] at this; exact this
          have hqx : e = 0 → k < nms.length → qp[pl.length + k]? = some ⟨77, nx, ⟨v0, v1, v2, v3⟩⟩ := fun h h2 => by rw [(hb2 h).1, List.getElem?_append_right (by omega), Nat.add_sub_cancel_left, List.getElem?_map, mnx h2]; rfl
          cbv
          refine condI (fun h14 => ?_) (fun h14 => ?_)
          · simp [ht, ncast, len_es, len_ws, len_u, len_v, len_o] at h14
            cbv
            refine drawL [1, 2] [1, 2, 6, 7, 8] [false, false, false, false, false, false, false, false, false, false, true, true] (by kernel_rfl) (by kernel_rfl) (by kernel_rfl) (by kernel_rfl) (by kernel_rfl) (by kernel_rfl) ?_
            cbv
            refine gI (by simp [ht, pickI_iff]) ?_
            refine gI (by simp [ht, pickI_iff]) ?_
            refine gI (by simp [ht, pickI_iff]) ?_
            (refine idxK ht (l := nms) (cells := strRow) (cT := strCellsT t) (by simp only [ht]; exact hnms) (mnx (by ((try simp only [ncast] at *); omega))) (by simp only [ht]) (fun _ => rfl) (fun _ => rfl) ?_)
            cbv
            refine gI (by simp [ht, pickI_iff]) ?_
            refine .inl ?_
            refine callEQS (fun g15 => ⟨trivial, trivial, c_findE ht _ (thE ht rfl) (by ((try simp only [ncast] at *); omega))⟩) rfl rfl rfl (fun r16 er16 => ?_)
            simp only [ht] at er16
            rw [← hW] at er16
            subst r16
            cbv
            refine gI (by simp [ht, pickI_iff]) ?_
            refine gI (by simp [ht, pickI_iff]) ?_
            refine gI (by simp [ht, pickI_iff]) ?_
            refine drawI [true, true, true, true, true, true, true, true, false, false, false, false, false, false, false, false, false, false, false, false, true, true] (by kernel_rfl) (by kernel_rfl) ?_
            cbv
            refine gI (by simp [ht, pickI_iff]) ?_
            refine gI (by simp [ht, pickI_iff]) ?_
            refine gI (by simp [ht, pickI_iff]) ?_
            refine pI (by simp [ht, pickI_iff]) ?_
            refine gI (by simp [ht, pickI_iff]) ?_
            refine gI (by simp [ht, pickI_iff]) ?_
            refine gI (by simp [ht, pickI_iff]) ?_
            refine gI (by simp [ht, pickI_iff]) ?_
            refine gI (by simp [ht, pickI_iff]) ?_
            refine gI (by simp [ht, pickI_iff]) ?_
            refine gI (by simp [ht, pickI_iff]) ?_
            (refine idxKD ht (l := qp) (cells := Place.cells) (cT := Place.cellsT t) (by simp only [ht]) (pl.length + k) ⟨77, nx, ⟨v0, v1, v2, v3⟩⟩ (fun _ => ⟨(by simp only [ht]; exact hlk k (by omega)), hqx (by assumption) (by ((try simp only [ncast] at *); omega))⟩) (fun _ => rfl) (fun _ => (by simp only [ht, Place.cellsT] <;> rfl)) (fun g => by first | exact ⟨g, trivial⟩ | exact ⟨g, g, trivial⟩ | exact ⟨g, g, g, trivial⟩ | (simp [ht] at g ⊢; simp_all; done)) ?_)
            cbv
            refine gI (by simp [ht, pickI_iff]) ?_
            refine gI (by simp [ht, pickI_iff]) ?_
            refine gI (by simp [ht, pickI_iff]) ?_
            (refine callEQ (fun g9 => ⟨(by first | trivial | (simp [ht]; done) | (simp [ht] at g9 ⊢; exact g9) | (simp [ht] at g9 ⊢; simp_all; done)), (by first | trivial | simp [ht]), c_amountE ht x hx e3 e4⟩) rfl rfl (fun r9 er9 => ?_); simp only [ht] at er9; rw [← hv] at er9; subst er9)
            cbv
            refine gI (by simp [ht, pickI_iff]) ?_
            refine pI (by simp [ht, pickI_iff]) ?_
            refine condI (fun h17 => ?_) (fun h17 => ?_)
            · simp [ht, ncast, len_es, len_ws, len_u, len_v, len_o] at h17
              cbv
              refine retF trivial trivial rfl rfl rfl ?_
              (exfalso; exact lays_up (hup (by assumption) (by assumption)) (by assumption))
            · simp [ht, ncast, len_es, len_ws, len_u, len_v, len_o] at h17
              cbv
              refine loopC _ (by simp only [ht]; rfl) (n - 1) ?_ ((hJ13 _ _).2 ?_)
              · omega
              · simp only [ht, ncast]
                exact ⟨k + 1, i64_upN (by ((try simp only [ncast] at *); omega)), by ((try simp only [ncast] at *); omega)⟩
          · simp [ht, ncast, len_es, len_ws, len_u, len_v, len_o] at h14
            cbv
            refine drawI [true, true, true, true, true, true, false, false, false, true, true, true] (by kernel_rfl) (by kernel_rfl) ?_
            cbv
            refine gI (by simp [ht, pickI_iff]) ?_
            refine callEQ (fun g18 => ⟨trivial, trivial, c_prightE ht (thE ht rfl) (thE ht rfl) (by ((try simp only [ncast] at *); omega)) (by ((try simp only [ncast] at *); omega)) (by assumption)⟩) rfl rfl (fun r19 er19 => ?_)
            simp only [ht] at er19
            replace er19 := er19.trans (hb2 (by assumption)).2.2.2.1
            subst r19
            cbv
            refine pI (by simp [ht, pickI_iff]) ?_
            refine gI (by simp [ht, pickI_iff]) ?_
            refine callEQS (fun g20 => ⟨(by first | (simp [ht]; done) | (simp [ht] at g20 ⊢; exact g20) | (simp [ht] at g20 ⊢; simp_all; done)), by simp [ht], c_dropE ht _ (thE ht rfl) (thE ht rfl) (by ((try simp only [ncast] at *); omega))⟩) rfl rfl rfl (fun r21 er21 => ?_)
            simp only [ht] at er21
            first | replace er21 := er21.trans hD | replace er21 := er21.trans (hb2 (by assumption)).2.2.2.2
            subst r21
            cbv
            refine gI (by simp [ht, pickI_iff]) ?_
            refine callEQ (fun g22 => ⟨(by first | (simp [ht]; done) | (simp [ht] at g22 ⊢; exact g22) | (simp [ht] at g22 ⊢; simp_all; done)), by simp [ht], c_sameE ht (thE ht rfl) (by (simp only [ht]; ((try simp only [ncast] at *); omega))) (thE ht rfl) (by (simp only [ht]; ((try simp only [ncast] at *); omega))) (by ((try simp only [ncast] at *); omega)) (by omega) (by ((try simp only [ncast] at *); omega)) (by omega) (by assumption) (by assumption)⟩) rfl rfl (fun r23 er23 => ?_)
            simp only [ht] at er23
            cbv
            refine pI (by simp [ht, pickI_iff]) ?_
            refine retF trivial trivial rfl rfl rfl ?_
            (simp [ht, er23]; done)
end Dem
end
section
/- THE ROW: lays. -/
open Go Go.Proofs Go.ChangeShapes Go.WideShapes Go.RowKit
open Go.Proofs.YtegnablmooijmaaDoor
namespace Dem
set_option maxRecDepth 100000
theorem prm3 : Tryd.f3.params.toList = [22, 24, 25] := by kernel_rfl
theorem lays_lifted (os : Os) (started : os.Started) (H : Type) (enc : TypeId × Value → H) :
    ReturnsInHanded {} Tryd.checked os 3 .any (fun w args => (Rows.poolLaysSpec.pre enc Tryd.checked.prog Tryd.f3 [] false w args ∧ laidMetH Tryd.prog laidL w) ∧ sizedMet enc Tryd.checked.prog Tryd.f3 (OpenSpec.ofChange Rows.poolLaysSpec) false w args)
      (Rows.poolLaysSpec.post enc Tryd.checked.prog Tryd.f3 false true false false) := by
  refine lifted_of started Tryd.func3 (by kernel_rfl) rfl (by kernel_rfl) (by kernel_rfl) ?_
    (ChangeSpec.witness_shaped (enc := enc) (C := Tryd.checked) (os := os) (X := fun w _ => laidMetH Tryd.prog laidL w) false (World.doorLaid Tryd.prog 400 os) #[.slice none 0 0, .agg #[.int .u8 0, .int .u8 0, .int .u8 0, .int .u8 0, .int .u8 0, .int .u8 0], .slice none 0 0] 8 rfl (World.shaped_of_RefB (by kernel_rfl) (by kernel_rfl)) (by kernel_rfl) (by kernel_rfl) (by kernel_rfl) (door_met os _)) ?_
  · intro ds hd
    rw [prm3] at hd
    match ds, hd with
    | [_d0, _d1, _d2], _ => exact ⟨rfl, rfl, rfl⟩
  · intro W args ds p hL hA hval
    rw [prm3] at hA
    obtain ⟨v0, vs0, d0, ds0, p0, q0, e0, f0, t0, hA⟩ := trodAll_cons hA
    obtain ⟨v1, vs1, d1, ds1, p1, q1, e1, f1, t1, hA⟩ := trodAll_cons hA
    obtain ⟨v2, vs2, d2, ds2, p2, q2, e2, f2, t2, hA⟩ := trodAll_cons hA
    obtain ⟨en, fn⟩ := trodAll_nil hA
    have ea : args = ⟨[v0, v1, v2]⟩ := by cases args; simp_all
    subst ea
    obtain ⟨b0, hv0⟩ := hval 0 22 v0 (by kernel_rfl) rfl
    obtain ⟨l0, r0, hu0, hn0⟩ := arg_laids hv0 t0
    obtain ⟨b1, hv1⟩ := hval 1 24 v1 (by kernel_rfl) rfl
    obtain ⟨x1, r1, hx1⟩ := arg_laid hv1 t1
    obtain ⟨b2, hv2⟩ := hval 2 25 v2 (by kernel_rfl) rfl
    obtain ⟨m2, r2, hb2, hm2⟩ := arg_bytes hv2 t2
    exact calls_true hL (fun _ _ => rfl) (by simp only [RepAs]; exact ⟨v0, _, rfl, r0, v1, _, rfl, r1, v2, _, rfl, r2, rfl⟩) (c_poolLays (fun _ _ => rfl) rfl hu0 (by have : maxLen < 9223372036854775808 := (by decide); omega) x1 hx1 rfl (by have : maxLen < 9223372036854775808 := (by decide); omega) hb2 rfl rfl)
theorem lays_row : Rows.PoolLaysSaid :=
  OpenClaim.holds_of_wide 3 Tryd.f3 rfl rfl rfl rfl rfl rfl rfl ⟨rfl, rfl, rfl, rfl, rfl⟩ rfl rfl rfl rfl rfl (by kernel_rfl) Tryd.func3 (by kernel_rfl)
    (of_decide_eq_true (by kernel_rfl)) (by unfold Func.isWrapper; first | (rw [if_pos (by decide +kernel)]; kernel_rfl) | (rw [if_neg (by decide +kernel)]; exact ⟨rfl, rfl⟩))
    (fun os started H enc _ => lays_lifted os started H enc)
end Dem
end
