/- JOINED TEXTS: Abs10. -/
import Derived.Test.YtegnablmooijmaaDoorJ05
set_option linter.unusedSimpArgs false
set_option linter.unusedVariables false
open Go
namespace Dem
section
variable {P : Program} {T : Nat → Option TI} {G : Nat → Option (List D)} {β : Nat → Nat} {bx : List Box} {w : World} {X : Nat → Prop}

theorem RepAs.flatten_append {ok : Nat → Prop} {es xs : List (List D)} {vs us : List Value} (h1 : RepAs β bx w ok (es.flatten.map .d) vs) (h2 : RepAs β bx w ok (xs.flatten.map .d) us) :
    RepAs β bx w ok ((es ++ xs).flatten.map .d) (vs ++ us) := by
  rw [List.flatten_append, List.map_append]; exact RepAs.append h1 h2

theorem allSc_d (ds : List D) : allSc (ds.map .d) = true := by
  induction ds with
  | nil => rfl
  | cons d ds ih => simp [allSc, AV.sc, ih]

/-- the own row goes over to a new box, longer by what was appended in its place -/
theorem moved_row (cx : Ctx G β bx w X) {b size cap : Nat} {es xs : List (List D)} {c : Array Value} {e : TypeId} {vs us rest : List Value} (hb : bx[b]? = some (.row size es)) (hne : es ≠ [])
    (hh : w.heap[β b]? = some (.cells c e (0, 0))) (hc : c.toList = vs ++ rest) (hvl : vs.length = es.length * size) (hul2 : us.length ≤ rest.length)
    (hl : ∀ r ∈ es ++ xs, r.length = size) (hv : RepAs β bx w (okp β bx w X) (es.flatten.map .d) vs) (hu : RepAs β bx w (okp β bx w X) (xs.flatten.map .d) us)
    (hcap : cap * size ≤ c.size) (hlen : es.length + xs.length ≤ cap) :
    ∃ β' w', w' = setBlk w (β b) (.cells ⟨spliceV c.toList (es.length * size) us⟩ e (0, 0)) ∧ Ext β bx w β' ((bx.set b .dead) ++ [.row size (es ++ xs)]) w' ∧ Ctx G β' ((bx.set b .dead) ++ [.row size (es ++ xs)]) w' X ∧
      RepA β' ((bx.set b .dead) ++ [.row size (es ++ xs)]) w' (okp β' ((bx.set b .dead) ++ [.row size (es ++ xs)]) w' X) (.ow bx.length size (es.length + xs.length)) (.slice (some ⟨β b, 0, none⟩) (es.length + xs.length) cap) := by
  have hlive : (Box.row size es).live = true := by cases es <;> simp_all [Box.live]
  have hblt := get_lt hb
  have hlen' : (bx.set b .dead).length = bx.length := by simp
  have hsp : spliceV c.toList (es.length * size) us = vs ++ us ++ rest.drop us.length := by
    rw [hc, ← hvl, spliceV_eq _ _ _ (by simp; omega)]
    simp
  have hnewlen : (⟨spliceV c.toList (es.length * size) us⟩ : Array Value).size = c.size := by simp [spliceV_length]
  have ex : Ext β bx w (upd β bx.length (β b)) ((bx.set b .dead) ++ [.row size (es ++ xs)]) (setBlk w (β b) (.cells ⟨spliceV c.toList (es.length * size) us⟩ e (0, 0))) := by
    refine ⟨rfl, rfl, rfl, by simp [setBlk], ?_, ?_, ?_, ?_⟩
    · intro k _ hl'
      exact setBlk_else (fun e => hl' b _ hb hlive e.symm)
    · intro k c1 e1 f1 hk
      by_cases h : k = β b
      · subst h
        rw [hh] at hk
        simp only [Option.some.injEq, Obj.cells.injEq] at hk
        obtain ⟨rfl, rfl, rfl⟩ := hk
        exact ⟨_, setBlk_here hh, hnewlen⟩
      · exact ⟨c1, by rw [setBlk_else h]; exact hk, rfl⟩
    · intro i hi
      have hil : i < bx.length := by obtain ⟨_, h1, _⟩ := hi; exact get_lt h1
      obtain ⟨B, h1, h2⟩ := bornAt_set (b := b) (B' := .dead) rfl hi
      exact ⟨upd_ne _ _ (by omega), B, get_append_lt h1, h2⟩
    · intro i B h1 h2
      rcases get_append_inv h1 with ⟨h3, h4⟩ | ⟨rfl, rfl⟩
      · rcases get_set_inv h3 with ⟨_, rfl, _⟩ | ⟨_, h5⟩
        · simp [Box.live] at h2
        · exact .inr ⟨i, B, h5, h2, (upd_ne _ _ (by simp at h4; omega)).symm⟩
      · exact .inr ⟨b, _, hb, hlive, by rw [hlen', upd_same]⟩
  refine ⟨upd β bx.length (β b), _, rfl, ex, ?_, ?_⟩
  · refine cx.step ex ?_ ?_
    · intro i B h1
      rcases get_append_inv h1 with ⟨h3, h4⟩ | ⟨rfl, rfl⟩
      · rcases get_set_inv h3 with ⟨_, rfl, _⟩ | ⟨h5, h6⟩
        · exact .inr trivial
        · exact .inl ⟨h6, fun hl' => setBlk_else (fun e => h5 (cx.inj i b B _ h6 hb hl' hlive e))⟩
      · refine .inr (.inr ⟨_, e, by rw [hlen', upd_same]; exact setBlk_here hh, ?_⟩)
        rw [hlen', upd_same]
        refine rows_of (β := upd β bx.length (β b)) (bx := (bx.set b .dead) ++ [.row size (es ++ xs)]) _ 0 (vs ++ us) hl ?_ (RepAs.mono (ex.lasts X) _ _ (RepAs.flatten_append hv hu))
        intro k u hk
        have hk' : k < (vs ++ us).length := by
          rcases Nat.lt_or_ge k (vs ++ us).length with h | h
          · exact h
          · simp [List.getElem?_eq_none h] at hk
        simp only [World.cell?, setBlk_here hh]
        simp only [hsp, Nat.zero_add]
        have hfin : (vs ++ us ++ rest.drop us.length)[k]? = some u := by rw [List.getElem?_append_left hk']; exact hk
        simpa using hfin
    · intro i j bi bj h1 h2 l1 l2 he
      rcases get_append_inv h1 with ⟨h3, h4⟩ | ⟨rfl, rfl⟩ <;> rcases get_append_inv h2 with ⟨h5, h6⟩ | ⟨rfl, rfl⟩
      · rcases get_set_inv h3 with ⟨_, rfl, _⟩ | ⟨n3, g3⟩
        · simp [Box.live] at l1
        rcases get_set_inv h5 with ⟨_, rfl, _⟩ | ⟨n5, g5⟩
        · simp [Box.live] at l2
        simp at h4 h6
        rw [upd_ne _ _ (by omega), upd_ne _ _ (by omega)] at he
        exact cx.inj i j bi bj g3 g5 l1 l2 he
      · rcases get_set_inv h3 with ⟨_, rfl, _⟩ | ⟨n3, g3⟩
        · simp [Box.live] at l1
        simp at h4
        rw [hlen', upd_ne _ _ (by omega), upd_same] at he
        exact absurd (cx.inj i b bi _ g3 hb l1 hlive he) n3
      · rcases get_set_inv h5 with ⟨_, rfl, _⟩ | ⟨n5, g5⟩
        · simp [Box.live] at l2
        simp at h6
        rw [hlen', upd_same, upd_ne _ _ (by omega)] at he
        exact absurd (cx.inj j b bj _ g5 hb l2 hlive he.symm) n5
      · rfl
  · simp only [RepA]
    have hne' : es.length + xs.length ≠ 0 := by
      have := List.length_pos_iff.2 hne; omega
    refine ⟨⟨.row size (es ++ xs), by rw [← hlen']; simp, rfl⟩, .inr ⟨hne', cap, _, e, (0, 0), by rw [upd_same], hlen, by rw [upd_same]; exact setBlk_here hh, by rw [hnewlen]; exact hcap⟩⟩

theorem zeroOk_inv {te : TI} (h : zeroOk te = true) : ∃ z, te.zero.cells? = some z ∧ z.length = te.size ∧ 0 < te.bytes ∧ 0 < te.size := by
  unfold zeroOk at h
  split at h
  · rename_i z hz
    simp only [Bool.and_eq_true] at h
    refine ⟨z, hz, Nat.eq_of_beq_eq_true h.1.1, ?_, ?_⟩
    · have := h.1.2; simpa [Nat.blt_eq] using this
    · have := h.2; simpa [Nat.blt_eq] using this
  · simp at h

theorem appendR_done (hT : TOk P T) (cx : Ctx G β bx w X) {t u : Nat} {s x : AV} {us ux : Value} {tu : TI} (hu : T u = some tu) (hud : ∀ k, tu.kd ≠ .int k)
    (hs : RepA β bx w (okp β bx w X) s us) (hx : RepA β bx w (okp β bx w X) x ux) {c : Prop} {v : AV} {b : Option (List Box)} (hr : appendR T t s x bx = some ⟨c, v, b⟩) (hc : c) (ty : Nat) :
    ∃ r w' β' bx', b = some bx' ∧ (Builtin.append_ #[t, u] ty #[us, ux]).run P w = .ok r w' ∧ Ext β bx w β' bx' w' ∧ Ctx G β' bx' w' X ∧ RepA β' bx' w' (okp β' bx' w' X) v r := by
  obtain ⟨ui, ud, u1, u2, u3, u4, u5, u6⟩ := tiOf_inv (hT.ti _ _ hu)
  have hud' : ∀ k, ud ≠ .int k := by rintro k rfl; exact hud k (by rw [u5]; rfl)
  unfold appendR at hr
  cases ht : T t with
  | none => simp [ht] at hr
  | some ti =>
  obtain ⟨i, d, h1, h2, h3, h4, h5, h6⟩ := tiOf_inv (hT.ti _ _ ht)
  simp only [ht] at hr
  cases hk : ti.kd with
  | slice e =>
    rw [hk] at hr h5
    cases d <;> simp [kdOf] at h5
    subst h5
    cases hte : T e with
    | none => simp [hte] at hr
    | some te =>
    obtain ⟨ei, ed, g1, g2, g3, g4, g5, g6⟩ := tiOf_inv (hT.ti _ _ hte)
    simp only [hte] at hr
    cases hz : zeroOk te with
    | false => simp [hz] at hr
    | true =>
    obtain ⟨z, hz1, hz2, hz3, hz4⟩ := zeroOk_inv hz
    obtain ⟨zv, zc, k1, k2, k3, _⟩ := zero_of (β := β) (bx := bx) (w := w) (ok := okp β bx w X) (hT.ti _ _ hte) hz1
    have hzl : zc.length = ei.size := by rw [RepAs.length k3, hz2, g3]
    have hzz : ei.zero = some zv := by
      cases hq : ei.zero with
      | none => rw [g6, hq] at hz1; simp [AV.cells?] at hz1
      | some q => have := run_zero (P := P) (w := w) g1 hq; rw [k1] at this; simp at this; rw [this]
    simp only [hz, cond_true] at hr
    cases hrx : rowsX te.size x bx with
    | none => simp [hrx] at hr
    | some xs =>
    simp only [hrx] at hr
    cases s with
    | cl es =>
      simp only [RepA] at hs
      obtain ⟨base, rfl, hbase⟩ := hs
      cases es with
      | nil =>
        simp only [Option.some.injEq, R.mk.injEq] at hr
        obtain ⟨rfl, rfl, rfl⟩ := hr
        obtain ⟨hc1, hc2⟩ := hc
        obtain ⟨ws, f1, f2⟩ := rowsX_firsts (P := P) cx hx hrx hc2
        rw [g3] at f1
        by_cases hxs : xs = []
        · subst hxs
          have hrun := append_none (base := base) h2 u2 hud' g1 f1 ty
          refine ⟨_, w, _, _, rfl, hrun, ext_addbox (B := .row te.size []) rfl 0, ctx_addbox cx (B := .row te.size []) rfl 0 (.inl rfl), ?_⟩
          simp only [RepA]
          exact ⟨⟨.row te.size [], by simp, rfl⟩, .inl ⟨rfl, base, rfl⟩⟩
        · have hpos := List.length_pos_iff.2 hxs
          have f0 : FirstsOk P w ei.size 0 (.slice base 0 0) [] := by
            refine ⟨lenOf_rows, by simp, fun w' _ => ⟨lenOf_rows, ?_⟩⟩
            cases base <;> simp [Builtin.firstCells, loadCells, loadCellsFrom]
          obtain ⟨cap, rest, q1, q2, zs, q3, q4⟩ := append_grows h2 u2 hud' g1 hzz k2 hzl f1 f0 (by omega) (by omega) (by rw [← g4]; simpa using hc1) ty
          obtain ⟨r1, r2, r3⟩ := grown_row (e := e) (size := te.size) (cap := cap) (rows := xs) (zs := zs) cx hc2 f2 (by rw [g3, q3]; simp at q2; omega) (by omega) hxs
          simp only [Nat.zero_add, List.nil_append] at q4
          exact ⟨_, _, _, _, rfl, q4, r1, r2, r3⟩
      | cons e0 er =>
        cases xs with
        | nil => simp at hr
        | cons x0 xr =>
          simp only [Option.some.injEq, R.mk.injEq] at hr
          obtain ⟨rfl, rfl, rfl⟩ := hr
          obtain ⟨hc1, hc2⟩ := hc
          obtain ⟨ws, f1, f2⟩ := rowsX_firsts (P := P) cx hx hrx (fun r hr => hc2 r (List.mem_append.2 (.inr hr)))
          obtain ⟨os, o1, o2⟩ := firsts_slice (P := P) (β := β) (bx := bx) (cap := (e0 :: er).length) (base := base) (es := e0 :: er) (ok := okp β bx w X) (fun r hr => hc2 r (List.mem_append.2 (.inl hr))) (hbase.imp id fun ⟨blk, off, sz, a, _, c⟩ => ⟨blk, off, sz, a, c⟩)
          rw [g3] at f1 o1
          obtain ⟨cap, rest, q1, q2, zs, q3, q4⟩ := append_grows h2 u2 hud' g1 hzz k2 hzl f1 o1 (by simp) (by omega) (by rw [← g4]; exact hc1) ty
          obtain ⟨r1, r2, r3⟩ := grown_row (e := e) (size := te.size) (cap := cap) (rows := (e0 :: er) ++ (x0 :: xr)) (zs := zs) (vs := os ++ ws) cx hc2 (RepAs.flatten_append o2 f2) (by rw [g3, q3]; simp at q2 ⊢; omega) (by rw [List.length_append]; exact q1) (by simp)
          rw [List.length_append] at r3
          exact ⟨_, _, _, _, rfl, q4, r1, r2, r3⟩
    | ow b' sz n =>
      cases hbx : bx[b']? with
      | none => simp [hbx] at hr
      | some B =>
      cases B with
      | row s2 es =>
        simp only [hbx] at hr
        cases hsb : sameBox b' x with
        | true => simp [hsb] at hr
        | false =>
        simp only [hsb, cond_false, Option.some.injEq, R.mk.injEq] at hr
        obtain ⟨rfl, rfl, rfl⟩ := hr
        obtain ⟨rfl, rfl, rfl, hc1, hc2⟩ := hc
        obtain ⟨ws, f1, f2⟩ := rowsX_firsts (P := P) cx hx hrx (fun r hr => hc2 r (List.mem_append.2 (.inr hr)))
        have hrows : (AV.ow b' te.size es.length).rows bx = some es := by simp [AV.rows, hbx]
        obtain ⟨_, base, cap0, rfl, p1, p2⟩ := ow_rows cx hrows hs
        rw [g3] at f1
        rcases p2 with ⟨rfl, rfl⟩ | ⟨hne, rfl, p3, ca, ce, cf, p4, p5⟩
        · -- nothing yet
          have ex0 : Ext β bx w β (bx.set b' .dead) w := ext_retire hbx rfl rfl
          have cx0 : Ctx G β (bx.set b' .dead) w X := ctx_retire cx hbx rfl rfl trivial
          by_cases hxs : xs = []
          · subst hxs
            have hrun := append_none (base := base) h2 u2 hud' g1 f1 ty
            refine ⟨_, w, _, _, rfl, hrun, ex0.trans (ext_addbox (B := .row te.size ([] ++ [])) rfl 0), ctx_addbox cx0 (B := .row te.size ([] ++ [])) rfl 0 (.inl rfl), ?_⟩
            simp only [RepA]
            exact ⟨⟨.row te.size [], by simp, rfl⟩, .inl ⟨rfl, base, rfl⟩⟩
          · have hpos := List.length_pos_iff.2 hxs
            have f0 : FirstsOk P w ei.size 0 (.slice base 0 0) [] := by
              refine ⟨lenOf_rows, by simp, fun w' _ => ⟨lenOf_rows, ?_⟩⟩
              cases base <;> simp [Builtin.firstCells, loadCells, loadCellsFrom]
            obtain ⟨cap, rest, q1, q2, zs, q3, q4⟩ := append_grows h2 u2 hud' g1 hzz k2 hzl f1 f0 (by omega) (by omega) (by rw [← g4]; simpa using hc1) ty
            obtain ⟨r1, r2, r3⟩ := grown_row (e := e) (size := te.size) (cap := cap) (rows := [] ++ xs) (zs := zs) cx0 hc2 (by simpa using RepAs.mono (ex0.lasts X) _ _ f2) (by rw [g3, q3]; simp at q2; omega) (by simpa using q1) (by simpa using hxs)
            simp only [Nat.zero_add, List.nil_append, List.length_nil, List.length_set] at q4 r1 r2 r3 ⊢
            exact ⟨_, _, _, _, rfl, q4, ex0.trans r1, r2, r3⟩
        · -- a row of its own
          rcases cx.box _ _ hbx with h0 | ⟨c2, e2, j1, j2⟩
          · exact absurd h0 hne
          rw [p4] at j1
          simp only [Option.some.injEq, Obj.cells.injEq] at j1
          obtain ⟨rfl, rfl, rfl⟩ := j1
          obtain ⟨vs0, v1, v2, v3⟩ := rows_cells (β := β) (bx := bx) es 0 p3
          obtain ⟨rest0, hrest⟩ := cells_prefix p4 v2
          have hcs : ca.size = vs0.length + rest0.length := by have := congrArg List.length hrest; simpa using this
          by_cases hfit : es.length + xs.length ≤ cap0
          · have hmul : (es.length + xs.length) * te.size ≤ cap0 * te.size := Nat.mul_le_mul_right _ hfit
            rw [Nat.add_mul] at hmul
            have hwl : ws.length = xs.length * te.size := by rw [f1.2.1, g3]
            have hrun := append_fits (sCap := cap0) (sLen := es.length) h2 u2 hud' g1 f1 (RepAs.sc (allSc_d _) f2) p4 (by rw [← g3]; omega) hfit ty
            obtain ⟨β', w', hw', r1, r2, r3⟩ := moved_row (xs := xs) (us := ws) cx hbx hne p4 hrest v1 (by omega) hc2 v3 f2 p5 hfit
            rw [← g3] at hrun
            subst hw'
            exact ⟨_, _, _, _, rfl, hrun, r1, r2, r3⟩
          · obtain ⟨os, o1, o2⟩ := firsts_slice (P := P) (β := β) (bx := bx) (cap := cap0) (base := some ⟨β b', 0, none⟩) (es := es) (ok := okp β bx w X) (fun r hr => hc2 r (List.mem_append.2 (.inl hr))) (.inr ⟨β b', 0, te.size, rfl, p3⟩)
            rw [g3] at o1
            have ex0 : Ext β bx w β (bx.set b' .dead) w := ext_retire hbx rfl rfl
            have cx0 : Ctx G β (bx.set b' .dead) w X := ctx_retire cx hbx rfl rfl trivial
            obtain ⟨cap, rest, q1, q2, zs, q3, q4⟩ := append_grows h2 u2 hud' g1 hzz k2 hzl f1 o1 (by omega) (by omega) (by rw [← g4]; exact hc1) ty
            obtain ⟨r1, r2, r3⟩ := grown_row (e := e) (size := te.size) (cap := cap) (rows := es ++ xs) (zs := zs) (vs := os ++ ws) cx0 hc2 (RepAs.mono (ex0.lasts X) _ _ (RepAs.flatten_append o2 f2)) (by rw [g3, q3]; simp at q2 ⊢; omega) (by simpa using q1) (by simp [hne])
            rw [List.length_append] at r3
            simp only [List.length_set] at r1 r2 r3
            exact ⟨_, _, _, _, rfl, q4, ex0.trans r1, r2, r3⟩
      | _ => simp [hbx] at hr
    | _ => simp at hr
  | _ => rw [hk] at hr; simp at hr

end
end Dem
