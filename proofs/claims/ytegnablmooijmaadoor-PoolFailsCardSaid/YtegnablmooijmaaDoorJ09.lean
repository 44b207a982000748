/- JOINED TEXTS: AbsX, Abs12. -/
import Derived.Test.YtegnablmooijmaaDoorJ08
set_option linter.unusedSimpArgs false
set_option linter.unusedVariables false
section
/- THE CALCULUS: EACH OPERATION, THROUGH A VIEW TOO. -/
open Go
namespace Dem
section
variable {P : Program} {T : Nat → Option TI} {G : Nat → Option (List D)} {β : Nat → Nat} {bx : List Box} {w : World} {X : Nat → Prop}

theorem growR_done (hT : TOk P T) (cx : Ctx G β bx w X) {t u e : Nat} {k : IntKind} {te : TI} (ht : P.underlying t = some (.slice e)) (hu : P.underlying u = some (.int k)) (hte : T e = some te) {bb sz off n c0 : Nat} {ex0 : Bool} {ux : Value}
    (hx : RepA β bx w (okp β bx w X) (.vw bb sz off n c0 ex0) ux) {m : Int} {c : Prop} {v : AV} {b : Option (List Box)} (hr : growR te bb sz off n c0 ex0 m bx = some ⟨c, v, b⟩) (hc : c) (ty : Nat) :
    ∃ r w' β', (Builtin.append_ #[t, u] ty #[ux, .int .i64 m]).run P w = .ok r w' ∧ Ext β bx w β' (orBx bx b) w' ∧ Ctx G β' (orBx bx b) w' X ∧ RepA β' (orBx bx b) w' (okp β' (orBx bx b) w' X) v r := by
  unfold growR at hr
  split at hr
  · rename_i s es z hb hz
    cases h1 : Nat.beq s sz with
    | false => simp [h1] at hr
    | true =>
    cases h2 : Nat.beq sz te.size with
    | false => simp [h1, h2] at hr
    | true =>
    cases h3 : zeroOk te with
    | false => simp [h1, h2, h3] at hr
    | true =>
    cases h4 : ex0 with
    | false => simp [h1, h2, h3, h4] at hr
    | true =>
    have h1' := Nat.eq_of_beq_eq_true h1
    have h2' := Nat.eq_of_beq_eq_true h2
    subst h1' h2' h4
    simp only [h1, h3, Bool.and_self, cond_true, Option.some.injEq, R.mk.injEq] at hr
    obtain ⟨rfl, rfl, rfl⟩ := hr
    obtain ⟨hm, hcap, hoff, hbig⟩ := hc
    obtain ⟨ei, zv, zc, g1, g2, g3, g4, g5, g6, g7⟩ := zero_rows (P := P) (β := β) (bx := bx) (w := w) hT hte hz h3 (ok := okp β bx w X)
    obtain ⟨ei', ed, q1, q2, q3, q4, q5, q6⟩ := tiOf_inv (hT.ti _ _ hte)
    rw [g1] at q1
    simp only [Option.some.injEq] at q1; subst q1
    obtain ⟨za, hz1, hz2, hz3, hz4⟩ := zeroOk_inv h3
    have hrows : (AV.vw bb te.size off n c0 true).rows bx = some ((es.drop off).take n) := by
      have hle : Nat.ble (off + n) es.length = true := Nat.ble_eq_true_of_le hoff
      simp [AV.rows, hb, h1, hle]
    have hlen : ((es.drop off).take n).length = n := by simp; omega
    simp only [RepA] at hx
    obtain ⟨hbn, base, cap, cs, ce, cf, rfl, k1, k2, k3, k4⟩ := hx
    have k3' := k3 trivial
    subst k3'
    have hes : ∀ r ∈ es, r.length = te.size := by
      rcases cx.box _ _ hb with rfl | ⟨_, _, _, j2⟩
      · simp
      · exact RepRows.lens _ _ j2
    have hpart : (es.drop off).take n = [] ∨ ∃ blk o sz, base = some ⟨blk, o, none⟩ ∧ RepRows w (okp β bx w X) blk sz ((es.drop off).take n) o := by
      have hx2 : RepA β bx w (okp β bx w X) (.vw bb te.size off n cap true) (.slice base n cap) := by
        simp only [RepA]; exact ⟨hbn, base, cap, cs, ce, cf, rfl, k1, k2, k3, k4⟩
      obtain ⟨base', cap', e1, _, e3⟩ := vw_part (okk := okp β bx w X) hoff ((cx.box bb _ hb).imp id fun ⟨_, _, _, g⟩ => g) hx2
      simp only [Value.slice.injEq] at e1
      obtain ⟨rfl, _, _⟩ := e1
      exact e3.imp id fun ⟨a, c⟩ => ⟨β bb, off * te.size, te.size, a, c⟩
    obtain ⟨os, o1, o2⟩ := firsts_slice (P := P) (β := β) (bx := bx) (cap := cap) (base := base) (es := (es.drop off).take n) (ok := okp β bx w X) (size := te.size)
      (fun r hr => hes r (List.mem_of_mem_drop (List.mem_of_mem_take hr))) hpart
    rw [hlen] at o1
    rw [q3] at o1
    obtain ⟨cap', rest, r1, r2, zs, r3, r4⟩ := append_zeros (P := P) ht hu g1 g2 g3 g4 o1 hm k1 (by omega) hcap (by omega) (by rw [← q4]; exact hbig) ty
    have hzrl : (Builtin.zeroCells ⟨zc⟩ m.toNat).toList.length = m.toNat * te.size := by
      have := RepAs.length (g7 m.toNat)
      rw [this]; simp [g5]
    have hrl : ((es.drop off).take n ++ List.replicate m.toNat z).length = n + m.toNat := by rw [List.length_append, hlen, List.length_replicate]
    obtain ⟨p1, p2, p3⟩ := grown_row (e := e) (size := te.size) (cap := cap') (rows := (es.drop off).take n ++ List.replicate m.toNat z) (vs := os ++ (Builtin.zeroCells ⟨zc⟩ m.toNat).toList) (zs := zs) cx
      (by
        intro r hr
        rcases List.mem_append.1 hr with hr | hr
        · exact hes r (List.mem_of_mem_drop (List.mem_of_mem_take hr))
        · rw [List.eq_of_mem_replicate hr]; exact g5)
      (RepAs.flatten_append o2 (g7 m.toNat)) (by rw [List.length_append, hzrl, r3, q3]; omega) (by rw [hrl]; exact r1) (by
        intro h0
        have := congrArg List.length h0
        rw [hrl] at this
        simp at this; omega)
    rw [hrl] at p3
    refine ⟨_, _, _, r4, p1, p2, ?_⟩
    simp only [RepA] at p3 ⊢
    obtain ⟨y1, ⟨y2, _⟩ | ⟨y2, cap2, y3, y4, y5, y6, y7, y8, y9⟩⟩ := p3
    · omega
    · simp only [Value.slice.injEq] at y6
      obtain ⟨y6, _, rfl⟩ := y6
      exact ⟨y1, _, _, y3, y4, y5, rfl, y7, y7, fun h => by simp at h, .inr ⟨by rw [y6]; simp, y8, by simpa using y9⟩⟩
  · simp at hr

theorem insideR_done (hT : TOk P T) (cx : Ctx G β bx w X) {t u e : Nat} {te : TI} {ud : TypeDesc} (ht : P.underlying t = some (.slice e)) (hu : P.underlying u = some ud) (hud : ∀ k, ud ≠ .int k) (hte : T e = some te) {bb sz off n c0 : Nat} {ex0 : Bool} {ux : Value}
    (hx : RepA β bx w (okp β bx w X) (.vw bb sz off n c0 ex0) ux) {y : AV} {uy : Value} (hy : RepA β bx w (okp β bx w X) y uy) {c : Prop} {v : AV} {b : Option (List Box)} (hr : insideR te bb sz off n c0 ex0 y bx = some ⟨c, v, b⟩) (hc : c) (ty : Nat) :
    ∃ r w', (Builtin.append_ #[t, u] ty #[ux, uy]).run P w = .ok r w' ∧ Ext β bx w β (orBx bx b) w' ∧ Ctx G β (orBx bx b) w' X ∧ RepA β (orBx bx b) w' (okp β (orBx bx b) w' X) v r := by
  obtain ⟨ei, ed, g1, g2, g3, g4, g5, g6⟩ := tiOf_inv (hT.ti _ _ hte)
  unfold insideR at hr
  split at hr
  · rename_i s es xs hb hxs
    cases h1 : Nat.beq s sz with
    | false => simp [h1] at hr
    | true =>
    cases h2 : Nat.beq sz te.size with
    | false => simp [h1, h2] at hr
    | true =>
    have h1' := Nat.eq_of_beq_eq_true h1
    have h2' := Nat.eq_of_beq_eq_true h2
    subst h1' h2'
    simp only [h1, Bool.and_self, cond_true, Option.some.injEq, R.mk.injEq] at hr
    obtain ⟨rfl, rfl, rfl⟩ := hr
    obtain ⟨⟨hoff, hemp⟩, hcap, hlen⟩ := hc
    have hx0 := hx
    simp only [RepA] at hx
    obtain ⟨hbn, base, cap, cs, ce, cf, rfl, k1, k2, k3, k4⟩ := hx
    obtain ⟨us, f1, f2, f3, f4⟩ := rowsX_begin (P := P) cx hy hxs hlen (m := xs.length) (Nat.le_refl _)
    rw [List.take_of_length_le (Nat.le_refl _)] at f4
    rw [g3] at f3
    have hneed : n + xs.length ≤ cap := by omega
    by_cases hx0' : xs = []
    · subst hx0'
      have hu0 : us = [] := by simpa using f2
      subst hu0
      have hw : bx.set bb (.row te.size (wrote es (off + n) [])) = bx := by rw [wrote_nil]; exact set_self hb
      refine ⟨.slice base n cap, w, ?_, ?_, ?_, ?_⟩
      · have hn : n ≤ cap := k1
        simp only [List.length_nil] at f1 f3
        cases base <;> simp [Builtin.append_, run_und ht, run_und hu, run_size g1, f1, hn, f3, storeCells]
      · simp only [orBx, hw]; exact Ext.refl _ _ _
      · simp only [orBx, hw]; exact cx
      · simp only [orBx, hw]; simpa using hx0
    · have hne : es ≠ [] := fun h => hx0' (by simpa using hemp h)
      have hxl := List.length_pos_iff.2 hx0'
      rcases k4 with k4 | ⟨rfl, k5, k6⟩
      · omega
      have hfit : (off + n + xs.length) * te.size ≤ cs.size := Nat.le_trans (Nat.mul_le_mul_right _ (by omega)) k6
      obtain ⟨w', r1, r2, r3⟩ := put_rows (P := P) cx hb hne hoff hlen f4 f2 k5 hfit
      have hst : (storeCells (Addr.add ⟨β bb, off * te.size, none⟩ (n * ei.size)) us 0).run P w = .ok () w' := by
        rw [addr_add, ← g3, ← Nat.add_mul]; exact r1
      refine ⟨.slice (some ⟨β bb, off * te.size, none⟩) (n + xs.length) cap, w', ?_, r2, r3, ?_⟩
      · simp [Builtin.append_, run_und ht, run_und hu, run_size g1, f1, hneed, f3, hst]
      · obtain ⟨c', q1, q2⟩ := r2.shape _ _ _ _ k5
        simp only [RepA, orBx]
        refine ⟨(r2.born bb hbn).2, _, cap, c', ce, cf, rfl, hneed, k2, k3, .inr ⟨rfl, q1, by rw [q2]; exact k6⟩⟩
  · simp at hr

/-- a view of the whole of an own row -/
theorem whole_ow {ok : Nat → Prop} {bb sz off n c : Nat} {ex : Bool} {es : List (List D)} {u : Value} (hw : whole es off n c ex) (h : RepA β bx w ok (.vw bb sz off n c ex) u) : RepA β bx w ok (.ow bb sz n) u := by
  obtain ⟨rfl, rfl, hw⟩ := hw
  simp only [RepA] at h ⊢
  obtain ⟨hbn, base, cap, cs, ce, cf, rfl, k1, k2, k3, k4⟩ := h
  refine ⟨hbn, ?_⟩
  by_cases hes : es = []
  · obtain ⟨rfl, rfl⟩ := hw hes
    subst hes
    exact .inl ⟨rfl, base, by rw [k3 rfl]; rfl⟩
  · right
    have := List.length_pos_iff.2 hes
    refine ⟨by omega, ?_⟩
    rcases k4 with k4 | ⟨rfl, k5, k6⟩
    · omega
    · exact ⟨cap, cs, ce, cf, by simp, k1, k5, by simpa using k6⟩

theorem bounds_len {isS : Bool} {n n' cap : Nat} {vl vm : Option Value} {xh : Value} : Instr.sliceBounds isS n cap vl (some xh) vm = Instr.sliceBounds isS n' cap vl (some xh) vm := by
  cases vm <;> rfl

theorem run_boundsM {len cap : Nat} {lo : Option Int} {h m : Int} {vl : Option Value} {xh xm : Value} (hl : BV lo vl) (hh : BV (some h) (some xh)) (hm : BV (some m) (some xm)) (h0 : 0 ≤ h) (hhm : h ≤ m) (hmc : m ≤ cap) (hlo : ∀ z, lo = some z → 0 ≤ z ∧ z ≤ h) :
    (Instr.sliceBounds true len cap vl (some xh) (some xm)).run P w = .ok (lowOf lo, h.toNat, m.toNat) w := by
  unfold Instr.sliceBounds
  simp only [Sem.run_bind]
  rw [run_bound hm (by omega) (by omega)]
  simp only [Result.andThen_ok]
  rw [run_bound hh h0 (by omega)]
  simp only [Result.andThen_ok]
  cases lo with
  | none => cases vl <;> simp [BV] at hl; simp [lowOf]
  | some z =>
    cases vl with
    | none => simp [BV] at hl
    | some x =>
      have hz := hlo z rfl
      simp only [Sem.run_bind]
      rw [run_bound hl hz.1 (by omega)]
      simp [lowOf]

/-- a part of a view -/
theorem vw_sub {ok : Nat → Prop} {bb sz off n c n' cap lo hi cap' c' : Nat} {ex ex' : Bool} {base : Option Addr} (hbn : bornAt bx bb) (hlo : lo ≤ hi) (hhc : hi ≤ lo + cap') (hcc : lo + cap' ≤ cap) (hc' : c' ≤ cap') (hex : ex' = true → cap' = c')
    (k4 : cap = 0 ∨ base = some ⟨β bb, off * sz, none⟩ ∧ ∃ cs ce cf, w.heap[β bb]? = some (.cells cs ce cf) ∧ (off + cap) * sz ≤ cs.size) {m : Nat} (hm : m = lo + cap') (hn' : n' = hi - lo) :
    RepA β bx w ok (.vw bb sz (off + lo) n' c' ex') (.slice (if m = lo then base else base.map (·.add (lo * sz))) n' cap') := by
  subst hm hn'
  simp only [RepA]
  by_cases h0 : cap' = 0
  · exact ⟨hbn, _, cap', #[], 0, (0, 0), rfl, by omega, hc', hex, .inl h0⟩
  · rcases k4 with k4 | ⟨rfl, cs, ce, cf, k5, k6⟩
    · omega
    · refine ⟨hbn, _, cap', cs, ce, cf, rfl, by omega, hc', hex, .inr ⟨?_, k5, ?_⟩⟩
      · rw [if_neg (by omega)]; simp [addr_add, Nat.add_mul]
      · exact Nat.le_trans (Nat.mul_le_mul_right _ (by omega)) k6

theorem viewR_done (hT : TOk P T) (cx : Ctx G β bx w X) {ev : Operand → AV} {ρ : Operand → Value} {o : Oper} (hρ : ∀ x ∈ o.op.operands.toList, RepA β bx w (okp β bx w X) (ev x) (ρ x))
    {c : Prop} {v : AV} {b : Option (List Box)} (hr : viewR T ev o.op bx = some ⟨c, v, b⟩) (hc : c) : Done G β bx w X ((execOp ρ o).run P w) v (orBx bx b) := by
  obtain ⟨dst, op, type, pos, after, guard⟩ := o
  simp only at hρ hr
  unfold viewR at hr
  split at hr
  · -- slice
    rename_i ty x lo hi mx
    have hx := hρ x (by simp [Op.operands])
    split at hr
    · rename_i bb sz off n c0 ex0 te l h he hte hl hh hm
      obtain ⟨ti, e, t1, t2, t3⟩ := elemOf_inv hte
      have hund := slice_und hT t1 t2
      obtain ⟨ei, ed, g1, g2, g3, g4, g5, g6⟩ := tiOf_inv (hT.ti _ _ t3)
      have bl := bnd_bv hl (fun y hy => hρ y (by simp [Op.operands, hy]))
      have bh := bnd_bv hh (fun y hy => hρ y (by simp [Op.operands, hy]))
      have bm := bnd_bv hm (fun y hy => hρ y (by simp [Op.operands, hy]))
      cases hs : Nat.beq te.size sz with
      | false => simp [hs] at hr
      | true =>
      have hs' := Nat.eq_of_beq_eq_true hs
      subst hs'
      simp only [hs, cond_true, Option.some.injEq, R.mk.injEq] at hr
      obtain ⟨rfl, rfl, rfl⟩ := hr
      rw [he] at hx
      simp only [RepA] at hx
      obtain ⟨hbn, base, cap, cs, ce, cf, hu, k1, k2, k3, k4⟩ := hx
      have hmn : mx.map ρ = none := by
        cases mx with
        | none => rfl
        | some q => simp [bnd] at hm; split at hm <;> simp at hm
      have k4' : cap = 0 ∨ base = some ⟨β bb, off * te.size, none⟩ ∧ ∃ cs ce cf, w.heap[β bb]? = some (.cells cs ce cf) ∧ (off + cap) * te.size ≤ cs.size := k4.imp id fun ⟨a, b, c⟩ => ⟨a, cs, ce, cf, b, c⟩
      have hb : (Instr.sliceBounds true n cap (lo.map ρ) (hi.map ρ) none).run P w = .ok (lowOf l, highOf n h, cap) w ∧ lowOf l ≤ highOf n h ∧ highOf n h ≤ cap ∧ (highOf n h ≤ c0 ∨ highOf n h = n) ∧ lowOf l ≤ cap := by
        cases h with
        | none =>
          have hcc : cutC n l none := hc
          have hle := cutC_le hcc
          exact ⟨run_bounds bl bh hcc k1, hle.1, by simp only [highOf]; omega, .inr rfl, by have := hle.1; simp only [highOf] at this ⊢; omega⟩
        | some h =>
          have hcc : cutC c0 l (some h) := hc
          have hle := cutC_le hcc
          cases hi with
          | none => simp [bnd] at hh
          | some q =>
            simp only [Option.map_some] at bh ⊢
            rw [bounds_len (n := n) (n' := c0)]
            refine ⟨?_, hle.1, by have := hle.2; simp only [highOf] at this ⊢; omega, .inl hle.2, by have := hle.1; have := hle.2; simp only [highOf] at *; omega⟩
            have := run_bounds (P := P) (w := w) (isS := true) bl bh hcc k2
            simpa only [highOf] using this
      obtain ⟨hb1, hb2, hb3, hb4, hb5⟩ := hb
      refine Done.pure cx (u := .slice (if cap = lowOf l then base else base.map (·.add (lowOf l * te.size))) (highOf n h - lowOf l) (cap - lowOf l)) (execv _ ?_) ?_
      · rw [hu, hmn]
        simp [Instr.sliceAt, run_und hund, Instr.slice, hb1, run_size g1, g3]
      · exact vw_sub (ex := ex0) (c := c0) (n := n) (cap := cap) hbn hb2 (by omega) (by omega) (by omega) (fun hex => by rw [k3 hex]) k4' (by omega) rfl
    · rename_i bb sz off n c0 ex0 te l h m he hte hl hh hm
      obtain ⟨ti, e, t1, t2, t3⟩ := elemOf_inv hte
      have hund := slice_und hT t1 t2
      obtain ⟨ei, ed, g1, g2, g3, g4, g5, g6⟩ := tiOf_inv (hT.ti _ _ t3)
      have bl := bnd_bv hl (fun y hy => hρ y (by simp [Op.operands, hy]))
      have bh := bnd_bv hh (fun y hy => hρ y (by simp [Op.operands, hy]))
      have bm := bnd_bv hm (fun y hy => hρ y (by simp [Op.operands, hy]))
      cases hs : Nat.beq te.size sz with
      | false => simp [hs] at hr
      | true =>
      have hs' := Nat.eq_of_beq_eq_true hs
      subst hs'
      simp only [hs, cond_true, Option.some.injEq, R.mk.injEq] at hr
      obtain ⟨rfl, rfl, rfl⟩ := hr
      obtain ⟨hcc, hhm, hmc⟩ := hc
      have hle := cutC_le hcc
      rw [he] at hx
      simp only [RepA] at hx
      obtain ⟨hbn, base, cap, cs, ce, cf, hu, k1, k2, k3, k4⟩ := hx
      have k4' : cap = 0 ∨ base = some ⟨β bb, off * te.size, none⟩ ∧ ∃ cs ce cf, w.heap[β bb]? = some (.cells cs ce cf) ∧ (off + cap) * te.size ≤ cs.size := k4.imp id fun ⟨a, b, c⟩ => ⟨a, cs, ce, cf, b, c⟩
      cases hi with
      | none => simp [bnd] at hh
      | some qh =>
      cases mx with
      | none => simp [bnd] at hm
      | some qm =>
      simp only [Option.map_some] at bh bm
      have h0 : 0 ≤ h := by cases l <;> simp [cutC] at hcc <;> omega
      have hb1 := run_boundsM (P := P) (w := w) (len := n) (cap := cap) bl bh bm h0 hhm (by omega) (fun z hz => by subst hz; simp [cutC] at hcc; omega)
      have hb2 := hle.1
      simp only [highOf] at hb2
      refine Done.pure cx (u := .slice (if m.toNat = lowOf l then base else base.map (·.add (lowOf l * te.size))) (h.toNat - lowOf l) (m.toNat - lowOf l)) (execv _ ?_) ?_
      · rw [hu]
        simp [Instr.sliceAt, run_und hund, Instr.slice, hb1, run_size g1, g3]
      · exact vw_sub (ex := ex0) (c := c0) (n := n) (cap := cap) hbn hb2 (by omega) (by omega) (by omega) (fun _ => rfl) k4' (by omega) rfl
    · simp at hr
  · -- indexAddr
    rename_i ty x i
    have hx := hρ x (by simp [Op.operands])
    have hi := hρ i (by simp [Op.operands])
    split at hr
    · rename_i bb sz off n c0 ex0 te k z he hte hz
      obtain ⟨ti, e, t1, t2, t3⟩ := elemOf_inv hte
      have hund := slice_und hT t1 t2
      obtain ⟨ei, ed, g1, g2, g3, g4, g5, g6⟩ := tiOf_inv (hT.ti _ _ t3)
      rw [hz] at hi; simp only [RepA, RepD] at hi
      cases hs : Nat.beq te.size sz with
      | false => simp [hs] at hr
      | true =>
      have hs' := Nat.eq_of_beq_eq_true hs
      subst hs'
      simp only [hs, cond_true, Option.some.injEq, R.mk.injEq] at hr
      obtain ⟨rfl, rfl, rfl⟩ := hr
      rw [he] at hx; simp only [RepA] at hx
      obtain ⟨hbn, base, cap, cs, ce, cf, hu, k1, k2, k3, k4⟩ := hx
      rcases k4 with k4 | ⟨rfl, k5, k6⟩
      · omega
      · refine Done.pure cx (u := .pointer (some ⟨β bb, off * te.size + z.toNat * te.size, none⟩)) (execv _ ?_) ?_
        · rw [hu]; simp [Instr.indexAt, hi, asIntOf, run_und hund, hc.1, hc.2, run_size g1, addr_add, g3]
        · simp only [RepA]; exact ⟨by simp [Nat.add_mul], hbn⟩
    · simp at hr
  · -- a builtin
    rename_i bn args ats
    have hxs : RepAs β bx w (okp β bx w X) (args.toList.map ev) (args.toList.map ρ) := map_rep args.toList (fun y hy => hρ y (by simp [Op.operands, Call.operands]; exact by simpa using hy))
    have fin : ∀ (r : Value) (w' : World) (β' : Nat → Nat) (bx' : List Box) (v' : AV), (Go.builtin bn ⟨ats.toList⟩ type (args.map fun | .const _ => true | _ => false) ⟨args.toList.map ρ⟩).run P w = .ok (.value r) w' →
        Ext β bx w β' bx' w' → Ctx G β' bx' w' X → RepA β' bx' w' (okp β' bx' w' X) v' r → Done G β bx w X ((execOp ρ ⟨dst, .call { callee := .builtin bn, args := args, argTypes := ats }, type, pos, after, guard⟩).run P w) v' bx' := by
      intro r w' β' bx' v' h1 h2 h3 h4
      refine ⟨β', w', h2, h3, .inl ⟨r, ?_, h4⟩⟩
      simp only [execOp, resolve, Sem.run_bind, Sem.run_pure, Result.andThen_ok, invoke, array_map_list args ρ]
      exact h1
    generalize args.toList.map ρ = vs at hxs fin
    generalize hats : ats.toList = al at hr fin
    generalize args.toList.map ev = as at hr hxs
    generalize (args.map fun | .const _ => true | _ => false) = cs at fin
    split at hr
    · -- len
      rename_i bb sz off n c0 ex0 ty
      simp only [RepAs] at hxs
      obtain ⟨u, us, rfl, hx, rfl⟩ := hxs
      split at hr
      · rename_i te hte
        obtain ⟨ti, e, t1, t2, t3⟩ := elemOf_inv hte
        have hund := slice_und hT t1 t2
        simp only [R.pure, Option.some.injEq, R.mk.injEq] at hr
        obtain ⟨_, rfl, rfl⟩ := hr
        simp only [RepA] at hx
        obtain ⟨hbn, base, cap, _, _, _, rfl, _⟩ := hx
        exact fin (.int .i64 n) w β bx _ (execv _ (by simp [Builtin.len_, run_und hund, goInt])) (Ext.refl _ _ _) cx (by simp only [RepA, RepD])
      · simp at hr
    · -- cap
      rename_i bb sz off n c0 ty
      simp only [RepAs] at hxs
      obtain ⟨u, us, rfl, hx, rfl⟩ := hxs
      split at hr
      · rename_i te hte
        obtain ⟨ti, e, t1, t2, t3⟩ := elemOf_inv hte
        have hund := slice_und hT t1 t2
        simp only [R.pure, Option.some.injEq, R.mk.injEq] at hr
        obtain ⟨_, rfl, rfl⟩ := hr
        simp only [RepA] at hx
        obtain ⟨hbn, base, cap, _, _, _, rfl, _, _, k3, _⟩ := hx
        have := k3 trivial
        subst this
        exact fin (.int .i64 cap) w β bx _ (execv _ (by simp [Builtin.cap_, run_und hund, goInt])) (Ext.refl _ _ _) cx (by simp only [RepA, RepD])
      · simp at hr
    · -- copy
      rename_i x y ty rest
      simp only [RepAs] at hxs
      obtain ⟨ux, us, rfl, hx, uy, us2, rfl, hy, rfl⟩ := hxs
      split at hr
      · rename_i te hte
        obtain ⟨ti, e, t1, t2, t3⟩ := elemOf_inv hte
        have hund := slice_und hT t1 t2
        obtain ⟨r, w', k1, k2, k3, k4⟩ := copyR_done (P := P) hT cx hund t3 hx hy hr hc rest type
        exact fin r w' β _ _ (execv _ k1) k2 k3 k4
      · simp at hr
    · -- clear
      rename_i x ty rest
      simp only [RepAs] at hxs
      obtain ⟨ux, us, rfl, hx, rfl⟩ := hxs
      split at hr
      · rename_i te hte
        obtain ⟨ti, e, t1, t2, t3⟩ := elemOf_inv hte
        have hund := slice_und hT t1 t2
        obtain ⟨r, w', k1, k2, k3, k4⟩ := clearR_done (P := P) hT cx hund t3 hx hr hc rest type
        exact fin r w' β _ _ (execv _ k1) k2 k3 k4
      · simp at hr
    · -- append
      rename_i bb sz off n c0 ex0 y ty u
      simp only [RepAs] at hxs
      obtain ⟨ux, us, rfl, hx, uy, us2, rfl, hy, rfl⟩ := hxs
      split at hr
      · rename_i te hte hi
        obtain ⟨ti, e, t1, t2, t3⟩ := elemOf_inv hte
        have hund := slice_und hT t1 t2
        split at hr
        · rename_i m
          simp only [isIntT] at hi
          split at hi
          · rename_i tu htu
            split at hi
            · rename_i k hk
              obtain ⟨ui, ud, q1, q2, q3, q4, q5, q6⟩ := tiOf_inv (hT.ti _ _ htu)
              rw [hk] at q5
              cases ud <;> simp [kdOf] at q5
              subst q5
              simp only [RepA, RepD] at hy; subst hy
              obtain ⟨r, w', β', k1, k2, k3, k4⟩ := growR_done (P := P) hT cx hund q2 t3 hx hr hc type
              exact fin r w' β' _ _ (execv _ k1) k2 k3 k4
            · simp at hi
          · simp at hi
        · simp at hr
      · rename_i te hte hi
        obtain ⟨ti, e, t1, t2, t3⟩ := elemOf_inv hte
        have hund := slice_und hT t1 t2
        simp only [isIntT] at hi
        split at hi
        · rename_i tu htu
          split at hi
          · simp at hi
          · rename_i hk
            obtain ⟨ui, ud, q1, q2, q3, q4, q5, q6⟩ := tiOf_inv (hT.ti _ _ htu)
            have hud : ∀ k, ud ≠ .int k := by rintro k rfl; exact hk k (by rw [q5]; rfl)
            cases hsb : sameBox bb y with
            | true =>
              simp only [hsb, cond_true] at hr
              obtain ⟨r, w', k1, k2, k3, k4⟩ := insideR_done (P := P) hT cx hund q2 hud t3 hx hy hr hc type
              exact fin r w' β _ _ (execv _ k1) k2 k3 k4
            | false =>
              simp only [hsb, cond_false] at hr
              split at hr
              · rename_i s es c1 v1 bx1 hb hap
                simp only [Option.some.injEq, R.mk.injEq] at hr
                obtain ⟨rfl, rfl, rfl⟩ := hr
                obtain ⟨r, w', β', bx', rfl, k1, k2, k3, k4⟩ := appendR_done (P := P) hT cx htu (fun k hk' => hk k hk') (whole_ow hc.2 hx) hy hap hc.1 type
                exact fin r w' β' _ _ (execv _ k1) k2 k3 k4
              · simp at hr
        · simp at hi
      · simp at hr
    · simp at hr
  · simp at hr

/-- Each operation of the calculus does so in the model. -/
theorem opR_done (hT : TOk P T) (cx : Ctx G β bx w X) {ev : Operand → AV} {ρ : Operand → Value} {o : Oper} (hρ : ∀ x ∈ o.op.operands.toList, RepA β bx w (okp β bx w X) (ev x) (ρ x))
    {c : Prop} {v : AV} {b : Option (List Box)} (hr : opR T ev o.op bx = some ⟨c, v, b⟩) (hc : c) : Done G β bx w X ((execOp ρ o).run P w) v (orBx bx b) := by
  unfold opR at hr
  cases hv : isView ev o.op with
  | true => rw [hv, cond_true] at hr; exact viewR_done hT cx hρ hr hc
  | false => rw [hv, cond_false] at hr; exact opR0_done hT cx hρ hr hc
end
end Dem
end
section
/- THE CALCULUS: WHAT A CALL IS TOLD TO DO, AND ARGUMENTS THAT ARE LENT. -/
open Go
namespace Dem
section
variable {P : Program} {T : Nat → Option TI} {G : Nat → Option (List D)} {β : Nat → Nat} {bx : List Box} {w : World} {X : Nat → Prop}

def RepRes (β : Nat → Nat) (bx : List Box) (w : World) (ok : Nat → Prop) : Res → Ending → Prop
  | .ret v, .returned u => RepA β bx w ok v u
  | .pan v, .panicked ch => ∃ u, ch = [{ v := u, recovered := false }] ∧ RepA β bx w ok v u
  | _, _ => False

/-- a function entered, or answered by the model itself -/
def CallF (P : Program) (f : Nat) (vs : Array Value) (w : World) (R : Ending → World → Prop) : Prop :=
  ((callFunc f vs).run P w = .ok (.enter f vs) w ∧ Calls P f vs w R) ∨ ∃ v w', (callFunc f vs).run P w = .ok (.value v) w' ∧ R (.returned v) w'

theorem CallF.mono {f : Nat} {vs : Array Value} {R R' : Ending → World → Prop} (h : CallF P f vs w R) (hr : ∀ e w', R e w' → R' e w') : CallF P f vs w R' := by
  rcases h with ⟨h1, h2⟩ | ⟨v, w', h1, h2⟩
  · exact .inl ⟨h1, Calls.mono h2 hr⟩
  · exact .inr ⟨v, w', h1, hr _ _ h2⟩

/-- A FUNCTION'S CONTRACT: at these arguments, upon these boxes, it comes to this end and leaves these boxes. -/
def FCalls (P : Program) (G : Nat → Option (List D)) (f : Nat) (args : List AV) (bx : List Box) (res : Res) (bx' : List Box) : Prop :=
  ∀ (β : Nat → Nat) (w : World) (vs : List Value) (X : Nat → Prop), Ctx G β bx w X → RepAs β bx w (okp β bx w X) args vs →
    CallF P f ⟨vs⟩ w fun e w' => ∃ β', Ext β bx w β' bx' w' ∧ Ctx G β' bx' w' X ∧ RepRes β' bx' w' (okp β' bx' w' X) res e

/- values in which no box is named -/
mutual
theorem shut_rep {β β' : Nat → Nat} {bx bx' : List Box} {w : World} {ok ok' : Nat → Prop} (h : ∀ blk, ok blk → ok' blk) : ∀ (x : AV) (v : Value), x.shut = true → RepA β bx w ok x v → RepA β' bx' w ok' x v
  | .any, _, _, _ => by simp [RepA]
  | .d x, v, _, hv => by simp only [RepA] at hv ⊢; exact RepD.mono (fun blk hb => ⟨h blk hb, rfl⟩) _ _ hv
  | .k c, v, _, hv => by simpa [RepA] using hv
  | .agg cs, v, hs, hv => by
    simp only [RepA] at hv ⊢; obtain ⟨vs, h1, h2⟩ := hv
    exact ⟨vs, h1, shuts_rep h cs vs (by simpa [AV.shut] using hs) h2⟩
  | .tup cs, v, hs, hv => by
    simp only [RepA] at hv ⊢; obtain ⟨vs, h1, h2⟩ := hv
    exact ⟨vs, h1, shuts_rep h cs vs (by simpa [AV.shut] using hs) h2⟩
  | .ptr _ _, _, hs, _ => by simp [AV.shut] at hs
  | .rp _ _ _ _, _, hs, _ => by simp [AV.shut] at hs
  | .ow _ _ _, _, hs, _ => by simp [AV.shut] at hs
  | .vw _ _ _ _ _ _, _, hs, _ => by simp [AV.shut] at hs
  | .ep ds, v, _, hv => by
    simp only [RepA] at hv ⊢; obtain ⟨blk, off, h1, h2, h3⟩ := hv
    exact ⟨blk, off, h1, h blk h2, RepRow.mono (fun blk hb => ⟨h blk hb, rfl⟩) blk (fun _ => rfl) _ _ h3⟩
  | .cl es, v, _, hv => by
    simp only [RepA] at hv ⊢; obtain ⟨base, h1, h2⟩ := hv
    refine ⟨base, h1, h2.imp id ?_⟩
    rintro ⟨blk, off, sz, e1, e2, e3⟩
    exact ⟨blk, off, sz, e1, h blk e2, RepRows.mono (fun blk hb => ⟨h blk hb, rfl⟩) blk sz (fun _ => rfl) _ _ e3⟩
  | .fn f cs, v, hs, hv => by
    simp only [RepA] at hv ⊢; obtain ⟨vs, h1, h2⟩ := hv
    exact ⟨vs, h1, shuts_rep h cs vs (by simpa [AV.shut] using hs) h2⟩
  | .ifc t x, v, hs, hv => by
    simp only [RepA] at hv ⊢; obtain ⟨u, h1, h2⟩ := hv
    exact ⟨u, h1, shut_rep h x u (by simpa [AV.shut] using hs) h2⟩
  | .cond p x, v, hs, hv => by
    simp only [RepA] at hv ⊢
    exact ⟨fun hp => shut_rep h x v (by simpa [AV.shut] using hs) (hv.1 hp), hv.2⟩
theorem shuts_rep {β β' : Nat → Nat} {bx bx' : List Box} {w : World} {ok ok' : Nat → Prop} (h : ∀ blk, ok blk → ok' blk) : ∀ (xs : List AV) (vs : List Value), AV.shut.shuts xs = true → RepAs β bx w ok xs vs → RepAs β' bx' w ok' xs vs
  | [], vs, _, hv => by simpa [RepAs] using hv
  | x :: xs, vs, hs, hv => by
    simp only [RepAs] at hv ⊢
    obtain ⟨u, us, h1, h2, h3⟩ := hv
    simp only [AV.shut.shuts, Bool.and_eq_true] at hs
    exact ⟨u, us, h1, shut_rep h x u hs.1 h2, shuts_rep h xs us hs.2 h3⟩
end

/- values in which no memory lies -/
theorem flats_rep {β β' : Nat → Nat} {bx bx' : List Box} {w w' : World} {ok ok' : Nat → Prop} : ∀ (xs : List AV) (vs : List Value), AV.flat.flats xs = true → RepAs β bx w ok xs vs → RepAs β' bx' w' ok' xs vs
  | [], vs, _, hv => by simpa [RepAs] using hv
  | x :: xs, vs, hs, hv => by
    simp only [RepAs] at hv ⊢
    obtain ⟨u, us, h1, h2, h3⟩ := hv
    cases x with
    | d y => cases y <;> simp [AV.flat.flats] at hs <;> exact ⟨u, us, h1, by simpa [RepA, RepD] using h2, flats_rep xs us hs h3⟩
    | k c => simp [AV.flat.flats] at hs; exact ⟨u, us, h1, by simpa [RepA] using h2, flats_rep xs us hs h3⟩
    | _ => simp [AV.flat.flats] at hs

theorem flatss_rep {β β' : Nat → Nat} {bx bx' : List Box} {w w' : World} {ok ok' : Nat → Prop} : ∀ (xs : List AV) (vs : List Value), AV.flat.flatss xs = true → RepAs β bx w ok xs vs → RepAs β' bx' w' ok' xs vs
  | [], vs, _, hv => by simpa [RepAs] using hv
  | x :: xs, vs, hs, hv => by
    simp only [RepAs] at hv ⊢
    obtain ⟨u, us, h1, h2, h3⟩ := hv
    cases x with
    | d y => cases y <;> simp [AV.flat.flatss] at hs <;> exact ⟨u, us, h1, by simpa [RepA, RepD] using h2, flatss_rep xs us hs h3⟩
    | k c => simp [AV.flat.flatss] at hs; exact ⟨u, us, h1, by simpa [RepA] using h2, flatss_rep xs us hs h3⟩
    | agg cs =>
      simp [AV.flat.flatss] at hs
      simp only [RepA] at h2
      obtain ⟨v2, e1, e2⟩ := h2
      exact ⟨u, us, h1, by simp only [RepA]; exact ⟨v2, e1, flats_rep cs v2 hs.1 e2⟩, flatss_rep xs us hs.2 h3⟩
    | _ => simp [AV.flat.flatss] at hs

theorem flat_rep {β β' : Nat → Nat} {bx bx' : List Box} {w w' : World} {ok ok' : Nat → Prop} (x : AV) (v : Value) (hf : x.flat = true) (hv : RepA β bx w ok x v) : RepA β' bx' w' ok' x v := by
  cases x with
  | d y => cases y <;> simp [AV.flat] at hf <;> simpa [RepA, RepD] using hv
  | k c => simpa [RepA] using hv
  | agg cs => simp only [RepA] at hv ⊢; obtain ⟨vs, h1, h2⟩ := hv; exact ⟨vs, h1, flats_rep cs vs (by simpa [AV.flat] using hf) h2⟩
  | tup cs => simp only [RepA] at hv ⊢; obtain ⟨vs, h1, h2⟩ := hv; exact ⟨vs, h1, flatss_rep cs vs (by simpa [AV.flat] using hf) h2⟩
  | _ => simp [AV.flat] at hf

theorem flatD_rep {w w' : World} {ok ok' : Nat → Prop} : ∀ (x : D) (v : Value), x.flat = true → RepD w ok x v → RepD w' ok' x v := by
  intro x v hf hv
  cases x <;> simp [D.flat] at hf <;> simpa [RepD] using hv

theorem flatRow_rep {w : World} {ok ok' : Nat → Prop} {blk : Nat} : ∀ (xs : List D) (off : Nat), (∀ x ∈ xs, x.flat = true) → RepRow w ok blk xs off → RepRow w ok' blk xs off
  | [], _, _, _ => by simp [RepRow]
  | x :: xs, off, hf, hv => by
    simp only [RepRow] at hv ⊢
    obtain ⟨⟨u, h1, h2⟩, h3⟩ := hv
    exact ⟨⟨u, h1, flatD_rep x u (hf x (by simp)) h2⟩, flatRow_rep xs _ (fun y hy => hf y (by simp [hy])) h3⟩

theorem flatRows_rep {w : World} {ok ok' : Nat → Prop} {blk sz : Nat} : ∀ (rs : List (List D)) (off : Nat), (∀ r ∈ rs, ∀ x ∈ r, x.flat = true) → RepRows w ok blk sz rs off → RepRows w ok' blk sz rs off
  | [], _, _, _ => by simp [RepRows]
  | r :: rs, off, hf, hv => by
    simp only [RepRows] at hv ⊢
    exact ⟨hv.1, flatRow_rep r off (hf r (by simp)) hv.2.1, flatRows_rep rs _ (fun s hs => hf s (by simp [hs])) hv.2.2⟩

/- what is lent -/
theorem fz_seal (cx : Ctx G β bx w X) {x y : AV} {u : Value} (hd : fz bx x = some y) (h : RepA β bx w (okp β bx w X) x u) :
    Ext β bx w β (x.sealB bx) w ∧ Ctx G β (x.sealB bx) w X ∧ RepA β (x.sealB bx) w (okp β (x.sealB bx) w X) y u := by
  cases x with
  | cl es =>
    simp only [fz, Option.some.injEq] at hd; subst hd
    obtain ⟨g1, g2, g3⟩ := toD_seal (y := .sl es) cx rfl h
    exact ⟨g1, g2, by simpa [RepA] using g3⟩
  | ow b sz n =>
    simp only [fz, Option.map_eq_some_iff] at hd
    obtain ⟨z, h1, rfl⟩ := hd
    obtain ⟨g1, g2, g3⟩ := toD_seal cx h1 h
    exact ⟨g1, g2, by simpa [RepA] using g3⟩
  | vw b sz off n c ex =>
    simp only [fz, Option.map_eq_some_iff] at hd
    obtain ⟨es, h1, rfl⟩ := hd
    obtain ⟨g1, g2, g3⟩ := rows_seal cx h1 h
    exact ⟨g1, g2, by simpa [RepA, RepD] using g3⟩
  | _ => simp only [fz, Option.some.injEq] at hd; subst hd; exact ⟨Ext.refl _ _ _, cx, h⟩

theorem fz_after {x y z : AV} (h : fz bx x = some y) : fz (z.sealB bx) x = some y := by
  cases x with
  | ow b sz n =>
    simp only [fz, Option.map_eq_some_iff] at h ⊢
    obtain ⟨q, h1, h2⟩ := h
    exact ⟨q, toD_after h1, h2⟩
  | vw b sz off n c ex =>
    simp only [fz, Option.map_eq_some_iff] at h ⊢
    obtain ⟨q, h1, h2⟩ := h
    refine ⟨q, ?_, h2⟩
    simp only [AV.rows] at h1 ⊢
    split at h1
    · rename_i s es hb
      rcases seal_get (z := z) (.inl hb) with g | g <;> simp [g, h1]
    · rename_i s es hb
      rcases seal_get (z := z) (.inr hb) with g | g <;> simp [g, h1]
    · simp at h1
  | _ => exact h

theorem fzs_after {z : AV} : ∀ {xs ys : List AV}, fzs bx xs = some ys → fzs (z.sealB bx) xs = some ys
  | [], ys, h => h
  | x :: xs, ys, h => by
    simp only [fzs] at h ⊢
    split at h
    · rename_i y ys' hy hys
      rw [fz_after hy, fzs_after hys]; exact h
    · simp at h

theorem frz1_after {x y z : AV} (h : frz1 bx x = some y) : frz1 (z.sealB bx) x = some y := by
  cases x with
  | agg cs =>
    simp only [frz1, Option.map_eq_some_iff] at h ⊢
    obtain ⟨q, h1, h2⟩ := h
    exact ⟨q, fzs_after h1, h2⟩
  | _ => simp only [frz1] at h ⊢; exact fz_after h

theorem frzs_after {z : AV} : ∀ {xs ys : List AV}, frzs bx xs = some ys → frzs (z.sealB bx) xs = some ys
  | [], ys, h => h
  | x :: xs, ys, h => by
    simp only [frzs] at h ⊢
    split at h
    · rename_i y ys' hy hys
      rw [frz1_after hy, frzs_after hys]; exact h
    · simp at h

theorem frzs_afters {xs ys : List AV} : ∀ (zs : List AV) (bx : List Box), frzs bx xs = some ys → frzs (seals bx zs) xs = some ys
  | [], _, h => h
  | _ :: zs, _, h => frzs_afters zs _ (frzs_after h)

theorem frzs_after1 {xs ys : List AV} {z : AV} (h : frzs bx xs = some ys) : frzs (seal1 bx z) xs = some ys := by
  cases z with
  | agg cs => exact frzs_afters cs bx h
  | _ => simp only [seal1]; exact frzs_after h

theorem fzs_seal : ∀ (xs : List AV) (bx : List Box) (ys : List AV) (vs : List Value), Ctx G β bx w X → fzs bx xs = some ys → RepAs β bx w (okp β bx w X) xs vs →
    Ext β bx w β (seals bx xs) w ∧ Ctx G β (seals bx xs) w X ∧ RepAs β (seals bx xs) w (okp β (seals bx xs) w X) ys vs
  | [], bx, ys, vs, cx, hd, h => by simp [fzs] at hd; subst hd; exact ⟨Ext.refl _ _ _, cx, by simpa [seals] using h⟩
  | x :: xs, bx, ys, vs, cx, hd, h => by
    simp only [fzs] at hd
    split at hd
    · rename_i y ys' hy hys
      simp at hd; subst hd
      simp only [RepAs] at h
      obtain ⟨u, us, rfl, g1, g2⟩ := h
      obtain ⟨e1, c1, r1⟩ := fz_seal cx hy g1
      obtain ⟨e2, c2, r2⟩ := fzs_seal xs (x.sealB bx) ys' us c1 (fzs_after hys) (RepAs.mono (e1.lasts X) _ _ g2)
      refine ⟨e1.trans e2, c2, ?_⟩
      simp only [seals, RepAs]
      exact ⟨u, us, rfl, RepA.mono (e2.lasts X) _ _ r1, r2⟩
    · simp at hd

theorem frz1_seal (cx : Ctx G β bx w X) {x y : AV} {u : Value} (hd : frz1 bx x = some y) (h : RepA β bx w (okp β bx w X) x u) :
    Ext β bx w β (seal1 bx x) w ∧ Ctx G β (seal1 bx x) w X ∧ RepA β (seal1 bx x) w (okp β (seal1 bx x) w X) y u := by
  cases x with
  | agg cs =>
    simp only [frz1, Option.map_eq_some_iff] at hd
    obtain ⟨ys, h1, rfl⟩ := hd
    simp only [RepA] at h
    obtain ⟨vs, rfl, hvs⟩ := h
    obtain ⟨g1, g2, g3⟩ := fzs_seal cs bx ys vs cx h1 hvs
    exact ⟨g1, g2, by simp only [RepA]; exact ⟨vs, rfl, g3⟩⟩
  | _ => simp only [frz1] at hd; simp only [seal1]; exact fz_seal cx hd h

theorem frzs_seal : ∀ (xs : List AV) (bx : List Box) (ys : List AV) (vs : List Value), Ctx G β bx w X → frzs bx xs = some ys → RepAs β bx w (okp β bx w X) xs vs →
    Ext β bx w β (seals1 bx xs) w ∧ Ctx G β (seals1 bx xs) w X ∧ RepAs β (seals1 bx xs) w (okp β (seals1 bx xs) w X) ys vs
  | [], bx, ys, vs, cx, hd, h => by simp [frzs] at hd; subst hd; exact ⟨Ext.refl _ _ _, cx, by simpa [seals1] using h⟩
  | x :: xs, bx, ys, vs, cx, hd, h => by
    simp only [frzs] at hd
    split at hd
    · rename_i y ys' hy hys
      simp at hd; subst hd
      simp only [RepAs] at h
      obtain ⟨u, us, rfl, g1, g2⟩ := h
      obtain ⟨e1, c1, r1⟩ := frz1_seal cx hy g1
      obtain ⟨e2, c2, r2⟩ := frzs_seal xs (seal1 bx x) ys' us c1 (frzs_after1 hys) (RepAs.mono (e1.lasts X) _ _ g2)
      refine ⟨e1.trans e2, c2, ?_⟩
      simp only [seals1, RepAs]
      exact ⟨u, us, rfl, RepA.mono (e2.lasts X) _ _ r1, r2⟩
    · simp at hd

/- where nothing is lent, nothing is sealed -/
theorem fz_none {x y : AV} (h : fz [] x = some y) (bx : List Box) : x.sealB bx = bx := by
  cases x with
  | ow b sz n => simp [fz, AV.toD] at h
  | vw b sz off n c ex => simp [fz, AV.rows] at h
  | _ => rfl

theorem fzs_none : ∀ {xs ys : List AV} (bx : List Box), fzs [] xs = some ys → seals bx xs = bx
  | [], _, _, _ => rfl
  | x :: xs, ys, bx, h => by
    simp only [fzs] at h
    split at h
    · rename_i y ys' hy hys
      simp only [seals, fz_none hy bx]; exact fzs_none bx hys
    · simp at h

theorem frzs_none : ∀ {xs ys : List AV} (bx : List Box), frzs [] xs = some ys → seals1 bx xs = bx
  | [], _, _, _ => rfl
  | x :: xs, ys, bx, h => by
    simp only [frzs] at h
    split at h
    · rename_i y ys' hy hys
      have : seal1 bx x = bx := by
        cases x with
        | agg cs =>
          simp only [frz1, Option.map_eq_some_iff] at hy
          obtain ⟨q, h1, _⟩ := hy
          exact fzs_none bx h1
        | _ => simp only [frz1] at hy; simp only [seal1]; exact fz_none hy bx
      simp only [seals1, this]; exact frzs_none bx hys
    · simp at h

/- a call that needs no box -/
def liveX (β : Nat → Nat) (bx : List Box) (X : Nat → Prop) (blk : Nat) : Prop := X blk ∨ ∃ i b, bx[i]? = some b ∧ b.live = true ∧ β i = blk

theorem ctx_none (cx : Ctx G β bx w X) : Ctx G β [] w (liveX β bx X) := by
  refine ⟨?_, ?_, by simp, by simp, by simp⟩
  · rintro blk (h | ⟨i, b, h1, h2, rfl⟩)
    · exact cx.xs blk h
    · exact BoxOk.live_lt (cx.box i b h1) h2
  · intro g ds hg
    obtain ⟨h1, h2⟩ := cx.glob g ds hg
    have key : ∀ blk, okp β bx w X blk → okp β [] w (liveX β bx X) blk := by
      rintro blk ⟨k1, k2, k3⟩
      refine ⟨k1, ?_, by simp⟩
      rintro (h | ⟨i, b, e1, e2, e3⟩)
      · exact k2 h
      · exact k3 i b e1 e2 e3
    exact ⟨key g h1, RepRow.mono (fun blk hb => ⟨key blk hb, rfl⟩) g (fun _ => rfl) _ _ h2⟩

theorem okp_none (blk : Nat) (h : okp β bx w X blk) : okp β [] w (liveX β bx X) blk := by
  obtain ⟨k1, k2, k3⟩ := h
  refine ⟨k1, ?_, by simp⟩
  rintro (h | ⟨i, b, e1, e2, e3⟩)
  · exact k2 h
  · exact k3 i b e1 e2 e3

/-- nothing that was there has turned -/
theorem ext_none {β' : Nat → Nat} {bx' : List Box} {w' : World} (ex : Ext β [] w β' bx' w') : Ext β bx w β bx w' :=
  ⟨ex.os, ex.tape, ex.output, ex.size, fun k hk _ => ex.block k hk (by simp), ex.shape, fun i hi => ⟨rfl, hi⟩, fun i b h1 h2 => .inr ⟨i, b, h1, h2, rfl⟩⟩

theorem ctx_back {β' : Nat → Nat} {bx' : List Box} {w' : World} (cx : Ctx G β bx w X) (ex : Ext β [] w β' bx' w') : Ctx G β bx w' X :=
  cx.step (ext_none ex) (fun i b h => .inl ⟨h, fun hl => ex.block _ (BoxOk.live_lt (cx.box i b h) hl) (by simp)⟩) cx.inj

theorem new_row {β' : Nat → Nat} {w' : World} {sz n : Nat} {es : List (List D)} {bx1 : List Box} {u : Value} (cx : Ctx G β bx w X) (ex : Ext β [] w β' [.row sz es] w') (cx' : Ctx G β' [.row sz es] w' (liveX β bx1 X))
    (hv : (∀ r ∈ es, ∀ x ∈ r, x.flat = true) ∨ bx1 = bx) (hr : RepA β' [.row sz es] w' (okp β' [.row sz es] w' (liveX β bx1 X)) (.ow 0 sz n) u) :
    Ext β bx w (upd β bx.length (β' 0)) (bx ++ [.row sz es]) w' ∧ Ctx G (upd β bx.length (β' 0)) (bx ++ [.row sz es]) w' X ∧
      RepA (upd β bx.length (β' 0)) (bx ++ [.row sz es]) w' (okp (upd β bx.length (β' 0)) (bx ++ [.row sz es]) w' X) (.ow bx.length sz n) u := by
  have e0 := ext_none (bx := bx) ex
  have hnew : Box.live (.row sz es) = true → w.heap.size ≤ β' 0 := by
    intro hl
    rcases ex.live 0 (.row sz es) rfl hl with h | ⟨j, b', h1, _⟩
    · exact h
    · simp at h1
  have hold : ∀ i b, bx[i]? = some b → upd β bx.length (β' 0) i = β i := by
    intro i b h
    exact upd_ne _ _ (by have := get_lt h; omega)
  have e1 : Ext β bx w (upd β bx.length (β' 0)) (bx ++ [.row sz es]) w' := by
    refine ⟨e0.os, e0.tape, e0.output, e0.size, e0.block, e0.shape, ?_, ?_⟩
    · rintro i ⟨b, h1, h2⟩
      exact ⟨hold i b h1, b, get_append_lt h1, h2⟩
    · intro i b h hl
      rcases get_append_inv h with ⟨h1, _⟩ | ⟨rfl, rfl⟩
      · exact .inr ⟨i, b, h1, hl, (hold i b h1).symm⟩
      · exact .inl (by rw [upd_same]; exact hnew hl)
  have hlt : ∀ i b, bx[i]? = some b → b.live = true → β i < w.heap.size := fun i b h hl => BoxOk.live_lt (cx.box i b h) hl
  have hok : bx1 = bx → ∀ blk, okp β' [.row sz es] w' (liveX β bx1 X) blk → okp (upd β bx.length (β' 0)) (bx ++ [.row sz es]) w' X blk := by
    rintro rfl blk ⟨k1, k2, k3⟩
    refine ⟨k1, fun hX => k2 (.inl hX), ?_⟩
    intro i b h hl
    rcases get_append_inv h with ⟨h1, _⟩ | ⟨rfl, rfl⟩
    · rw [hold i b h1]; exact fun he => k2 (.inr ⟨i, b, h1, hl, he⟩)
    · rw [upd_same]; exact k3 0 _ rfl hl
  refine ⟨e1, cx.step e1 ?_ ?_, ?_⟩
  · intro i b h
    rcases get_append_inv h with ⟨h1, _⟩ | ⟨rfl, rfl⟩
    · exact .inl ⟨h1, fun hl => ex.block _ (hlt i b h1 hl) (by simp)⟩
    · refine .inr ?_
      have := cx'.box 0 _ rfl
      rw [upd_same]
      simp only [BoxOk] at this ⊢
      refine this.imp id ?_
      rintro ⟨c, e, h1, h2⟩
      refine ⟨c, e, h1, ?_⟩
      rcases hv with hfl | hb
      · exact flatRows_rep _ _ hfl h2
      · exact RepRows.mono (fun blk hb' => ⟨hok hb blk hb', rfl⟩) _ _ (fun _ => rfl) _ _ h2
  · intro i j bi bj hi hj hli hlj he
    rcases get_append_inv hi with ⟨h1, _⟩ | ⟨rfl, rfl⟩ <;> rcases get_append_inv hj with ⟨h2, _⟩ | ⟨rfl, rfl⟩
    · rw [hold i bi h1, hold j bj h2] at he
      exact cx.inj i j bi bj h1 h2 hli hlj he
    · rw [hold i bi h1, upd_same] at he
      have := hlt i bi h1 hli; have := hnew hlj; omega
    · rw [hold j bj h2, upd_same] at he
      have := hlt j bj h2 hlj; have := hnew hli; omega
    · rfl
  · simp only [RepA] at hr ⊢
    obtain ⟨_, h2⟩ := hr
    refine ⟨⟨_, by simp; rfl, rfl⟩, ?_⟩
    rw [upd_same]; exact h2

theorem calls_shut {f : Nat} {args : List AV} {vs : List Value} {K : AV → List Box → Prop} (cx : Ctx G β bx w X) (hx : RepAs β bx w (okp β bx w X) args vs)
    (h : CallShut (FCalls P G) f args bx K) :
    CallF P f ⟨vs⟩ w fun e w' => ∃ β' bx' v u, e = .returned u ∧ Ext β bx w β' bx' w' ∧ Ctx G β' bx' w' X ∧ RepA β' bx' w' (okp β' bx' w' X) v u ∧ K v bx' := by
  obtain ⟨_, hz, hs, h⟩ := h
  obtain ⟨e1, c1, r1⟩ := frzs_seal args bx _ vs cx hz hx
  have cn := ctx_none c1
  have hn : RepAs β [] w (okp β [] w (liveX β (seals1 bx args) X)) _ vs := shuts_rep (fun blk hb => okp_none blk hb) _ _ hs r1
  rcases h with ⟨v, hf, hv, hK⟩ | ⟨sz, n, es, hf, hv, hK⟩
  · refine CallF.mono (hf β w vs _ cn hn) ?_
    rintro e w' ⟨β', ex, cx', hr⟩
    cases e with
    | returned u =>
      refine ⟨β, bx, v, u, rfl, ext_none ex, ctx_back cx ex, ?_, hK⟩
      rcases hv with hfl | ⟨hnl, hsh⟩
      · exact flat_rep v u hfl hr
      · rw [frzs_none bx hnl] at hr
        refine shut_rep ?_ v u hsh hr
        rintro blk ⟨k1, k2, _⟩
        exact ⟨k1, fun hX => k2 (.inl hX), fun i b hb hl he => k2 (.inr ⟨i, b, hb, hl, he⟩)⟩
    | _ => exact hr.elim
  · refine CallF.mono (hf β w vs _ cn hn) ?_
    rintro e w' ⟨β', ex, cx', hr⟩
    cases e with
    | returned u =>
      simp only [RepRes] at hr
      obtain ⟨x1, x2, x3⟩ := new_row cx ex cx' (by
        rcases hv with hfl | hnl
        · exact .inl hfl
        · refine .inr ?_
          rw [frzs_none bx hnl]) hr
      exact ⟨_, _, _, u, rfl, x1, x2, x3, hK⟩
    | _ => exact hr.elim

end
end Dem
end
