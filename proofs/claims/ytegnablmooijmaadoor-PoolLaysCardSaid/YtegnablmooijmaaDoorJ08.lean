/- JOINED TEXTS: AbsV, AbsW. -/
import Derived.Test.YtegnablmooijmaaDoorJ07
set_option linter.unusedSimpArgs false
set_option linter.unusedVariables false
section
/- THE CALCULUS: VIEWS OF OWN ROWS. -/
open Go
namespace Dem
section
variable {P : Program} {T : Nat → Option TI} {G : Nat → Option (List D)} {β : Nat → Nat} {bx : List Box} {w : World} {X : Nat → Prop}

theorem toD_zero {ok : Nat → Prop} {x : AV} {y : D} {u : Value} (h : x.toD [] = some y) (hx : RepA β bx w ok x u) : RepD w ok y u := by
  cases x with
  | d x => simp only [AV.toD, Option.some.injEq] at h; subst h; simpa [RepA] using hx
  | cl es =>
    simp only [AV.toD, Option.some.injEq] at h; subst h
    simp only [RepA] at hx
    obtain ⟨base, rfl, g⟩ := hx
    simp only [RepD]; exact ⟨base, _, rfl, Nat.le_refl _, g⟩
  | ow b sz n => simp [AV.toD] at h
  | fn f cs =>
    cases cs with
    | nil =>
      simp only [AV.toD, Option.some.injEq] at h; subst h
      simp only [RepA, RepAs] at hx
      obtain ⟨vs, rfl, rfl⟩ := hx
      simp [RepD]
    | cons c cs => simp [AV.toD] at h
  | _ => simp [AV.toD] at h

theorem toDs_zero {ok : Nat → Prop} : ∀ {xs : List AV} {ys : List D} {us : List Value}, toDs [] xs = some ys → RepAs β bx w ok xs us → RepAs β bx w ok (ys.map .d) us
  | [], ys, us, h, hx => by simp [toDs] at h; subst h; simpa using hx
  | x :: xs, ys, us, h, hx => by
    simp only [toDs] at h
    split at h
    · rename_i y ys' h1 h2
      simp only [Option.some.injEq] at h; subst h
      simp only [RepAs] at hx
      obtain ⟨u, us', rfl, g1, g2⟩ := hx
      simp only [List.map_cons, RepAs, RepA]
      exact ⟨u, us', rfl, toD_zero h1 g1, toDs_zero h2 g2⟩
    · simp at h

theorem zeroCells_list (zc : List Value) : ∀ n : Nat, (Builtin.zeroCells ⟨zc⟩ n).toList = (List.replicate n zc).flatten
  | 0 => by simp [Builtin.zeroCells]
  | n + 1 => by
    have ih := zeroCells_list zc n
    rw [List.replicate_succ', List.flatten_append, ← ih]
    simp only [Builtin.zeroCells, Array.toList_map, Array.toList_range]
    have hs : (⟨zc⟩ : Array Value).size = zc.length := rfl
    rw [hs, Nat.add_mul, Nat.one_mul, List.range_add, List.map_append]
    congr 1
    apply List.ext_getElem?
    intro i
    simp only [List.map_map, List.getElem?_map, List.flatten_cons, List.flatten_nil, List.append_nil]
    by_cases hi : i < zc.length
    · have hr : (List.range zc.length)[i]? = some i := by rw [List.getElem?_range hi]
      rw [hr]
      simp only [Option.map_some, Function.comp]
      rw [Nat.mul_add_mod_self_right, Nat.mod_eq_of_lt hi]
      simp [hi]
    · simp [List.getElem?_eq_none (Nat.le_of_not_lt hi)]
      omega

/-- rows of zeros -/
theorem zero_rows (hT : TOk P T) {e : Nat} {te : TI} (hte : T e = some te) {z : List D} (hz : zeroRow te = some z) (hok : zeroOk te = true) {ok : Nat → Prop} :
    ∃ (ei : TypeInfo) (zv : Value) (zc : List Value), P.info? e = some ei ∧ ei.zero = some zv ∧ zv.cells = ⟨zc⟩ ∧ zc.length = ei.size ∧ z.length = te.size ∧ (∀ u ∈ zc, scV u) ∧
      ∀ n, RepAs β bx w ok ((List.replicate n z).flatten.map .d) (Builtin.zeroCells ⟨zc⟩ n).toList := by
  obtain ⟨ei, ed, g1, g2, g3, g4, g5, g6⟩ := tiOf_inv (hT.ti _ _ hte)
  obtain ⟨za, hz1, hz2, hz3, hz4⟩ := zeroOk_inv hok
  simp only [zeroRow, hz1] at hz
  obtain ⟨zv, zc, k1, k2, k3, k4⟩ := zero_of (β := β) (bx := bx) (w := w) (ok := ok) (hT.ti _ _ hte) hz1
  have hzl : zc.length = ei.size := by rw [RepAs.length k3, hz2, g3]
  have hzz : ei.zero = some zv := by
    cases hq : ei.zero with
    | none => rw [g6, hq] at hz1; simp [AV.cells?] at hz1
    | some q => have := run_zero (P := P) (w := w) g1 hq; rw [k1] at this; simp at this; rw [this]
  have hrep := toDs_zero hz k3
  refine ⟨ei, zv, zc, g1, hzz, k2, hzl, ?_, k4, ?_⟩
  · have := RepAs.length hrep
    simp at this; omega
  · intro n
    rw [zeroCells_list]
    induction n with
    | zero => simp [RepAs]
    | succ n ih =>
      simp only [List.replicate_succ, List.flatten_cons, List.map_append]
      exact RepAs.append hrep ih

theorem flatten_takeU {sz : Nat} : ∀ (n : Nat) (es : List (List D)), (∀ r ∈ es, r.length = sz) → es.flatten.take (n * sz) = (es.take n).flatten
  | 0, es, _ => by simp
  | n + 1, [], _ => by simp
  | n + 1, r :: rs, h => by
    have hr : r.length = sz := h r (by simp)
    have ih := flatten_takeU n rs (fun x hx => h x (by simp [hx]))
    simp only [List.flatten_cons, List.take_succ_cons]
    rw [show (n + 1) * sz = r.length + n * sz by rw [hr, Nat.add_mul]; omega, List.take_length_add_append, ih]

theorem flatten_dropU {sz : Nat} : ∀ (n : Nat) (es : List (List D)), (∀ r ∈ es, r.length = sz) → es.flatten.drop (n * sz) = (es.drop n).flatten
  | 0, es, _ => by simp
  | n + 1, [], _ => by simp
  | n + 1, r :: rs, h => by
    have hr : r.length = sz := h r (by simp)
    have ih := flatten_dropU n rs (fun x hx => h x (by simp [hx]))
    simp only [List.flatten_cons, List.drop_succ_cons]
    rw [show (n + 1) * sz = r.length + n * sz by rw [hr, Nat.add_mul]; omega, List.drop_length_add_append, ih]

/-- rows written into an own row's block -/
theorem wrote_row (cx : Ctx G β bx w X) {b size off : Nat} {es xs : List (List D)} {c : Array Value} {e : TypeId} {us : List Value} (hb : bx[b]? = some (.row size es)) (hne : es ≠ [])
    (hh : w.heap[β b]? = some (.cells c e (0, 0))) (ho : off ≤ es.length) (hl : ∀ r ∈ xs, r.length = size) (hu : RepAs β bx w (okp β bx w X) (xs.flatten.map .d) us) (hus : us.length = xs.length * size)
    (hfit : (off + xs.length) * size ≤ c.size) :
    Ext β bx w β (bx.set b (.row size (wrote es off xs))) (setBlk w (β b) (.cells ⟨spliceV c.toList (off * size) us⟩ e (0, 0))) ∧
      Ctx G β (bx.set b (.row size (wrote es off xs))) (setBlk w (β b) (.cells ⟨spliceV c.toList (off * size) us⟩ e (0, 0))) X := by
  have hlive : (Box.row size es).live = true := by cases es <;> simp_all [Box.live]
  have hsz : (⟨spliceV c.toList (off * size) us⟩ : Array Value).size = c.size := by simp [spliceV_length]
  have ex := ext_setbox (B' := .row size (wrote es off xs)) (c' := ⟨spliceV c.toList (off * size) us⟩) hb hlive hh hsz rfl
  refine ⟨ex, ctx_setbox cx hb hlive hh hsz rfl (.inr ⟨_, e, setBlk_here hh, ?_⟩)⟩
  rcases cx.box _ _ hb with h0 | ⟨c2, e2, j1, j2⟩
  · exact absurd h0 hne
  rw [hh] at j1
  simp only [Option.some.injEq, Obj.cells.injEq] at j1
  obtain ⟨rfl, rfl, _⟩ := j1
  have hlens := RepRows.lens _ _ j2
  obtain ⟨vs0, v1, v2, v3⟩ := rows_cells (β := β) (bx := bx) es 0 j2
  obtain ⟨rest, hrest⟩ := cells_prefix hh v2
  have hcs : c.size = vs0.length + rest.length := by have := congrArg List.length hrest; simpa using this
  have hoff : off * size ≤ vs0.length := by rw [v1]; exact Nat.mul_le_mul_right _ ho
  rw [Nat.add_mul] at hfit
  have hsp : spliceV c.toList (off * size) us = vs0.take (off * size) ++ us ++ vs0.drop (off * size + us.length) ++ rest.drop (off * size + us.length - vs0.length) := by
    rw [spliceV_eq _ _ _ (by simp; omega), hrest, List.take_append_of_le_length hoff, List.drop_append]
    simp [List.append_assoc]
  have hrep : RepAs β bx w (okp β bx w X) ((wrote es off xs).flatten.map .d) (vs0.take (off * size) ++ us ++ vs0.drop (off * size + us.length)) := by
    unfold wrote
    rw [List.flatten_append, List.flatten_append, List.map_append, List.map_append]
    refine RepAs.append (RepAs.append ?_ hu) ?_
    · rw [← flatten_takeU off es hlens, List.map_take]; exact RepAs.take _ v3
    · rw [← flatten_dropU _ es hlens, List.map_drop, Nat.add_mul, ← hus]; exact RepAs.drop _ v3
  refine rows_of (β := β) (bx := bx.set b (.row size (wrote es off xs))) _ 0 _ ?_ ?_ (RepAs.mono (ex.lasts X) _ _ hrep)
  · intro r hr
    unfold wrote at hr
    rcases List.mem_append.1 hr with hr | hr
    · rcases List.mem_append.1 hr with hr | hr
      · exact hlens r (List.mem_of_mem_take hr)
      · exact hl r hr
    · exact hlens r (List.mem_of_mem_drop hr)
  · intro k u hk
    have hk' : k < (vs0.take (off * size) ++ us ++ vs0.drop (off * size + us.length)).length := by
      rcases Nat.lt_or_ge k (vs0.take (off * size) ++ us ++ vs0.drop (off * size + us.length)).length with h | h
      · exact h
      · rw [List.getElem?_eq_none h] at hk; simp at hk
    simp only [World.cell?, setBlk_here hh, Nat.zero_add]
    have : (spliceV c.toList (off * size) us)[k]? = some u := by
      rw [hsp, List.getElem?_append_left hk']; exact hk
    simpa using this

theorem elemOf_inv {t : Nat} {te : TI} (h : elemOf T t = some te) : ∃ ti e, T t = some ti ∧ ti.kd = .slice e ∧ T e = some te := by
  unfold elemOf at h
  split at h
  · rename_i ti ht
    split at h
    · rename_i e hk; exact ⟨ti, e, ht, hk, h⟩
    · simp at h
  · simp at h

theorem slice_und (hT : TOk P T) {t e : Nat} {ti : TI} (ht : T t = some ti) (hk : ti.kd = .slice e) : P.underlying t = some (.slice e) := by
  obtain ⟨i, d, h1, h2, h3, h4, h5, h6⟩ := tiOf_inv (hT.ti _ _ ht)
  rw [hk] at h5
  cases d <;> simp [kdOf] at h5
  subst h5; exact h2

/-- where a view, or an own row, lies -/
theorem viewAt_rep {ok : Nat → Prop} {x : AV} {b sz off n c : Nat} {ex : Bool} {u : Value} (hx : viewAt x = some (b, sz, off, n, c, ex)) (h : RepA β bx w ok x u) :
    ∃ base cap, u = .slice base n cap ∧ n ≤ cap ∧ (cap = 0 ∨ base = some ⟨β b, off * sz, none⟩ ∧ ∃ cs e f, w.heap[β b]? = some (.cells cs e f) ∧ (off + cap) * sz ≤ cs.size) := by
  cases x with
  | vw b' sz' off' n' c' ex' =>
    simp only [viewAt, Option.some.injEq, Prod.mk.injEq] at hx
    obtain ⟨rfl, rfl, rfl, rfl, rfl, rfl⟩ := hx
    simp only [RepA] at h
    obtain ⟨_, base, cap, cs, e, f, rfl, h1, _, _, h4⟩ := h
    exact ⟨base, cap, rfl, h1, h4.imp id fun ⟨k1, k2, k3⟩ => ⟨k1, cs, e, f, k2, k3⟩⟩
  | ow b' sz' n' =>
    simp only [viewAt, Option.some.injEq, Prod.mk.injEq] at hx
    obtain ⟨rfl, rfl, rfl, rfl, rfl, rfl⟩ := hx
    simp only [RepA] at h
    obtain ⟨_, ⟨rfl, base, rfl⟩ | ⟨h0, cap, cs, e, f, rfl, h1, h2, h3⟩⟩ := h
    · exact ⟨base, 0, rfl, Nat.le_refl _, .inl rfl⟩
    · exact ⟨_, cap, rfl, h1, .inr ⟨by simp, cs, e, f, h2, by simpa using h3⟩⟩
  | _ => simp [viewAt] at hx

/-- rows of whatever is copied: its beginning -/
theorem rows_base (cx : Ctx G β bx w X) {y : AV} {uy : Value} {xs : List (List D)} (hx : RepA β bx w (okp β bx w X) y uy) (hrows : y.rows bx = some xs) :
    ∃ base cap, uy = .slice base xs.length cap ∧ (xs = [] ∨ ∃ blk off sz, base = some ⟨blk, off, none⟩ ∧ RepRows w (okp β bx w X) blk sz xs off) := by
  by_cases how : ∃ b sz n, y = .ow b sz n
  · obtain ⟨b, sz, n, rfl⟩ := how
    obtain ⟨hn, base, cap, rfl, h1, h2⟩ := ow_rows cx hrows hx
    refine ⟨base, cap, rfl, ?_⟩
    rcases h2 with ⟨h2, _⟩ | ⟨_, rfl, h2, _⟩
    · exact .inl h2
    · exact .inr ⟨β b, 0, sz, rfl, h2⟩
  · cases hv : y.isVw with
    | true =>
      cases y with
      | vw b sz off n c ex =>
        simp only [AV.rows] at hrows
        split at hrows
        · rename_i s es' hb
          obtain ⟨rfl, hle, rfl⟩ := beqle hrows
          obtain ⟨base, cap, rfl, h1, h2⟩ := vw_part (okk := okp β bx w X) hle ((cx.box b _ hb).imp id fun ⟨_, _, _, g⟩ => g) hx
          exact ⟨base, cap, rfl, h2.imp id fun ⟨a, c⟩ => ⟨β b, off * s, s, a, c⟩⟩
        · rename_i s es' hb
          obtain ⟨rfl, hle, rfl⟩ := beqle hrows
          obtain ⟨base, cap, rfl, h1, h2⟩ := vw_part (okk := okp β bx w X) hle ((cx.box b _ hb).imp id fun ⟨_, g⟩ => g) hx
          exact ⟨base, cap, rfl, h2.imp id fun ⟨a, c⟩ => ⟨β b, off * s, s, a, c⟩⟩
        · simp at hrows
      | _ => simp [AV.isVw] at hv
    | false =>
      obtain ⟨base, cap, rfl, h1, h2⟩ := rows_imm (fun b sz n e => how ⟨b, sz, n, e⟩) hv hrows hx
      exact ⟨base, cap, rfl, h2.imp id fun ⟨blk, off, sz, a, _, c⟩ => ⟨blk, off, sz, a, c⟩⟩

/-- where the first row is of a size, all are -/
theorem lens_of {ok : Nat → Prop} {base : Option Addr} {zs : List (List D)} {k size : Nat} (h : zs = [] ∨ ∃ blk off sz, base = some ⟨blk, off, none⟩ ∧ RepRows w ok blk sz zs off) (hs : ∀ r ∈ zs.take k, r.length = size) (hk : 0 < k) : ∀ r ∈ zs, r.length = size := by
  rcases h with rfl | ⟨blk, off, sz, _, hr⟩
  · simp
  · cases zs with
    | nil => simp
    | cons z zs =>
      have hl := RepRows.lens _ _ hr
      have h1 : z.length = size := hs z (by cases k with | zero => omega | succ k => simp)
      have h2 := hl z (by simp)
      intro r hr'
      rw [hl r hr', ← h2, h1]

/-- the beginning of what a view reads as -/
theorem vw_begin {b sz off n c m : Nat} {ex : Bool} {es0 : List (List D)} {okk : Nat → Prop} {u : Value} {ok : Nat → Prop} (hm : m ≤ n) (hn : off + m ≤ es0.length) (hrows : es0 = [] ∨ RepRows w okk (β b) sz es0 0) (h : RepA β bx w ok (.vw b sz off n c ex) u) :
    ∃ base cap, u = .slice base n cap ∧ ((es0.drop off).take m = [] ∨ base = some ⟨β b, off * sz, none⟩ ∧ RepRows w okk (β b) sz ((es0.drop off).take m) (off * sz)) := by
  simp only [RepA] at h
  obtain ⟨_, base, cap, cs, e, f, rfl, h1, h2, h3, h4⟩ := h
  refine ⟨base, cap, rfl, ?_⟩
  by_cases hn0 : m = 0
  · subst hn0; exact .inl (by simp)
  · right
    rcases h4 with h4 | ⟨h4, _⟩
    · omega
    · refine ⟨h4, ?_⟩
      rcases hrows with rfl | hrows
      · simp at hn; omega
      · have := RepRows.takeL m _ _ (RepRows.dropL off _ _ hrows)
        simpa using this

theorem rowsX_begin (cx : Ctx G β bx w X) {size : Nat} {x : AV} {ux : Value} {xs : List (List D)} (hx : RepA β bx w (okp β bx w X) x ux) (hr : rowsX size x bx = some xs) (hs : ∀ r ∈ xs, r.length = size) {m : Nat} (hm : m ≤ xs.length) :
    ∃ us, (Builtin.lenOf ux).run P w = .ok xs.length w ∧ us.length = m * size ∧ (Builtin.firstCells size m ux).run P w = .ok ⟨us⟩ w ∧ RepAs β bx w (okp β bx w X) ((xs.take m).flatten.map .d) us := by
  have slc : x.rows bx = some xs → ∃ us, (Builtin.lenOf ux).run P w = .ok xs.length w ∧ us.length = m * size ∧ (Builtin.firstCells size m ux).run P w = .ok ⟨us⟩ w ∧ RepAs β bx w (okp β bx w X) ((xs.take m).flatten.map .d) us := by
    intro hrows
    obtain ⟨base, cap, rfl, h2⟩ := rows_base cx hx hrows
    have hml : (xs.take m).length = m := by simp; omega
    have h2' : xs.take m = [] ∨ ∃ blk off sz, base = some ⟨blk, off, none⟩ ∧ RepRows w (okp β bx w X) blk sz (xs.take m) off := by
      rcases h2 with rfl | ⟨blk, off, sz, h3, h4⟩
      · left; simp
      · exact .inr ⟨blk, off, sz, h3, RepRows.take _ _ _ h4⟩
    obtain ⟨us, f1, f2⟩ := firsts_slice (P := P) (β := β) (bx := bx) (cap := cap) (base := base) (es := xs.take m) (ok := okp β bx w X) (size := size) (fun r hr => hs r (List.mem_of_mem_take hr)) h2'
    rw [hml] at f1
    have := (f1.2.2 w (fun _ _ => rfl)).2
    refine ⟨us, lenOf_rows, f1.2.1, ?_, f2⟩
    cases base <;> exact this
  cases x with
  | d y =>
    cases y with
    | str s =>
      simp only [rowsX] at hr
      cases hb : Nat.beq size 1 with
      | false => simp [hb] at hr
      | true =>
        have := Nat.eq_of_beq_eq_true hb
        subst this
        simp only [hb, cond_true, Option.some.injEq] at hr
        subst hr
        simp only [RepA, RepD] at hx; subst hx
        simp only [List.length_map] at hm ⊢
        obtain ⟨us, f1, f2⟩ := firsts_string (P := P) (β := β) (bx := bx) (w := w) (X := X) (s.take m)
        have hml : (s.take m).length = m := by simp; omega
        rw [hml] at f1
        have h3 := (f1.2.2 w (fun _ _ => rfl)).2
        refine ⟨us, by simp [Builtin.lenOf, ByteArray.size], f1.2.1, ?_, by simpa [List.map_take] using f2⟩
        have e1 : (⟨s.toArray⟩ : ByteArray).extract 0 m = (⟨(s.take m).toArray⟩ : ByteArray).extract 0 m := by
          rw [Lib.extract_eq, Lib.extract_eq]; simp [List.take_take]
        have e2 : Builtin.firstCells 1 m (.string ⟨s.toArray⟩) = Builtin.firstCells 1 m (.string ⟨(s.take m).toArray⟩) := by
          simp only [Builtin.firstCells, e1]
        rw [e2]; exact h3
    | _ => exact slc hr
  | _ => exact slc hr

theorem copySrc_run (cx : Ctx G β bx w X) {size n m : Nat} {y : AV} {uy : Value} {cy : Prop} {xs : List (List D)} (hx : RepA β bx w (okp β bx w X) y uy) (hr : copySrc size y n bx = some (cy, m, xs)) (hc : cy) (hs : ∀ r ∈ xs, r.length = size) :
    ∃ us l, (Builtin.lenOf uy).run P w = .ok l w ∧ Nat.min l n = m ∧ xs.length = m ∧ us.length = m * size ∧ (Builtin.firstCells size m uy).run P w = .ok ⟨us⟩ w ∧ RepAs β bx w (okp β bx w X) (xs.flatten.map .d) us := by
  have gen : y.isVw = false → (match rowsX size y bx with
    | some xs => some (True, min xs.length n, xs.take (min xs.length n))
    | none => none) = some (cy, m, xs) → ∃ us l, (Builtin.lenOf uy).run P w = .ok l w ∧ Nat.min l n = m ∧ xs.length = m ∧ us.length = m * size ∧ (Builtin.firstCells size m uy).run P w = .ok ⟨us⟩ w ∧ RepAs β bx w (okp β bx w X) (xs.flatten.map .d) us := by
    intro hv hr
    have hs0 : ∀ zs, rowsX size y bx = some zs → ∃ us l, (Builtin.lenOf uy).run P w = .ok l w ∧ Nat.min l n = m ∧ xs.length = m ∧ us.length = m * size ∧ (Builtin.firstCells size m uy).run P w = .ok ⟨us⟩ w ∧ RepAs β bx w (okp β bx w X) (xs.flatten.map .d) us := by
      intro zs hzs
      simp only [hzs, Option.some.injEq, Prod.mk.injEq] at hr
      obtain ⟨_, rfl, rfl⟩ := hr
      have hml : (zs.take (min zs.length n)).length = min zs.length n := by simp
      by_cases hm0 : min zs.length n = 0
      · -- nothing is read
        rw [hm0]
        have hl : ∃ l, (Builtin.lenOf uy).run P w = .ok l w ∧ l = zs.length ∧ (Builtin.firstCells size 0 uy).run P w = .ok ⟨[]⟩ w := by
          cases y with
          | d q =>
            cases q with
            | str s =>
              simp only [RepA, RepD] at hx; subst hx
              simp only [rowsX] at hzs
              cases hb : Nat.beq size 1 with
              | false => simp [hb] at hzs
              | true =>
                simp only [hb, cond_true, Option.some.injEq] at hzs
                subst hzs
                refine ⟨s.length, by simp [Builtin.lenOf, ByteArray.size], by simp, ?_⟩
                have e : (⟨s.toArray⟩ : ByteArray).extract 0 0 = ⟨#[]⟩ := by rw [Lib.extract_eq]; simp
                simp [Builtin.firstCells, e]
            | _ =>
              obtain ⟨base, cap, rfl, _⟩ := rows_base cx hx hzs
              exact ⟨_, lenOf_rows, rfl, by cases base <;> simp [Builtin.firstCells, loadCells, loadCellsFrom]⟩
          | _ =>
            obtain ⟨base, cap, rfl, _⟩ := rows_base cx hx hzs
            exact ⟨_, lenOf_rows, rfl, by cases base <;> simp [Builtin.firstCells, loadCells, loadCellsFrom]⟩
        obtain ⟨l, h1, rfl, h2⟩ := hl
        exact ⟨[], _, h1, hm0, by simp, by simp, h2, by simp [RepAs]⟩
      · -- some of it is read: its rows are of that size
        have hall : ∀ r ∈ zs, r.length = size := by
          cases y with
          | d q =>
            cases q with
            | str s =>
              simp only [rowsX] at hzs
              cases hb : Nat.beq size 1 with
              | false => simp [hb] at hzs
              | true =>
                have := Nat.eq_of_beq_eq_true hb
                simp only [hb, cond_true, Option.some.injEq] at hzs
                subst hzs
                intro r hr
                obtain ⟨b, _, rfl⟩ := List.mem_map.1 hr
                simp [byteRow, this]
            | _ =>
              obtain ⟨base, cap, rfl, h2⟩ := rows_base cx hx hzs
              exact lens_of h2 hs (by omega)
          | _ =>
            obtain ⟨base, cap, rfl, h2⟩ := rows_base cx hx hzs
            exact lens_of h2 hs (by omega)
        obtain ⟨us, k1, k2, k3, k4⟩ := rowsX_begin (P := P) cx hx hzs hall (m := min zs.length n) (by omega)
        exact ⟨us, _, k1, rfl, hml, k2, k3, k4⟩
    cases hz : rowsX size y bx with
    | none => simp [hz] at hr
    | some zs => exact hs0 zs hz
  have vw : ∀ (b sz off n2 c : Nat) (ex : Bool) (s : Nat) (es : List (List D)) (okk : Nat → Prop), y = .vw b sz off n2 c ex → (es = [] ∨ RepRows w (okp β bx w X) (β b) s es 0) → (bif Nat.beq s sz then some (off + min n2 n ≤ es.length, min n2 n, (es.drop off).take (min n2 n)) else none) = some (cy, m, xs) →
      ∃ us l, (Builtin.lenOf uy).run P w = .ok l w ∧ Nat.min l n = m ∧ xs.length = m ∧ us.length = m * size ∧ (Builtin.firstCells size m uy).run P w = .ok ⟨us⟩ w ∧ RepAs β bx w (okp β bx w X) (xs.flatten.map .d) us := by
    intro b sz off n2 c ex s es okk hy hrows hq
    subst hy
    cases hsz : Nat.beq s sz with
    | false => simp [hsz] at hq
    | true =>
    have hsz' := Nat.eq_of_beq_eq_true hsz
    subst hsz'
    simp only [hsz, cond_true, Option.some.injEq, Prod.mk.injEq] at hq
    obtain ⟨rfl, rfl, rfl⟩ := hq
    obtain ⟨base, cap, rfl, h2⟩ := vw_begin (okk := okp β bx w X) (m := min n2 n) (by omega) hc hrows hx
    have hml : ((es.drop off).take (min n2 n)).length = min n2 n := by simp; omega
    obtain ⟨us, f1, f2⟩ := firsts_slice (P := P) (β := β) (bx := bx) (cap := cap) (base := base) (es := (es.drop off).take (min n2 n)) (ok := okp β bx w X) (size := size) hs (h2.imp id fun ⟨a, c⟩ => ⟨β b, off * s, s, a, c⟩)
    rw [hml] at f1
    have := (f1.2.2 w (fun _ _ => rfl)).2
    refine ⟨us, n2, lenOf_rows, rfl, hml, f1.2.1, ?_, f2⟩
    cases base <;> exact this
  unfold copySrc at hr
  split at hr
  · rename_i b sz off n2 c ex
    split at hr
    · rename_i s es hb
      exact vw b sz off n2 c ex s es (fun _ => True) rfl ((cx.box b _ hb).imp id fun ⟨_, _, _, g⟩ => g) hr
    · rename_i s es hb
      exact vw b sz off n2 c ex s es (fun _ => True) rfl ((cx.box b _ hb).imp id fun ⟨_, g⟩ => g) hr
    · simp at hr
  · rename_i hnv
    refine gen ?_ hr
    cases y <;> first | rfl | exact absurd rfl (hnv _ _ _ _ _ _)
end
end Dem
end
section
/- THE CALCULUS: WHAT IS DONE THROUGH VIEWS. -/
open Go
namespace Dem
section
variable {P : Program} {T : Nat → Option TI} {G : Nat → Option (List D)} {β : Nat → Nat} {bx : List Box} {w : World} {X : Nat → Prop}

theorem put_rows (cx : Ctx G β bx w X) {b sz k : Nat} {es xs : List (List D)} {us : List Value} (hb : bx[b]? = some (.row sz es)) (hne : es ≠ []) (hk : k ≤ es.length) (hl : ∀ r ∈ xs, r.length = sz)
    (hu : RepAs β bx w (okp β bx w X) (xs.flatten.map .d) us) (hus : us.length = xs.length * sz) {cs : Array Value} {e : TypeId} {f : Nat × Nat} (hh : w.heap[β b]? = some (.cells cs e f)) (hfit : (k + xs.length) * sz ≤ cs.size) :
    ∃ w', (storeCells ⟨β b, k * sz, none⟩ us 0).run P w = .ok () w' ∧ Ext β bx w β (bx.set b (.row sz (wrote es k xs))) w' ∧ Ctx G β (bx.set b (.row sz (wrote es k xs))) w' X := by
  have hh' : w.heap[β b]? = some (.cells cs e (0, 0)) := by
    rcases cx.box _ _ hb with h0 | ⟨c2, e2, j1, j2⟩
    · exact absurd h0 hne
    rw [hh] at j1
    simp only [Option.some.injEq, Obj.cells.injEq] at j1
    obtain ⟨rfl, rfl, rfl⟩ := j1
    exact hh
  have hf := hfit
  rw [Nat.add_mul] at hf
  have hrun := run_storeCells (P := P) (off := k * sz) us 0 w cs hh' (RepAs.sc (allSc_d _) hu) (by omega)
  simp only [Nat.add_zero] at hrun
  exact ⟨_, hrun, wrote_row cx hb hne hh' hk hl hu hus hfit⟩

theorem wrote_nil {es : List (List D)} {k : Nat} : wrote es k [] = es := by simp [wrote]

theorem set_self {b : Nat} {B : Box} (h : bx[b]? = some B) : bx.set b B = bx := by
  apply List.ext_getElem?
  intro i
  rw [List.getElem?_set]
  split
  · rename_i hi; subst hi
    split
    · exact h.symm
    · rename_i hlt; exact absurd (get_lt h) hlt
  · rfl

theorem copyR_done (hT : TOk P T) (cx : Ctx G β bx w X) {t e : Nat} {te : TI} (ht : P.underlying t = some (.slice e)) (hte : T e = some te) {x y : AV} {ux uy : Value} (hx : RepA β bx w (okp β bx w X) x ux) (hy : RepA β bx w (okp β bx w X) y uy)
    {c : Prop} {v : AV} {b : Option (List Box)} (hr : copyR te x y bx = some ⟨c, v, b⟩) (hc : c) (ats : List Nat) (ty : Nat) :
    ∃ r w', (Builtin.copy_ ⟨t :: ats⟩ ty ⟨[ux, uy]⟩).run P w = .ok r w' ∧ Ext β bx w β (orBx bx b) w' ∧ Ctx G β (orBx bx b) w' X ∧ RepA β (orBx bx b) w' (okp β (orBx bx b) w' X) v r := by
  obtain ⟨ei, ed, g1, g2, g3, g4, g5, g6⟩ := tiOf_inv (hT.ti _ _ hte)
  unfold copyR at hr
  split at hr
  · rename_i bb sz off n c0 ex0 hv
    split at hr
    · rename_i s es cy m xs hb hxs
      cases h1 : Nat.beq s sz with
      | false => simp [h1] at hr
      | true =>
      cases h2 : Nat.beq sz te.size with
      | false => simp [h1, h2] at hr
      | true =>
      have h1' := Nat.eq_of_beq_eq_true h1
      have h2' := Nat.eq_of_beq_eq_true h2
      subst h1' h2'
      simp only [h1, Bool.and_self, cond_true, Option.some.injEq, R.mk.injEq] at hr
      obtain ⟨rfl, rfl, rfl⟩ := hr
      obtain ⟨hcy, ⟨hoff, hemp⟩, hlen⟩ := hc
      obtain ⟨base, cap, rfl, hn, hcap⟩ := viewAt_rep hv hx
      obtain ⟨us, l, k1, hmn, hml, k2, k3, k4⟩ := copySrc_run (P := P) cx hy hxs hcy hlen
      have hmle : m ≤ n := by rw [← hmn]; exact Nat.min_le_right _ _
      rw [g3] at k3
      by_cases hm0 : m = 0
      · have hu0 : us = [] := by rw [hm0] at k2; simpa using k2
        subst hu0
        have hxs0 : xs = [] := by rw [hm0] at hml; simpa using hml
        have hw : bx.set bb (.row te.size (wrote es off xs)) = bx := by
          rw [hxs0, wrote_nil]; exact set_self hb
        refine ⟨.int .i64 (m : Nat), w, ?_, ?_, ?_, ?_⟩
        · cases base <;> simp [Builtin.copy_, run_und ht, run_size g1, k1, hmn, k3, storeCells, goInt]
        · simp only [orBx, hw]; exact Ext.refl _ _ _
        · simp only [orBx, hw]; exact cx
        · simp only [RepA, RepD]
      · have hne : es ≠ [] := fun h => hm0 (hemp h)
        rcases hcap with hcap | ⟨rfl, cs, ce, cf, j1, j2⟩
        · omega
        have hfit : (off + xs.length) * te.size ≤ cs.size := by
          rw [hml]; exact Nat.le_trans (Nat.mul_le_mul_right _ (by omega)) j2
        obtain ⟨w', r1, r2, r3⟩ := put_rows (P := P) cx hb hne hoff hlen k4 (by rw [hml]; exact k2) j1 hfit
        refine ⟨.int .i64 (m : Nat), w', ?_, r2, r3, by simp only [RepA, RepD]⟩
        simp [Builtin.copy_, run_und ht, run_size g1, k1, hmn, k3, r1, goInt]
    · simp at hr
  · simp at hr

theorem clearR_done (hT : TOk P T) (cx : Ctx G β bx w X) {t e : Nat} {te : TI} (ht : P.underlying t = some (.slice e)) (hte : T e = some te) {x : AV} {ux : Value} (hx : RepA β bx w (okp β bx w X) x ux)
    {c : Prop} {v : AV} {b : Option (List Box)} (hr : clearR te x bx = some ⟨c, v, b⟩) (hc : c) (ats : List Nat) (ty : Nat) :
    ∃ r w', (Builtin.clear_ ⟨t :: ats⟩ ty ⟨[ux]⟩).run P w = .ok r w' ∧ Ext β bx w β (orBx bx b) w' ∧ Ctx G β (orBx bx b) w' X ∧ RepA β (orBx bx b) w' (okp β (orBx bx b) w' X) v r := by
  unfold clearR at hr
  split at hr
  · rename_i bb sz off n c0 ex0 hv
    split at hr
    · rename_i s es z hb hz
      cases h1 : Nat.beq s sz with
      | false => simp [h1] at hr
      | true =>
      cases h2 : Nat.beq sz te.size with
      | false => simp [h1, h2] at hr
      | true =>
      cases h3 : zeroOk te with
      | false => simp [h1, h2, h3] at hr
      | true =>
      have h1' := Nat.eq_of_beq_eq_true h1
      have h2' := Nat.eq_of_beq_eq_true h2
      subst h1' h2'
      simp only [h1, h3, Bool.and_self, cond_true, Option.some.injEq, R.mk.injEq] at hr
      obtain ⟨rfl, rfl, rfl⟩ := hr
      obtain ⟨hoff, hemp⟩ := hc
      obtain ⟨base, cap, rfl, hn, hcap⟩ := viewAt_rep hv hx
      obtain ⟨ei, zv, zc, g1, g2, g3, g4, g5, g6, g7⟩ := zero_rows (P := P) (β := β) (bx := bx) (w := w) hT hte hz h3 (ok := okp β bx w X)
      by_cases hm0 : n = 0
      · subst hm0
        have hw : bx.set bb (.row te.size (wrote es off (List.replicate 0 z))) = bx := by
          rw [List.replicate_zero, wrote_nil]; exact set_self hb
        refine ⟨.tuple #[], w, ?_, ?_, ?_, ?_⟩
        · cases base <;> simp [Builtin.clear_, run_und ht]
        · simp only [orBx, hw]; exact Ext.refl _ _ _
        · simp only [orBx, hw]; exact cx
        · simp only [RepA]; exact ⟨[], rfl, by simp [RepAs]⟩
      · have hne : es ≠ [] := fun h => hm0 (hemp h)
        rcases hcap with hcap | ⟨rfl, cs, ce, cf, j1, j2⟩
        · omega
        have hfit : (off + (List.replicate n z).length) * te.size ≤ cs.size := by
          rw [List.length_replicate]; exact Nat.le_trans (Nat.mul_le_mul_right _ (by omega)) j2
        have hzl : (Builtin.zeroCells ⟨zc⟩ n).toList.length = (List.replicate n z).length * te.size := by
          have := RepAs.length (g7 n)
          rw [this]
          simp [g5]
        obtain ⟨w', r1, r2, r3⟩ := put_rows (P := P) cx hb hne hoff (fun r hr => by rw [List.eq_of_mem_replicate hr]; exact g5) (g7 n) hzl j1 hfit
        refine ⟨.tuple #[], w', ?_, r2, r3, by simp only [RepA]; exact ⟨[], rfl, by simp [RepAs]⟩⟩
        obtain ⟨n', rfl⟩ : ∃ n', n = n' + 1 := ⟨n - 1, by omega⟩
        simp [Builtin.clear_, run_und ht, run_zero g1 g2, g3, r1]
    · simp at hr
  · simp at hr

theorem i64_in' (n : Int) (h : -9223372036854775808 ≤ n ∧ n ≤ 9223372036854775807) : IntKind.i64.wrap n = n := by
  simp [IntKind.wrap, IntKind.signed, IntKind.bits]; omega

/-- an append of zeros that has to make a new array -/
theorem append_zeros {t u e sLen sCap : Nat} {m : Int} {k : IntKind} {base : Option Addr} {olds zc : List Value} {ei : TypeInfo} {zv : Value}
    (ht : P.underlying t = some (.slice e)) (hu : P.underlying u = some (.int k)) (hi : P.info? e = some ei) (hz : ei.zero = some zv) (hzc : zv.cells = ⟨zc⟩) (hzl : zc.length = ei.size)
    (hs : FirstsOk P w ei.size sLen (.slice base sLen sCap) olds) (hm : 0 ≤ m) (hsl : sLen ≤ sCap) (hsz : 0 < ei.size)
    (hcap : sCap < sLen + m.toNat) (hb0 : 0 < ei.bytes) (hb : (sLen + m.toNat) * ei.bytes ≤ 140737488355328) (ty : Nat) :
    ∃ cap rest, sLen + m.toNat ≤ cap ∧ (cap * ei.size = m.toNat * ei.size + olds.length + rest) ∧ ∃ zs : List Value, zs.length = rest ∧
      (Builtin.append_ #[t, u] ty #[.slice base sLen sCap, .int .i64 m]).run P w = .ok (.slice (some ⟨w.heap.size, 0, none⟩) (sLen + m.toNat) cap)
        { w with drawn := w.drawn + 1, heap := w.heap.push (.cells ⟨olds ++ (Builtin.zeroCells ⟨zc⟩ m.toNat).toList ++ zs⟩ e) } := by
  obtain ⟨cap, hcapdef⟩ : ∃ cap, cap = (Question.appendCap (sLen + m.toNat) sCap e).cut (w.tape w.drawn (Question.appendCap (sLen + m.toNat) sCap e)) := ⟨_, rfl⟩
  have hcap2 : sLen + m.toNat ≤ cap := by rw [hcapdef]; simp only [Question.cut]; omega
  refine ⟨cap, (cap - (sLen + m.toNat)) * ei.size, hcap2, ?_, (Builtin.zeroCells ⟨zc⟩ (cap - (sLen + m.toNat))).toList, by simp [Builtin.zeroCells, hzl], ?_⟩
  · rw [hs.2.1]
    have : cap = sLen + m.toNat + (cap - (sLen + m.toNat)) := by omega
    conv => lhs; rw [this]
    simp only [Nat.add_mul]; omega
  · have hnc := nextcap_fits hcap hb
    have hnc' : ¬ (281474976710656 < Builtin.nextslicecap (sLen + m.toNat) sCap * ei.bytes) := by omega
    have hbne : ei.bytes ≠ 0 := by omega
    have hn : ¬ (sLen + m.toNat ≤ sCap) := by omega
    have h1 := (hs.2.2 w.drew (fun _ _ => rfl)).2
    have hle : (sLen + m.toNat) * 1 ≤ (sLen + m.toNat) * ei.bytes := Nat.mul_le_mul_left _ hb0
    have hw : IntKind.i64.wrap m = m := i64_in' m (by omega)
    have hl0 : ¬ m < 0 := by omega
    have hmb : m.toNat * ei.bytes ≤ (sLen + m.toNat) * ei.bytes := Nat.mul_le_mul_right _ (by omega)
    have hl1 : ¬ (281474976710656 : Int) < m * (ei.bytes : Int) := by
      have : m * (ei.bytes : Int) = ((m.toNat * ei.bytes : Nat) : Int) := by rw [Int.natCast_mul, Int.toNat_of_nonneg hm]
      omega
    have hz0 : ¬ (m.toNat = 0 ∨ ei.size = 0) := by omega
    have hmx : IntKind.i64.max = 9223372036854775807 := by decide
    have hbig : ¬ (IntKind.i64.max < ((sLen + m.toNat : Nat) : Int)) := by rw [hmx]; omega
    have hbig' : ¬ (9223372036854775807 < (sLen : Int) + max m 0) := by omega
    have hz0' : ¬ (m.toNat * ei.size = 0) := by rw [Nat.mul_eq_zero]; exact hz0
    simp [Builtin.append_, run_und ht, run_und hu, run_size hi, run_info hi, run_zero hi hz, asInt, asIntOf, hw, hl0, hl1, hn, hnc', hbne, hz0', hbig', Question.forced, h1, hzc, newRow, ← hcapdef]
    have e1 : (⟨olds⟩ ++ (Builtin.zeroCells ⟨zc⟩ m.toNat ++ Builtin.zeroCells ⟨zc⟩ (cap - (sLen + m.toNat))) : Array Value) = ⟨olds ++ ((Builtin.zeroCells ⟨zc⟩ m.toNat).toList ++ (Builtin.zeroCells ⟨zc⟩ (cap - (sLen + m.toNat))).toList)⟩ := by
      apply Array.ext'
      simp
    rw [e1]
    rfl
end
end Dem
end
