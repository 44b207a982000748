/- JOINED TEXTS: Abs3, Abs4. -/
import Derived.Test.YtegnablmooijmaaDoorJ02
set_option linter.unusedSimpArgs false
set_option linter.unusedVariables false
section
/- THE CALCULUS: EACH OPERATION DOES IN THE MODEL WHAT IT DOES HERE. -/
open Go
namespace Dem

structure TOk (P : Program) (T : Nat → Option TI) : Prop where
  ti : ∀ t ti, T t = some ti → tiOf P t = some ti
  fields : ∀ t ti fs, T t = some ti → ti.kd = .struct fs → ∀ f ∈ fs, ∃ tf, T f.2 = some tf
  deep : 8 ≤ P.depth

theorem tiOf_inv {P : Program} {t : Nat} {ti : TI} (h : tiOf P t = some ti) :
    ∃ i d, P.info? t = some i ∧ P.underlying t = some d ∧ ti.size = i.size ∧ ti.bytes = i.bytes ∧ ti.kd = kdOf d ∧ ti.zero = (match i.zero with | some z => absZ z | none => .any) := by
  unfold tiOf at h
  split at h
  · rename_i i d h1 h2
    simp at h; subst h
    exact ⟨i, d, h1, h2, rfl, rfl, rfl, rfl⟩
  · simp at h

theorem tiOf_eq {P : Program} {t : Nat} {ti : TI} (h : tiOf P t = some ti) {d : TypeDesc} (hd : P.underlying t = some d) : ti.eq = eqFit P t d := by
  unfold tiOf at h
  split at h
  · rename_i i d' h1 h2
    rw [hd] at h2
    simp at h; subst h
    simp only [Option.some.injEq] at h2; subst h2; rfl
  · simp at h

section
variable {P : Program} {w : World} {t : Nat}
theorem run_und {d : TypeDesc} (h : P.underlying t = some d) : (underlying t).run P w = .ok d w := by
  simp [underlying, program, Sem.run, h, Bind.bind, Sem.bind, Pure.pure]
theorem run_info {i : TypeInfo} (h : P.info? t = some i) : (typeInfo t).run P w = .ok i w := by
  simp [typeInfo, program, Sem.run, h, Bind.bind, Sem.bind, Pure.pure]
theorem run_size {i : TypeInfo} (h : P.info? t = some i) : (Go.sizeOf t).run P w = .ok i.size w := by
  simp [Go.sizeOf, run_info h]
theorem run_zero {i : TypeInfo} {z : Value} (h : P.info? t = some i) (hz : i.zero = some z) : (zeroValue t).run P w = .ok z w := by
  simp [zeroValue, run_info h, hz]
theorem run_isAgg {d : TypeDesc} (h : P.underlying t = some d) : (isAgg t).run P w = .ok (kdOf d).isAgg w := by
  simp [isAgg, run_und h]
  cases d <;> simp [kdOf, Kd.isAgg]
theorem run_load {a : Addr} {v : Value} (h : w.cell? a = some v) : (load a).run P w = .ok v w := by
  simp [load, Sem.run, h]
end

theorem addr_add (blk off n : Nat) : (⟨blk, off, none⟩ : Addr).add n = ⟨blk, off + n, none⟩ := by
  unfold Addr.add; split
  · simp_all
  · rfl

theorem run_loadCellsFrom {P : Program} {w : World} {blk off : Nat} : ∀ (vs : List Value) (i : Nat) (acc : Array Value), (∀ j v, vs[j]? = some v → w.cell? ⟨blk, off + i + j, none⟩ = some v) →
    (loadCellsFrom ⟨blk, off, none⟩ i vs.length acc).run P w = .ok (acc ++ vs.toArray) w
  | [], i, acc, _ => by simp [loadCellsFrom]
  | v :: vs, i, acc, h => by
    have h0 := h 0 v rfl
    simp only [List.length_cons, loadCellsFrom, addr_add, Sem.run_bind]
    rw [run_load (v := v) (by simpa using h0)]
    simp only [Result.andThen_ok]
    rw [run_loadCellsFrom vs (i + 1) (acc.push v) (fun j u hj => by have := h (j + 1) u (by simpa using hj); rwa [show off + i + (j + 1) = off + (i + 1) + j by omega] at this)]
    simp

theorem run_loadCells {P : Program} {w : World} {blk off : Nat} (vs : List Value) (h : ∀ j v, vs[j]? = some v → w.cell? ⟨blk, off + j, none⟩ = some v) :
    (loadCells ⟨blk, off, none⟩ vs.length).run P w = .ok vs.toArray w := by
  have := run_loadCellsFrom (P := P) vs 0 #[] (w := w) (blk := blk) (off := off) (by simpa using h)
  simpa [loadCells] using this

/-- what an operation's run must come to -/
def Done (G : Nat → Option (List D)) (β : Nat → Nat) (bx : List Box) (w : World) (X : Nat → Prop) (r : Result Next) (v : AV) (bx' : List Box) : Prop :=
  ∃ β' w', Ext β bx w β' bx' w' ∧ Ctx G β' bx' w' X ∧
    ((∃ u, r = .ok (.value u) w' ∧ RepA β' bx' w' (okp β' bx' w' X) v u) ∨ (r = .ok .skip w' ∧ v = .any))

section
variable {P : Program} {T : Nat → Option TI} {G : Nat → Option (List D)} {β : Nat → Nat} {bx : List Box} {w : World} {X : Nat → Prop}

theorem Done.pure {r : Result Next} {v : AV} {u : Value} (cx : Ctx G β bx w X) (hr : r = .ok (.value u) w) (h : RepA β bx w (okp β bx w X) v u) : Done G β bx w X r v bx :=
  ⟨β, w, Ext.refl _ _ _, cx, .inl ⟨u, hr, h⟩⟩

/-- cells that lie in the world from a place on, as values -/
theorem row_cells {ok : Nat → Prop} {blk : Nat} : ∀ (ds : List D) (off : Nat), RepRow w ok blk ds off → ∃ vs, vs.length = ds.length ∧ (∀ j v, vs[j]? = some v → w.cell? ⟨blk, off + j, none⟩ = some v) ∧
    RepAs β bx w ok (ds.map .d) vs
  | [], off, _ => ⟨[], rfl, by simp, by simp [RepAs]⟩
  | x :: xs, off, h => by
    simp only [RepRow] at h
    obtain ⟨⟨u, h1, h2⟩, h3⟩ := h
    obtain ⟨vs, g1, g2, g3⟩ := row_cells xs (off + 1) h3
    refine ⟨u :: vs, by simp [g1], ?_, ?_⟩
    · intro j v hj
      cases j with
      | zero => simp at hj; subst hj; simpa using h1
      | succ j => have := g2 j v (by simpa using hj); rwa [show off + (j + 1) = off + 1 + j by omega]
    · simp only [List.map_cons, RepAs, RepA]; exact ⟨u, vs, rfl, h2, g3⟩

theorem RepRow.drop {ok : Nat → Prop} {blk : Nat} : ∀ (n : Nat) (ds : List D) (off : Nat), RepRow w ok blk ds off → RepRow w ok blk (ds.drop n) (off + n)
  | 0, ds, off, h => by simpa using h
  | n + 1, [], off, h => by simp [RepRow]
  | n + 1, x :: xs, off, h => by
    simp only [RepRow] at h
    have := RepRow.drop n xs (off + 1) h.2
    simpa [show off + (n + 1) = off + 1 + n by omega] using this

theorem RepRow.take {ok : Nat → Prop} {blk : Nat} : ∀ (n : Nat) (ds : List D) (off : Nat), RepRow w ok blk ds off → RepRow w ok blk (ds.take n) off
  | 0, ds, off, h => by simp [RepRow]
  | n + 1, [], off, h => by simp [RepRow]
  | n + 1, x :: xs, off, h => by
    simp only [RepRow] at h
    simp only [List.take_succ_cons, RepRow]
    exact ⟨h.1, RepRow.take n xs _ h.2⟩

theorem RepRow.append {ok : Nat → Prop} {blk : Nat} : ∀ (xs ys : List D) (off : Nat), RepRow w ok blk (xs ++ ys) off ↔ RepRow w ok blk xs off ∧ RepRow w ok blk ys (off + xs.length)
  | [], ys, off => by simp [RepRow]
  | x :: xs, ys, off => by
    simp only [List.cons_append, RepRow, RepRow.append xs ys (off + 1), List.length_cons, and_assoc, show off + 1 + xs.length = off + (xs.length + 1) by omega]

theorem RepRows.get {ok : Nat → Prop} {blk sz : Nat} : ∀ (i : Nat) (es : List (List D)) (off : Nat), RepRows w ok blk sz es off → i < es.length → (es.getD i []).length = sz ∧ RepRow w ok blk (es.getD i []) (off + i * sz)
  | _, [], _, _, hi => by simp at hi
  | 0, r :: rs, off, h, _ => by simp only [RepRows] at h; simpa using ⟨h.1, h.2.1⟩
  | i + 1, r :: rs, off, h, hi => by
    simp only [RepRows] at h
    have := RepRows.get i rs (off + sz) h.2.2 (by simpa using hi)
    simpa [Nat.add_mul, show off + sz + i * sz = off + (i * sz + sz) by omega] using this

theorem splitA_run {ti : TI} {t : Nat} (ht : tiOf P t = some ti) {cs : List AV} {v : AV} {vs : List Value} {blk off : Nat} {ok : Nat → Prop}
    (hs : splitA ti.kd.isAgg ti.size cs = some v) (hr : RepAs β bx w ok cs vs) (hc : ∀ j v, vs[j]? = some v → w.cell? ⟨blk, off + j, none⟩ = some v) :
    ∃ u, (loadVar t ⟨blk, off, none⟩).run P w = .ok u w ∧ RepA β bx w ok v u := by
  obtain ⟨i, d, h1, h2, h3, h4, h5, h6⟩ := tiOf_inv ht
  unfold splitA at hs
  simp only [loadVar, Sem.run_bind, run_isAgg h2, Result.andThen_ok, h5] at hs ⊢
  cases hk : (kdOf d).isAgg with
  | true =>
    simp only [hk, cond_true] at hs
    cases hle : Nat.ble ti.size cs.length with
    | false => simp [hle] at hs
    | true =>
      simp only [hle, cond_true, Option.some.injEq] at hs
      subst hs
      have hlen := RepAs.length hr
      have hle' : ti.size ≤ cs.length := Nat.le_of_ble_eq_true hle
      have := run_loadCells (P := P) (w := w) (blk := blk) (off := off) (vs.take ti.size) (fun j v hj => by
        rw [List.getElem?_take] at hj
        split at hj
        · exact hc j v hj
        · simp at hj)
      rw [List.length_take, Nat.min_eq_left (by omega)] at this
      simp only [if_true, Sem.run_bind, run_size h1, Result.andThen_ok, ← h3, this]
      exact ⟨_, rfl, by simp only [RepA]; exact ⟨_, rfl, RepAs.take _ hr⟩⟩
  | false =>
    simp only [hk, cond_false] at hs
    cases cs with
    | nil => simp at hs
    | cons c cs =>
      simp at hs; subst hs
      simp only [RepAs] at hr
      obtain ⟨u, us, rfl, g1, _⟩ := hr
      have := hc 0 u rfl
      simp only [Bool.false_eq_true, if_false]
      exact ⟨u, run_load (by simpa using this), g1⟩

theorem loadR_done (hT : TOk P T) (cx : Ctx G β bx w X) {t : Nat} {ti : TI} (ht : T t = some ti) {a : AV} {u : Value} (ha : RepA β bx w (okp β bx w X) a u)
    {c : Prop} {v : AV} {b : Option (List Box)} (hr : loadR ti a bx = some ⟨c, v, b⟩) (hc : c) :
    b = none ∧ ∃ x, (Instr.loadAt t u).run P w = .ok x w ∧ RepA β bx w (okp β bx w X) v x := by
  have ht' := hT.ti t ti ht
  unfold loadR at hr
  split at hr
  · rename_i b' off
    simp only [RepA] at ha
    obtain ⟨rfl, hb⟩ := ha
    split at hr
    · rename_i cs hbx
      split at hr
      · rename_i v' hs
        simp only [R.pure, Option.some.injEq, R.mk.injEq] at hr
        obtain ⟨_, rfl, rfl⟩ := hr
        obtain ⟨ca, e, h1, h2⟩ := cx.box _ _ hbx
        have h3 := RepAs.drop off h2
        obtain ⟨x, g1, g2⟩ := splitA_run (P := P) (w := w) (blk := β b') (off := off) ht' hs h3 (fun j v hj => by
          rw [List.getElem?_drop] at hj
          simp only [World.cell?, h1]
          simpa using hj)
        exact ⟨rfl, x, by simpa [Instr.loadAt, Instr.sureAddr] using g1, g2⟩
      · simp at hr
    · simp at hr
  · rename_i ds
    simp only [RepA] at ha
    obtain ⟨blk, off, rfl, hb, hrow⟩ := ha
    split at hr
    · rename_i v' hs
      simp only [R.pure, Option.some.injEq, R.mk.injEq] at hr
      obtain ⟨_, rfl, rfl⟩ := hr
      obtain ⟨vs, g1, g2, g3⟩ := row_cells (β := β) (bx := bx) ds off hrow
      obtain ⟨x, k1, k2⟩ := splitA_run (P := P) (w := w) (blk := blk) (off := off) ht' hs g3 g2
      exact ⟨rfl, x, by simpa [Instr.loadAt, Instr.sureAddr] using k1, k2⟩
    · simp at hr
  · rename_i b' sz i j
    simp only [RepA] at ha
    obtain ⟨rfl, hb⟩ := ha
    have main : ∀ (s : Nat) (es : List (List D)), i < es.length → s = sz → RepRows w (okp β bx w X) (β b') s es 0 → ∀ v', splitA ti.kd.isAgg ti.size (List.map AV.d ((es.getD i []).drop j)) = some v' →
        ∃ x, (Instr.loadAt t (.pointer (some ⟨β b', i * sz + j, none⟩))).run P w = .ok x w ∧ RepA β bx w (okp β bx w X) v' x := by
      intro s es hi hs hrows v' hsp
      obtain ⟨_, hrow⟩ := RepRows.get i es 0 hrows hi
      have hrow := RepRow.drop j _ _ hrow
      obtain ⟨vs, g1, g2, g3⟩ := row_cells (β := β) (bx := bx) _ _ hrow
      subst hs
      obtain ⟨x, k1, k2⟩ := splitA_run (P := P) (w := w) (blk := β b') (off := 0 + i * s + j) ht' hsp g3 g2
      exact ⟨x, by simpa [Instr.loadAt, Instr.sureAddr] using k1, k2⟩
    split at hr
    · rename_i s es hbx
      split at hr
      · rename_i v' hsp
        simp only [Option.some.injEq, R.mk.injEq] at hr
        obtain ⟨rfl, rfl, rfl⟩ := hr
        rcases cx.box _ _ hbx with h | ⟨ca, e, h1, h2⟩
        · subst h; simp at hc
        · exact ⟨rfl, main s es hc.2 hc.1 h2 _ hsp⟩
      · simp at hr
    · rename_i s es hbx
      split at hr
      · rename_i v' hsp
        simp only [Option.some.injEq, R.mk.injEq] at hr
        obtain ⟨rfl, rfl, rfl⟩ := hr
        rcases cx.box _ _ hbx with h | ⟨h1, h2⟩
        · subst h; simp at hc
        · exact ⟨rfl, main s es hc.2 hc.1 h2 _ hsp⟩
      · simp at hr
    · simp at hr
  · simp at hr

/- stores -/
def scV : Value → Prop
  | .agg _ => False
  | .tuple _ => False
  | _ => True

theorem RepD.sc {ok : Nat → Prop} {x : D} {v : Value} (h : RepD w ok x v) : scV v := by
  cases x <;> simp only [RepD] at h
  · subst h; trivial
  · subst h; trivial
  · subst h; trivial
  · obtain ⟨_, _, rfl, _⟩ := h; trivial
  · subst h; trivial
  · obtain ⟨_, _, _, rfl, _⟩ := h; trivial

theorem RepA.sc {ok : Nat → Prop} {x : AV} {v : Value} (hx : x.sc = true) (h : RepA β bx w ok x v) : scV v := by
  cases x <;> simp only [AV.sc, Bool.false_eq_true] at hx <;> simp only [RepA] at h
  · exact RepD.sc h
  · rename_i c; subst h; cases c <;> trivial
  · obtain ⟨rfl, _⟩ := h; trivial
  · obtain ⟨rfl, _⟩ := h; trivial
  · obtain ⟨_, _, rfl, _⟩ := h; trivial
  · obtain ⟨_, h | h⟩ := h
    · obtain ⟨_, _, rfl⟩ := h; trivial
    · obtain ⟨_, _, _, _, _, rfl, _⟩ := h; trivial
  · obtain ⟨_, rfl, _⟩ := h; trivial
  · obtain ⟨_, rfl, _⟩ := h; trivial
  · obtain ⟨_, rfl, _⟩ := h; trivial
  · obtain ⟨rfl, _⟩ := h; trivial

theorem RepAs.sc {ok : Nat → Prop} : ∀ {xs : List AV} {vs : List Value}, allSc xs = true → RepAs β bx w ok xs vs → ∀ v ∈ vs, scV v
  | [], vs, _, h => by simp only [RepAs] at h; subst h; simp
  | x :: xs, vs, hx, h => by
    simp only [RepAs] at h
    obtain ⟨u, us, rfl, g1, g2⟩ := h
    cases hs : x.sc with
    | false => simp [allSc, hs] at hx
    | true =>
      simp only [allSc, hs, cond_true] at hx
      intro v hv
      rcases List.mem_cons.1 hv with rfl | hv
      · exact RepA.sc hs g1
      · exact RepAs.sc hx g2 v hv

/-- the cells of a value -/
theorem cells_of {ok : Nat → Prop} {x : AV} {v : Value} {cs : List AV} (hx : x.cells? = some cs) (h : RepA β bx w ok x v) :
    ∃ vs, v.cells = ⟨vs⟩ ∧ RepAs β bx w ok cs vs ∧ (∀ u ∈ vs, scV u) := by
  have one : ∀ (y : AV) (u : Value), y.sc = true → RepA β bx w ok y u → ∃ vs, u.cells = ⟨vs⟩ ∧ RepAs β bx w ok [y] vs ∧ (∀ u ∈ vs, scV u) := by
    intro y u hy hu
    have := RepA.sc hy hu
    refine ⟨[u], ?_, by simp only [RepAs]; exact ⟨u, [], rfl, hu, rfl⟩, by simpa using this⟩
    cases u <;> simp_all [Value.cells, scV]
  cases x with
  | any => simp [AV.cells?] at hx
  | vw _ _ _ _ _ _ => simp [AV.cells?] at hx
  | tup _ => simp [AV.cells?] at hx
  | cond _ _ => simp [AV.cells?] at hx
  | agg as =>
    simp only [AV.cells?] at hx
    cases ha : allSc as with
    | false => simp [ha] at hx
    | true =>
      simp only [ha, cond_true, Option.some.injEq] at hx
      subst hx
      simp only [RepA] at h
      obtain ⟨vs, rfl, g⟩ := h
      exact ⟨vs, rfl, g, RepAs.sc ha g⟩
  | d x => simp only [AV.cells?, Option.some.injEq] at hx; subst hx; exact one _ _ rfl h
  | k x => simp only [AV.cells?, Option.some.injEq] at hx; subst hx; exact one _ _ rfl h
  | ptr _ _ => simp only [AV.cells?, Option.some.injEq] at hx; subst hx; exact one _ _ rfl h
  | rp _ _ _ _ => simp only [AV.cells?, Option.some.injEq] at hx; subst hx; exact one _ _ rfl h
  | ep _ => simp only [AV.cells?, Option.some.injEq] at hx; subst hx; exact one _ _ rfl h
  | ow _ _ _ => simp only [AV.cells?, Option.some.injEq] at hx; subst hx; exact one _ _ rfl h
  | cl _ => simp only [AV.cells?, Option.some.injEq] at hx; subst hx; exact one _ _ rfl h
  | fn _ _ => simp only [AV.cells?, Option.some.injEq] at hx; subst hx; exact one _ _ rfl h
  | ifc _ _ => simp only [AV.cells?, Option.some.injEq] at hx; subst hx; exact one _ _ rfl h
  | mpb _ => simp only [AV.cells?, Option.some.injEq] at hx; subst hx; exact one _ _ rfl h

def setBlk (w : World) (blk : Nat) (o : Obj) : World := { w with heap := w.heap.setIfInBounds blk o }

theorem setBlk_get (w : World) (blk : Nat) (o : Obj) (k : Nat) : (setBlk w blk o).heap[k]? = if k = blk then (w.heap[k]?).map (fun _ => o) else w.heap[k]? := by
  show (w.heap.setIfInBounds blk o)[k]? = _
  rw [Array.getElem?_setIfInBounds]
  by_cases h : blk = k
  · subst h
    by_cases hk : blk < w.heap.size
    · simp [hk]
    · simp [hk]
  · simp [h, Ne.symm h]

theorem setBlk_here {w : World} {blk : Nat} {o o' : Obj} (h : w.heap[blk]? = some o') : (setBlk w blk o).heap[blk]? = some o := by rw [setBlk_get]; simp [h]
theorem setBlk_else {w : World} {blk k : Nat} {o : Obj} (h : k ≠ blk) : (setBlk w blk o).heap[k]? = w.heap[k]? := by rw [setBlk_get]; simp [h]
theorem setBlk_twice (w : World) (blk : Nat) (o o' : Obj) : setBlk (setBlk w blk o) blk o' = setBlk w blk o' := by
  unfold setBlk
  simp

theorem setCell_blk {w : World} {blk off : Nat} {c : Array Value} {e : TypeId} {f : Nat × Nat} (h : w.heap[blk]? = some (.cells c e f)) (v : Value) :
    w.setCell ⟨blk, off, none⟩ v = setBlk w blk (.cells (c.setIfInBounds off v) e f) := by
  unfold World.setCell setBlk
  congr 1
  apply Array.ext_getElem?
  intro i
  rw [Array.getElem?_modify, Array.getElem?_setIfInBounds]
  by_cases hi : blk = i
  · subst hi
    have hlt := heap_lt h
    have h' : w.heap[blk] = .cells c e f := by simpa [hlt] using h
    simp [hlt, h']
  · simp [hi]

theorem spliceV_step : ∀ (l : List Value) (n : Nat) (v : Value) (vs : List Value), spliceV l n (v :: vs) = spliceV (l.set n v) (n + 1) vs
  | [], n, v, vs => by cases vs <;> simp [spliceV]
  | c :: cs, 0, v, vs => by
    simp only [spliceV, List.set_cons_zero]
    cases vs with
    | nil => cases cs <;> simp [spliceV]
    | cons u us => simp [spliceV]
  | c :: cs, n + 1, v, vs => by
    simp only [spliceV, List.set_cons_succ]
    rw [spliceV_step cs n v vs]
    cases vs with
    | nil => simp [spliceV]
    | cons u us => simp [spliceV]

theorem run_store1 {w : World} {blk off : Nat} {c : Array Value} {e : TypeId} (h : w.heap[blk]? = some (.cells c e (0, 0))) (ho : off < c.size) {v : Value} (hv : scV v) :
    (store ⟨blk, off, none⟩ v).run P w = .ok () (setBlk w blk (.cells (c.setIfInBounds off v) e (0, 0))) := by
  have h1 : w.cell? ⟨blk, off, none⟩ = some c[off] := by simp [World.cell?, h, ho]
  have h2 : w.frozen? ⟨blk, off, none⟩ = false := by simp [World.frozen?, h]
  rw [← setCell_blk h]
  cases v <;> simp [scV] at hv <;> simp [store, Sem.run, h1, h2]

theorem run_storeCells {blk off : Nat} {e : TypeId} : ∀ (vs : List Value) (i : Nat) (w : World) (c : Array Value), w.heap[blk]? = some (.cells c e (0, 0)) → (∀ v ∈ vs, scV v) → off + i + vs.length ≤ c.size →
    (storeCells ⟨blk, off, none⟩ vs i).run P w = .ok () (setBlk w blk (.cells ⟨spliceV c.toList (off + i) vs⟩ e (0, 0)))
  | [], i, w, c, h, _, _ => by
    have : setBlk w blk (.cells c e (0, 0)) = w := by
      have : w.heap.setIfInBounds blk (.cells c e (0, 0)) = w.heap := by
        apply Array.ext_getElem?
        intro k
        rw [Array.getElem?_setIfInBounds]
        split
        · rename_i hk; subst hk; split <;> simp_all
        · rfl
      simp [setBlk, this]
    cases hc : c.toList with
    | nil => simp [storeCells, spliceV]; have hc' : c = #[] := by simpa using hc
             subst hc'; exact this.symm
    | cons x xs => simp [storeCells, spliceV]; rw [← hc]; exact this.symm
  | v :: vs, i, w, c, h, hs, hl => by
    simp only [List.length_cons] at hl
    simp only [storeCells, Sem.run_bind, addr_add]
    rw [run_store1 h (by omega) (hs v (by simp))]
    simp only [Result.andThen_ok]
    rw [run_storeCells vs (i + 1) _ (c.setIfInBounds (off + i) v) (setBlk_here h) (fun u hu => hs u (by simp [hu])) (by simp; omega), setBlk_twice, spliceV_step]
    congr 4
    simp [show off + (i + 1) = off + i + 1 by omega]

theorem run_storeVar {t : Nat} {ti : TI} (ht : tiOf P t = some ti) {blk off : Nat} {w : World} {c : Array Value} {e : TypeId} (h : w.heap[blk]? = some (.cells c e (0, 0))) {v : Value} {vs : List Value} (hv : v.cells = ⟨vs⟩)
    (hs : ∀ u ∈ vs, scV u) (hn : vs.length = ti.size) (hl : off + vs.length ≤ c.size) :
    (storeVar t ⟨blk, off, none⟩ v).run P w = .ok () (setBlk w blk (.cells ⟨spliceV c.toList off vs⟩ e (0, 0))) := by
  obtain ⟨i, d, h1, h2, h3, h4, h5, h6⟩ := tiOf_inv ht
  have := run_storeCells (P := P) (off := off) vs 0 w c h hs (by simpa using hl)
  simp only [Nat.add_zero] at this
  simp [storeVar, hv, run_size h1, hn, h3, this]

theorem spliceV_length : ∀ (l : List Value) (n : Nat) (vs : List Value), (spliceV l n vs).length = l.length
  | l, n, [] => by cases l <;> simp [spliceV]
  | [], n, v :: vs => by simp [spliceV]
  | c :: cs, 0, v :: vs => by simp [spliceV, spliceV_length cs 0 vs]
  | c :: cs, n + 1, v :: vs => by simp [spliceV, spliceV_length cs n (v :: vs)]

end
end Dem
end
section
open Go
namespace Dem
section
variable {P : Program} {T : Nat → Option TI} {G : Nat → Option (List D)} {β : Nat → Nat} {bx : List Box} {w : World} {X : Nat → Prop}

theorem get_set_inv {b i : Nat} {B B' : Box} (h : (bx.set b B')[i]? = some B) : (i = b ∧ B = B' ∧ b < bx.length) ∨ (i ≠ b ∧ bx[i]? = some B) := by
  rw [List.getElem?_set] at h
  split at h
  · rename_i hbi; subst hbi
    split at h
    · simp at h; exact .inl ⟨rfl, h.symm, by assumption⟩
    · simp at h
  · rename_i hbi; exact .inr ⟨fun e => hbi e.symm, h⟩

theorem get_lt {i : Nat} {B : Box} (h : bx[i]? = some B) : i < bx.length := by
  rcases Nat.lt_or_ge i bx.length with h' | h'
  · exact h'
  · simp [List.getElem?_eq_none h'] at h

theorem get_set_same {b : Nat} {B B' : Box} (h : bx[b]? = some B) : (bx.set b B')[b]? = some B' := by
  have := get_lt h
  simp [this]

theorem bornAt_set {b i : Nat} {B' : Box} (hB : B'.born = true) (h : bornAt bx i) : bornAt (bx.set b B') i := by
  obtain ⟨B, h1, h2⟩ := h
  by_cases hi : i = b
  · subst hi; exact ⟨B', get_set_same h1, hB⟩
  · exact ⟨B, by rw [List.getElem?_set_ne (Ne.symm hi)]; exact h1, h2⟩

/-- a live box's block is written, its number of cells stays -/
theorem ext_setbox {b : Nat} {B B' : Box} (hb : bx[b]? = some B) (hl : B.live = true) {c c' : Array Value} {e : TypeId} (hh : w.heap[β b]? = some (.cells c e (0, 0))) (hc : c'.size = c.size) (hB' : B'.born = true) :
    Ext β bx w β (bx.set b B') (setBlk w (β b) (.cells c' e (0, 0))) := by
  refine ⟨rfl, rfl, rfl, by simp [setBlk], ?_, ?_, fun i hi => ⟨rfl, bornAt_set hB' hi⟩, ?_⟩
  · intro k hk hl'
    exact setBlk_else (fun e => hl' b B hb hl e.symm)
  · intro k c1 e1 f1 hk
    by_cases h : k = β b
    · subst h
      rw [hh] at hk
      simp only [Option.some.injEq, Obj.cells.injEq] at hk
      obtain ⟨rfl, rfl, rfl⟩ := hk
      exact ⟨c', setBlk_here hh, hc⟩
    · exact ⟨c1, by rw [setBlk_else h]; exact hk, rfl⟩
  · intro i b' h1 h2
    rcases get_set_inv h1 with ⟨rfl, _, _⟩ | ⟨_, h3⟩
    · exact .inr ⟨i, B, hb, hl, rfl⟩
    · exact .inr ⟨i, b', h3, h2, rfl⟩

theorem ctx_setbox (cx : Ctx G β bx w X) {b : Nat} {B B' : Box} (hb : bx[b]? = some B) (hl : B.live = true) {c c' : Array Value} {e : TypeId} (hh : w.heap[β b]? = some (.cells c e (0, 0))) (hc : c'.size = c.size) (hB' : B'.born = true)
    (hok : BoxOk β (bx.set b B') (setBlk w (β b) (.cells c' e (0, 0))) (okp β (bx.set b B') (setBlk w (β b) (.cells c' e (0, 0))) X) B' (β b)) :
    Ctx G β (bx.set b B') (setBlk w (β b) (.cells c' e (0, 0))) X := by
  refine cx.step (ext_setbox hb hl hh hc hB') ?_ ?_
  · intro i b' h1
    rcases get_set_inv h1 with ⟨rfl, rfl, _⟩ | ⟨h2, h3⟩
    · exact .inr hok
    · refine .inl ⟨h3, fun hl' => setBlk_else (fun e => h2 (cx.inj i b b' B h3 hb hl' hl e))⟩
  · intro i j bi bj h1 h2 l1 l2 he
    rcases get_set_inv h1 with ⟨rfl, rfl, _⟩ | ⟨h3, h4⟩ <;> rcases get_set_inv h2 with ⟨rfl, rfl, _⟩ | ⟨h5, h6⟩
    · rfl
    · exact cx.inj _ j B bj hb h6 hl l2 he
    · exact cx.inj i _ bi B h4 hb l1 hl he
    · exact cx.inj i j bi bj h4 h6 l1 l2 he

/-- a box goes out of use, the world as it is -/
theorem ext_retire {b : Nat} {B B' : Box} (_hb : bx[b]? = some B) (hB' : B'.live = false) (hborn : B'.born = true) : Ext β bx w β (bx.set b B') w := by
  refine ⟨rfl, rfl, rfl, Nat.le_refl _, fun _ _ _ => rfl, fun k c e f h => ⟨c, h, rfl⟩, fun i hi => ⟨rfl, bornAt_set hborn hi⟩, ?_⟩
  intro i b' h1 h2
  rcases get_set_inv h1 with ⟨rfl, rfl, _⟩ | ⟨_, h3⟩
  · rw [hB'] at h2; simp at h2
  · exact .inr ⟨i, b', h3, h2, rfl⟩

theorem ctx_retire (cx : Ctx G β bx w X) {b : Nat} {B B' : Box} (hb : bx[b]? = some B) (hB' : B'.live = false) (hborn : B'.born = true)
    (hok : BoxOk β (bx.set b B') w (okp β (bx.set b B') w X) B' (β b)) : Ctx G β (bx.set b B') w X := by
  refine cx.step (ext_retire hb hB' hborn) ?_ ?_
  · intro i b' h1
    rcases get_set_inv h1 with ⟨rfl, rfl, _⟩ | ⟨h2, h3⟩
    · exact .inr hok
    · exact .inl ⟨h3, fun _ => rfl⟩
  · intro i j bi bj h1 h2 l1 l2 he
    rcases get_set_inv h1 with ⟨rfl, rfl, _⟩ | ⟨h3, h4⟩
    · rw [hB'] at l1; simp at l1
    · rcases get_set_inv h2 with ⟨rfl, rfl, _⟩ | ⟨h5, h6⟩
      · rw [hB'] at l2; simp at l2
      · exact cx.inj i j bi bj h4 h6 l1 l2 he

/-- an own row is told as data from now on -/
theorem seal_ok (cx : Ctx G β bx w X) {b : Nat} {sz : Nat} {es : List (List D)} (hb : bx[b]? = some (.row sz es)) :
    Ext β bx w β (bx.set b (.imm sz es)) w ∧ Ctx G β (bx.set b (.imm sz es)) w X ∧ (es = [] ∨ okp β (bx.set b (.imm sz es)) w X (β b) ∧ RepRows w (okp β (bx.set b (.imm sz es)) w X) (β b) sz es 0) := by
  have ex : Ext β bx w β (bx.set b (.imm sz es)) w := ext_retire hb rfl rfl
  have key : es = [] ∨ okp β (bx.set b (.imm sz es)) w X (β b) ∧ RepRows w (okp β (bx.set b (.imm sz es)) w X) (β b) sz es 0 := by
    rcases cx.box b _ hb with h | ⟨c, e, h1, h2⟩
    · exact .inl h
    · cases es with
      | nil => exact .inl rfl
      | cons r rs =>
        refine .inr ⟨⟨heap_lt h1, cx.apart b _ hb rfl, ?_⟩, RepRows.mono (ex.keeps X) _ _ (fun _ => rfl) _ _ h2⟩
        intro i b' h3 h4 he
        rcases get_set_inv h3 with ⟨rfl, rfl, _⟩ | ⟨h5, h6⟩
        · simp [Box.live] at h4
        · exact h5 (cx.inj i b b' _ h6 hb h4 rfl he)
  exact ⟨ex, ctx_retire cx hb rfl rfl key, key⟩

/- rows as lists of cells -/
theorem RepRows.lens {ok : Nat → Prop} {blk sz : Nat} : ∀ (es : List (List D)) (off : Nat), RepRows w ok blk sz es off → ∀ r ∈ es, r.length = sz
  | [], _, _ => by simp
  | r :: rs, off, h => by
    simp only [RepRows] at h
    intro x hx
    rcases List.mem_cons.1 hx with rfl | hx
    · exact h.1
    · exact RepRows.lens rs _ h.2.2 x hx

theorem rows_cells {ok : Nat → Prop} {blk sz : Nat} : ∀ (es : List (List D)) (off : Nat), RepRows w ok blk sz es off → ∃ vs, vs.length = es.length * sz ∧ (∀ j v, vs[j]? = some v → w.cell? ⟨blk, off + j, none⟩ = some v) ∧
    RepAs β bx w ok (es.flatten.map .d) vs
  | [], off, _ => ⟨[], by simp, by simp, by simp [RepAs]⟩
  | r :: rs, off, h => by
    simp only [RepRows] at h
    obtain ⟨h1, h2, h3⟩ := h
    obtain ⟨vs, g1, g2, g3⟩ := row_cells (β := β) (bx := bx) r off h2
    obtain ⟨us, k1, k2, k3⟩ := rows_cells rs (off + sz) h3
    refine ⟨vs ++ us, by simp [g1, k1, h1, Nat.add_mul]; omega, ?_, by simpa using RepAs.append g3 k3⟩
    intro j v hj
    rcases Nat.lt_or_ge j vs.length with hlt | hge
    · rw [List.getElem?_append_left hlt] at hj; exact g2 j v hj
    · rw [List.getElem?_append_right hge] at hj
      have := k2 _ v hj
      rwa [show off + sz + (j - vs.length) = off + j by omega] at this

theorem row_of {ok : Nat → Prop} {blk : Nat} : ∀ (ds : List D) (off : Nat) (vs : List Value), (∀ j v, vs[j]? = some v → w.cell? ⟨blk, off + j, none⟩ = some v) → RepAs β bx w ok (ds.map .d) vs → RepRow w ok blk ds off
  | [], _, _, _, _ => by simp [RepRow]
  | x :: xs, off, vs, hc, h => by
    simp only [List.map_cons, RepAs, RepA] at h
    obtain ⟨u, us, rfl, g1, g2⟩ := h
    simp only [RepRow]
    refine ⟨⟨u, by simpa using hc 0 u rfl, g1⟩, row_of xs (off + 1) us (fun j v hj => ?_) g2⟩
    have := hc (j + 1) v (by simpa using hj)
    rwa [show off + (j + 1) = off + 1 + j by omega] at this

theorem rows_of {ok : Nat → Prop} {blk sz : Nat} : ∀ (es : List (List D)) (off : Nat) (vs : List Value), (∀ r ∈ es, r.length = sz) → (∀ j v, vs[j]? = some v → w.cell? ⟨blk, off + j, none⟩ = some v) →
    RepAs β bx w ok (es.flatten.map .d) vs → RepRows w ok blk sz es off
  | [], _, _, _, _, _ => by simp [RepRows]
  | r :: rs, off, vs, hl, hc, h => by
    simp only [List.flatten_cons, List.map_append] at h
    have h1 := RepAs.take r.length h
    have h2 := RepAs.drop r.length h
    rw [List.take_left' (by simp)] at h1
    rw [List.drop_left' (by simp)] at h2
    have hr : r.length = sz := hl r (by simp)
    simp only [RepRows]
    refine ⟨hr, row_of r off _ (fun j v hj => ?_) h1, rows_of rs (off + sz) _ (fun x hx => hl x (by simp [hx])) (fun j v hj => ?_) h2⟩
    · rw [List.getElem?_take] at hj
      split at hj
      · exact hc j v hj
      · simp at hj
    · rw [List.getElem?_drop] at hj
      have := hc _ v hj
      rwa [show off + (r.length + j) = off + sz + j by omega] at this

/-- the rows of a slice, as the model has them: no own row among them -/
theorem rows_imm {ok : Nat → Prop} {x : AV} {es : List (List D)} {u : Value} (hx : ∀ b sz n, x ≠ .ow b sz n) (hx2 : x.isVw = false) (hr : x.rows bx = some es) (h : RepA β bx w ok x u) :
    ∃ base cap, u = .slice base es.length cap ∧ es.length ≤ cap ∧ (es = [] ∨ ∃ blk off sz, base = some ⟨blk, off, none⟩ ∧ ok blk ∧ RepRows w ok blk sz es off) := by
  cases x with
  | d y =>
    cases y with
    | sl es' => simp only [AV.rows, Option.some.injEq] at hr; subst hr; simpa [RepA, RepD] using h
    | _ => simp [AV.rows] at hr
  | cl es' =>
    simp only [AV.rows, Option.some.injEq] at hr; subst hr
    simp only [RepA] at h
    obtain ⟨base, rfl, g⟩ := h
    exact ⟨base, _, rfl, Nat.le_refl _, g⟩
  | ow b sz n => exact absurd rfl (hx b sz n)
  | vw b sz off n c ex => simp [AV.isVw] at hx2
  | _ => simp [AV.rows] at hr

theorem RepRows.dropL {ok : Nat → Prop} {blk sz : Nat} : ∀ (n : Nat) (es : List (List D)) (off : Nat), RepRows w ok blk sz es off → RepRows w ok blk sz (es.drop n) (off + n * sz)
  | 0, es, off, h => by simpa using h
  | n + 1, [], off, h => by simp [RepRows]
  | n + 1, r :: rs, off, h => by
    simp only [RepRows] at h
    have := RepRows.dropL n rs (off + sz) h.2.2
    simpa [Nat.add_mul, show off + sz + n * sz = off + (n * sz + sz) by omega] using this

theorem RepRows.takeL {ok : Nat → Prop} {blk sz : Nat} : ∀ (n : Nat) (es : List (List D)) (off : Nat), RepRows w ok blk sz es off → RepRows w ok blk sz (es.take n) off
  | 0, es, off, h => by simp [RepRows]
  | n + 1, [], off, h => by simp [RepRows]
  | n + 1, r :: rs, off, h => by
    simp only [RepRows] at h
    simp only [List.take_succ_cons, RepRows]
    exact ⟨h.1, h.2.1, RepRows.takeL n rs _ h.2.2⟩

theorem beqle {s sz n m : Nat} {α : Type} {x y : α} (h : (bif Nat.beq s sz && Nat.ble n m then some x else none) = some y) : s = sz ∧ n ≤ m ∧ x = y := by
  cases h1 : Nat.beq s sz <;> cases h2 : Nat.ble n m <;> simp [h1, h2] at h
  exact ⟨Nat.eq_of_beq_eq_true h1, Nat.le_of_ble_eq_true h2, h⟩

/-- what a view reads as -/
theorem vw_part {b sz off n c : Nat} {ex : Bool} {es0 : List (List D)} {okk : Nat → Prop} {u : Value} {ok : Nat → Prop} (hn : off + n ≤ es0.length) (hrows : es0 = [] ∨ RepRows w okk (β b) sz es0 0) (h : RepA β bx w ok (.vw b sz off n c ex) u) :
    ∃ base cap, u = .slice base ((es0.drop off).take n).length cap ∧ ((es0.drop off).take n).length ≤ cap ∧ ((es0.drop off).take n = [] ∨ base = some ⟨β b, off * sz, none⟩ ∧ RepRows w okk (β b) sz ((es0.drop off).take n) (off * sz)) := by
  simp only [RepA] at h
  obtain ⟨_, base, cap, cs, e, f, rfl, h1, h2, h3, h4⟩ := h
  have hlen : ((es0.drop off).take n).length = n := by simp; omega
  refine ⟨base, cap, by rw [hlen], by rw [hlen]; exact h1, ?_⟩
  by_cases hn0 : n = 0
  · subst hn0; exact .inl (by simp)
  · right
    rcases h4 with h4 | ⟨h4, _⟩
    · omega
    · refine ⟨h4, ?_⟩
      rcases hrows with rfl | hrows
      · simp at hn; omega
      · have := RepRows.takeL n _ _ (RepRows.dropL off _ _ hrows)
        simpa using this

theorem beqs {s sz n m : Nat} {α : Type} {x y : α} (h : (bif Nat.beq s sz && Nat.beq n m then some x else none) = some y) : s = sz ∧ n = m ∧ x = y := by
  cases h1 : Nat.beq s sz <;> cases h2 : Nat.beq n m <;> simp [h1, h2] at h
  exact ⟨Nat.eq_of_beq_eq_true h1, Nat.eq_of_beq_eq_true h2, h⟩

/-- an own row: its block, or nothing -/
theorem ow_rows (cx : Ctx G β bx w X) {b sz n : Nat} {es : List (List D)} {u : Value} (hr : (AV.ow b sz n).rows bx = some es) (h : RepA β bx w (okp β bx w X) (.ow b sz n) u) :
    n = es.length ∧ (∃ base cap, u = .slice base es.length cap ∧ es.length ≤ cap ∧ (es = [] ∧ cap = 0 ∨ es ≠ [] ∧ base = some ⟨β b, 0, none⟩ ∧ RepRows w (okp β bx w X) (β b) sz es 0 ∧
      ∃ c e f, w.heap[β b]? = some (.cells c e f) ∧ cap * sz ≤ c.size)) := by
  have main : ∀ es', n = es'.length → (es' = [] ∨ RepRows w (okp β bx w X) (β b) sz es' 0) → ∃ base cap, u = .slice base es'.length cap ∧ es'.length ≤ cap ∧ (es' = [] ∧ cap = 0 ∨ es' ≠ [] ∧ base = some ⟨β b, 0, none⟩ ∧ RepRows w (okp β bx w X) (β b) sz es' 0 ∧
      ∃ c e f, w.heap[β b]? = some (.cells c e f) ∧ cap * sz ≤ c.size) := by
    intro es' hn hrows
    simp only [RepA] at h
    obtain ⟨_, ⟨h0, base, rfl⟩ | ⟨h0, cap, c, e, f, rfl, h1, h2, h3⟩⟩ := h
    · have : es' = [] := by simpa using (hn.symm.trans h0)
      subst this
      exact ⟨base, 0, by simp, by simp, .inl ⟨rfl, rfl⟩⟩
    · rcases hrows with rfl | hrows
      · exact absurd (by simpa using hn) h0
      · exact ⟨_, cap, by rw [hn], by omega, .inr ⟨by rintro rfl; exact h0 (by simpa using hn), rfl, hrows, c, e, f, h2, h3⟩⟩
  simp only [AV.rows] at hr
  split at hr
  · rename_i s es' hb
    obtain ⟨rfl, rfl, rfl⟩ := beqs hr
    exact ⟨rfl, main _ rfl ((cx.box b _ hb).imp id fun ⟨_, _, _, g⟩ => g)⟩
  · rename_i s es' hb
    obtain ⟨rfl, rfl, rfl⟩ := beqs hr
    exact ⟨rfl, main _ rfl ((cx.box b _ hb).imp id fun ⟨_, g⟩ => g)⟩
  · simp at hr

theorem toD_ow {b sz n : Nat} {y : D} (h : (AV.ow b sz n).toD bx = some y) : ∃ es, y = .sl es ∧ (AV.ow b sz n).rows bx = some es := by
  simp only [AV.toD] at h
  simp only [AV.rows]
  split at h
  · rename_i s es hb
    obtain ⟨rfl, rfl, rfl⟩ := beqs h
    exact ⟨es, rfl, by simp [hb]⟩
  · rename_i s es hb
    obtain ⟨rfl, rfl, rfl⟩ := beqs h
    exact ⟨es, rfl, by simp [hb]⟩
  · simp at h

/-- rows told as data: the box is sealed -/
theorem rows_seal (cx : Ctx G β bx w X) {x : AV} {es : List (List D)} {u : Value} (hr : x.rows bx = some es) (h : RepA β bx w (okp β bx w X) x u) :
    Ext β bx w β (x.sealB bx) w ∧ Ctx G β (x.sealB bx) w X ∧
    ∃ base cap, u = .slice base es.length cap ∧ es.length ≤ cap ∧ (es = [] ∨ ∃ blk off sz, base = some ⟨blk, off, none⟩ ∧ okp β (x.sealB bx) w X blk ∧ RepRows w (okp β (x.sealB bx) w X) blk sz es off) := by
  by_cases hx : ∃ b sz n, x = .ow b sz n
  · obtain ⟨b, sz, n, rfl⟩ := hx
    obtain ⟨hn, base, cap, rfl, h1, h2⟩ := ow_rows cx hr h
    simp only [AV.rows] at hr
    split at hr
    · rename_i s es' hb
      obtain ⟨rfl, _, rfl⟩ := beqs hr
      obtain ⟨g1, g2, g3⟩ := seal_ok cx hb
      have hseal : (AV.ow b s n).sealB bx = bx.set b (.imm s es') := by simp [AV.sealB, hb]
      rw [hseal]
      refine ⟨g1, g2, base, cap, rfl, h1, ?_⟩
      rcases h2 with ⟨rfl, _⟩ | ⟨hne, rfl, _⟩
      · exact .inl rfl
      · rcases g3 with rfl | ⟨g3, g4⟩
        · exact .inl rfl
        · exact .inr ⟨β b, 0, s, rfl, g3, g4⟩
    · rename_i s es' hb
      obtain ⟨rfl, _, rfl⟩ := beqs hr
      have hseal : (AV.ow b s n).sealB bx = bx := by simp [AV.sealB, hb]
      rw [hseal]
      refine ⟨Ext.refl _ _ _, cx, base, cap, rfl, h1, ?_⟩
      rcases h2 with ⟨rfl, _⟩ | ⟨hne, rfl, g, _⟩
      · exact .inl rfl
      · rcases cx.box b _ hb with rfl | ⟨g3, g4⟩
        · exact .inl rfl
        · exact .inr ⟨β b, 0, s, rfl, g3, g4⟩
    · simp at hr
  · have hx' : ∀ b sz n, x ≠ .ow b sz n := fun b sz n e => hx ⟨b, sz, n, e⟩
    cases hv : x.isVw with
    | true =>
      cases x with
      | vw b sz off n c ex =>
        simp only [AV.rows] at hr
        split at hr
        · rename_i s es' hb
          obtain ⟨rfl, hle, rfl⟩ := beqle hr
          obtain ⟨g1, g2, g3⟩ := seal_ok cx hb
          have hseal : (AV.vw b s off n c ex).sealB bx = bx.set b (.imm s es') := by simp [AV.sealB, hb]
          rw [hseal]
          refine ⟨g1, g2, ?_⟩
          obtain ⟨base, cap, rfl, k1, k2⟩ := vw_part (okk := okp β (bx.set b (.imm s es')) w X) hle (g3.imp id fun g => g.2) h
          refine ⟨base, cap, rfl, k1, ?_⟩
          rcases g3 with rfl | ⟨g3, _⟩
          · left; simp
          rcases k2 with k2 | ⟨rfl, k3⟩
          · exact .inl k2
          · exact .inr ⟨β b, off * s, s, rfl, g3, k3⟩
        · rename_i s es' hb
          obtain ⟨rfl, hle, rfl⟩ := beqle hr
          have hseal : (AV.vw b s off n c ex).sealB bx = bx := by simp [AV.sealB, hb]
          rw [hseal]
          refine ⟨Ext.refl _ _ _, cx, ?_⟩
          have g3 := cx.box b _ hb
          obtain ⟨base, cap, rfl, k1, k2⟩ := vw_part (okk := okp β bx w X) hle (g3.imp id fun g => g.2) h
          refine ⟨base, cap, rfl, k1, ?_⟩
          rcases g3 with rfl | ⟨g3, _⟩
          · left; simp
          rcases k2 with k2 | ⟨rfl, k3⟩
          · exact .inl k2
          · exact .inr ⟨β b, off * s, s, rfl, g3, k3⟩
        · simp at hr
      | _ => simp [AV.isVw] at hv
    | false =>
    have hseal : x.sealB bx = bx := by cases x <;> simp_all [AV.sealB, AV.isVw]
    rw [hseal]
    exact ⟨Ext.refl _ _ _, cx, rows_imm hx' hv hr h⟩

/-- one cell told as data -/
theorem toD_seal (cx : Ctx G β bx w X) {x : AV} {y : D} {u : Value} (hd : x.toD bx = some y) (h : RepA β bx w (okp β bx w X) x u) :
    Ext β bx w β (x.sealB bx) w ∧ Ctx G β (x.sealB bx) w X ∧ RepD w (okp β (x.sealB bx) w X) y u := by
  cases x with
  | d x => simp only [AV.toD, Option.some.injEq] at hd; subst hd; exact ⟨Ext.refl _ _ _, cx, h⟩
  | cl es =>
    simp only [AV.toD, Option.some.injEq] at hd; subst hd
    obtain ⟨g1, g2, g3⟩ := rows_seal cx (x := .cl es) (es := es) rfl h
    exact ⟨g1, g2, by simpa [RepD] using g3⟩
  | ow b sz n =>
    obtain ⟨es, rfl, hr⟩ := toD_ow hd
    obtain ⟨g1, g2, g3⟩ := rows_seal cx hr h
    exact ⟨g1, g2, by simpa [RepD] using g3⟩
  | fn f cs =>
    cases cs with
    | nil =>
      simp only [AV.toD, Option.some.injEq] at hd; subst hd
      simp only [RepA, RepAs] at h
      obtain ⟨vs, rfl, rfl⟩ := h
      exact ⟨Ext.refl _ _ _, cx, by simp [RepD]⟩
    | cons c cs => simp [AV.toD] at hd
  | _ => simp [AV.toD] at hd

theorem seal_get {z : AV} {i s : Nat} {es : List (List D)} (h : bx[i]? = some (.row s es) ∨ bx[i]? = some (.imm s es)) : (z.sealB bx)[i]? = some (.row s es) ∨ (z.sealB bx)[i]? = some (.imm s es) := by
  cases z with
  | ow b sz n =>
    simp only [AV.sealB]
    split
    · rename_i s' es' hb
      by_cases hi : i = b
      · subst hi
        rw [hb] at h
        simp at h
        obtain ⟨rfl, rfl⟩ := h
        exact .inr (get_set_same hb)
      · rw [List.getElem?_set_ne (Ne.symm hi)]; exact h
    · exact h
  | vw b sz off n c ex =>
    simp only [AV.sealB]
    split
    · rename_i s' es' hb
      by_cases hi : i = b
      · subst hi
        rw [hb] at h
        simp at h
        obtain ⟨rfl, rfl⟩ := h
        exact .inr (get_set_same hb)
      · rw [List.getElem?_set_ne (Ne.symm hi)]; exact h
    · exact h
  | _ => exact h

theorem toD_after {x z : AV} {y : D} (h : x.toD bx = some y) : x.toD (z.sealB bx) = some y := by
  cases x with
  | ow b sz n =>
    simp only [AV.toD] at h ⊢
    split at h
    · rename_i s es hb
      rcases seal_get (z := z) (.inl hb) with g | g <;> simp [g, h]
    · rename_i s es hb
      rcases seal_get (z := z) (.inr hb) with g | g <;> simp [g, h]
    · simp at h
  | fn f cs => cases cs with
    | nil => exact h
    | cons c cs => exact h
  | _ => exact h

theorem toDs_after {z : AV} : ∀ {xs : List AV} {ys : List D}, toDs bx xs = some ys → toDs (z.sealB bx) xs = some ys
  | [], ys, h => h
  | x :: xs, ys, h => by
    simp only [toDs] at h ⊢
    split at h
    · rename_i y ys' hy hys
      rw [toD_after hy, toDs_after hys]; exact h
    · simp at h

/-- cells told as data -/
theorem toDs_seal : ∀ (xs : List AV) (bx : List Box) (ys : List D) (vs : List Value), Ctx G β bx w X → toDs bx xs = some ys → RepAs β bx w (okp β bx w X) xs vs →
    Ext β bx w β (seals bx xs) w ∧ Ctx G β (seals bx xs) w X ∧ RepAs β (seals bx xs) w (okp β (seals bx xs) w X) (ys.map .d) vs
  | [], bx, ys, vs, cx, hd, h => by simp [toDs] at hd; subst hd; exact ⟨Ext.refl _ _ _, cx, by simpa [seals] using h⟩
  | x :: xs, bx, ys, vs, cx, hd, h => by
    simp only [toDs] at hd
    split at hd
    · rename_i y ys' hy hys
      simp at hd; subst hd
      simp only [RepAs] at h
      obtain ⟨u, us, rfl, g1, g2⟩ := h
      obtain ⟨e1, c1, r1⟩ := toD_seal cx hy g1
      obtain ⟨e2, c2, r2⟩ := toDs_seal xs (x.sealB bx) ys' us c1 (toDs_after hys) (RepAs.mono (e1.lasts X) _ _ g2)
      refine ⟨e1.trans e2, c2, ?_⟩
      simp only [seals, List.map_cons, RepAs, RepA]
      exact ⟨u, us, rfl, RepD.mono (e2.keeps X) _ _ r1, r2⟩
    · simp at hd

/- stores -/
theorem spliceV_append : ∀ (l m : List Value) (n : Nat) (vs : List Value), n + vs.length ≤ l.length → spliceV (l ++ m) n vs = spliceV l n vs ++ m
  | l, m, n, [], _ => by cases l <;> cases m <;> simp [spliceV]
  | [], m, n, v :: vs, h => by simp at h
  | c :: cs, m, 0, v :: vs, h => by
    simp only [List.length_cons] at h
    simp only [List.cons_append, spliceV]
    rw [spliceV_append cs m 0 vs (by omega)]
  | c :: cs, m, n + 1, v :: vs, h => by
    simp only [List.length_cons] at h
    simp only [List.cons_append, spliceV]
    rw [spliceV_append cs m n (v :: vs) (by simp; omega)]

theorem spliceD_length : ∀ (l : List D) (n : Nat) (vs : List D), (spliceD l n vs).length = l.length
  | l, n, [] => by cases l <;> simp [spliceD]
  | [], n, v :: vs => by simp [spliceD]
  | c :: cs, 0, v :: vs => by simp [spliceD, spliceD_length cs 0 vs]
  | c :: cs, n + 1, v :: vs => by simp [spliceD, spliceD_length cs n (v :: vs)]

theorem spliceD_map : ∀ (l : List D) (n : Nat) (vs : List D), (spliceD l n vs).map AV.d = splice (l.map .d) n (vs.map .d)
  | l, n, [] => by cases l <;> simp [spliceD, splice]
  | [], n, v :: vs => by simp [spliceD, splice]
  | c :: cs, 0, v :: vs => by simp [spliceD, splice, spliceD_map cs 0 vs]
  | c :: cs, n + 1, v :: vs => by simp [spliceD, splice]; rw [spliceD_map cs n (v :: vs)]; simp

theorem spliceD_left : ∀ (l m : List D) (n : Nat) (vs : List D), spliceD (l ++ m) (l.length + n) vs = l ++ spliceD m n vs
  | [], m, n, vs => by simp
  | c :: cs, m, n, vs => by
    cases vs with
    | nil => cases m <;> simp [spliceD]
    | cons v vs =>
      rw [show (c :: cs).length + n = (cs.length + n) + 1 by simp; omega]
      simp only [List.cons_append, spliceD]
      rw [spliceD_left cs m n (v :: vs)]

theorem spliceD_right : ∀ (l m : List D) (n : Nat) (vs : List D), n + vs.length ≤ l.length → spliceD (l ++ m) n vs = spliceD l n vs ++ m
  | l, m, n, [], _ => by cases l <;> cases m <;> simp [spliceD]
  | [], m, n, v :: vs, h => by simp at h
  | c :: cs, m, 0, v :: vs, h => by
    simp only [List.length_cons] at h
    simp only [List.cons_append, spliceD]
    rw [spliceD_right cs m 0 vs (by omega)]
  | c :: cs, m, n + 1, v :: vs, h => by
    simp only [List.length_cons] at h
    simp only [List.cons_append, spliceD]
    rw [spliceD_right cs m n (v :: vs) (by simp; omega)]

theorem flatten_splice {sz : Nat} : ∀ (es : List (List D)) (i j : Nat) (ds : List D), (∀ r ∈ es, r.length = sz) → i < es.length → j + ds.length ≤ (es.getD i []).length →
    (es.set i (spliceD (es.getD i []) j ds)).flatten = spliceD es.flatten (i * sz + j) ds
  | [], i, j, ds, _, h, _ => by simp at h
  | r :: rs, 0, j, ds, hl, _, hj => by
    simp at hj
    simp only [List.set_cons_zero, List.flatten_cons, Nat.zero_mul, Nat.zero_add]
    rw [spliceD_right r _ j ds hj]
    simp
  | r :: rs, i + 1, j, ds, hl, hi, hj => by
    have hr : r.length = sz := hl r (by simp)
    simp at hi hj
    have := flatten_splice rs i j ds (fun x hx => hl x (by simp [hx])) hi (by simpa using hj)
    simp only [List.set_cons_succ, List.flatten_cons, List.getD_cons_succ]
    rw [this, show (i + 1) * sz + j = r.length + (i * sz + j) by rw [hr, Nat.add_mul]; omega, spliceD_left]

end
end Dem
end
