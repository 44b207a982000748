/- JOINED TEXTS: Abs5, Abs6, Abs7. -/
import Derived.Test.YtegnablmooijmaaDoorJ03
import Derived.Laws.Externs
import Derived.Lib.Strings
set_option linter.unusedSimpArgs false
set_option linter.unusedVariables false
section
open Go
namespace Dem
section
variable {P : Program} {T : Nat → Option TI} {G : Nat → Option (List D)} {β : Nat → Nat} {bx : List Box} {w : World} {X : Nat → Prop}

theorem cells_prefix {w : World} {blk : Nat} {c : Array Value} {e : TypeId} {f : Nat × Nat} (h : w.heap[blk]? = some (.cells c e f)) {vs : List Value} (hc : ∀ j v, vs[j]? = some v → w.cell? ⟨blk, 0 + j, none⟩ = some v) :
    ∃ rest, c.toList = vs ++ rest := by
  refine ⟨c.toList.drop vs.length, ?_⟩
  have : vs = c.toList.take vs.length := by
    apply List.ext_getElem?
    intro j
    rw [List.getElem?_take]
    split
    · rename_i hj
      have h1 := hc j vs[j] (by simp [hj])
      simp only [World.cell?, h] at h1
      simp only [hj, List.getElem?_eq_getElem]
      simpa using h1.symm
    · rename_i hj; simp; omega
  conv => lhs; rw [← List.take_append_drop vs.length c.toList]
  rw [← this]

theorem getD_mem {es : List (List D)} {i : Nat} (h : i < es.length) : es.getD i [] ∈ es := by
  simp [List.getD_eq_getElem?_getD, h]

theorem storeR_done (hT : TOk P T) (cx : Ctx G β bx w X) {t : Nat} {ti : TI} (ht : T t = some ti) {a x : AV} {ua ux : Value} (ha : RepA β bx w (okp β bx w X) a ua) (hx : RepA β bx w (okp β bx w X) x ux)
    {c : Prop} {v : AV} {b : Option (List Box)} (hr : storeR ti a x bx = some ⟨c, v, b⟩) (hc : c) :
    v = .any ∧ ∃ bx' w', b = some bx' ∧ (Instr.storeAt t ua ux).run P w = .ok () w' ∧ Ext β bx w β bx' w' ∧ Ctx G β bx' w' X := by
  have ht' := hT.ti t ti ht
  unfold storeR at hr
  split at hr
  · simp at hr
  · rename_i vs hvs
    cases hn : Nat.beq vs.length ti.size with
    | false => simp [hn] at hr
    | true =>
    have hn' := Nat.eq_of_beq_eq_true hn
    simp only [hn, cond_true] at hr
    obtain ⟨us, hcells, hus, hsc⟩ := cells_of hvs hx
    have hul := RepAs.length hus
    split at hr
    · rename_i b' off
      simp only [RepA] at ha
      obtain ⟨rfl, hb⟩ := ha
      split at hr
      · rename_i cs hbx
        cases hle : Nat.ble (off + vs.length) cs.length with
        | false => simp [hle] at hr
        | true =>
        have hle' := Nat.le_of_ble_eq_true hle
        simp only [hle, cond_true, Option.some.injEq, R.mk.injEq] at hr
        obtain ⟨_, rfl, rfl⟩ := hr
        obtain ⟨ca, e, h1, h2⟩ := cx.box _ _ hbx
        have hcl := RepAs.length h2
        have hrun := run_storeVar (P := P) ht' h1 hcells hsc (by omega) (off := off) (by simp at hcl; omega)
        refine ⟨rfl, _, _, rfl, by simpa [Instr.storeAt, Instr.sureAddr] using hrun, ?_, ?_⟩
        · exact ext_setbox hbx rfl h1 (by simp [spliceV_length]) rfl
        · have ex := ext_setbox (B' := .var (splice cs off vs)) (c' := ⟨spliceV ca.toList off us⟩) hbx rfl h1 (by simp [spliceV_length]) rfl
          refine ctx_setbox cx hbx rfl h1 (by simp [spliceV_length]) rfl ⟨_, e, setBlk_here h1, ?_⟩
          exact RepAs.mono (ex.lasts X) _ _ (RepAs.splice off h2 hus)
      · simp at hr
    · rename_i b' sz i j
      simp only [RepA] at ha
      obtain ⟨rfl, hb⟩ := ha
      split at hr
      · rename_i ds hds
        split at hr
        · rename_i s es hbx
          simp only [Option.some.injEq, R.mk.injEq] at hr
          obtain ⟨rfl, rfl, rfl⟩ := hr
          obtain ⟨rfl, hi, hj⟩ := hc
          obtain ⟨e1, c1, r1⟩ := toDs_seal vs bx ds us cx hds hus
          rcases c1.box _ _ hbx with rfl | ⟨ca, e, h1, h2⟩
          · simp at hi
          have hlens := RepRows.lens _ _ h2
          obtain ⟨vs0, g1, g2, g3⟩ := rows_cells (β := β) (bx := seals bx vs) es 0 h2
          obtain ⟨rest, hrest⟩ := cells_prefix h1 g2
          have hdl : us.length = ds.length := by simpa using RepAs.length r1
          have hrow : (es.getD i []).length = s := hlens _ (getD_mem hi)
          have hle : i * s + j + us.length ≤ vs0.length := by
            rw [g1, hdl]
            have : (i + 1) * s ≤ es.length * s := Nat.mul_le_mul_right _ hi
            rw [Nat.add_mul] at this; omega
          have hsize : ca.size = vs0.length + rest.length := by
            have := congrArg List.length hrest; simpa using this
          have hlive : (Box.row s es).live = true := by cases es <;> simp_all [Box.live]
          have hrun := run_storeVar (P := P) ht' h1 hcells hsc (by omega) (off := i * s + j) (by omega)
          have hne : es.set i (spliceD (es.getD i []) j ds) ≠ [] := by cases es <;> simp_all
          have ex := ext_setbox (B' := .row s (es.set i (spliceD (es.getD i []) j ds))) (c' := ⟨spliceV ca.toList (i * s + j) us⟩) hbx hlive h1 (by simp [spliceV_length]) rfl
          refine ⟨rfl, _, _, rfl, by simpa [Instr.storeAt, Instr.sureAddr] using hrun, e1.trans ex, ?_⟩
          refine ctx_setbox c1 hbx hlive h1 (by simp [spliceV_length]) rfl (.inr ⟨_, e, setBlk_here h1, ?_⟩)
          refine rows_of (β := β) (bx := (seals bx vs).set b' (.row s (es.set i (spliceD (es.getD i []) j ds)))) _ _ (spliceV vs0 (i * s + j) us) ?_ ?_ ?_
          · intro r hr
            rcases List.mem_or_eq_of_mem_set hr with hr | rfl
            · exact hlens r hr
            · rw [spliceD_length]; exact hrow
          · intro k u hk
            simp only [World.cell?, setBlk_here h1]
            have : (spliceV ca.toList (i * s + j) us)[k]? = some u := by
              rw [hrest, spliceV_append _ _ _ _ hle, List.getElem?_append_left]
              · exact hk
              · rcases Nat.lt_or_ge k (spliceV vs0 (i * s + j) us).length with h | h
                · exact h
                · simp [List.getElem?_eq_none h] at hk
            simpa using this
          · rw [flatten_splice es i j ds hlens hi hj, spliceD_map]
            exact RepAs.mono (ex.lasts X) _ _ (RepAs.splice _ g3 r1)
        · simp at hr
      · simp at hr
    · simp at hr

end
end Dem
end
section
open Go
namespace Dem
section
variable {P : Program} {T : Nat → Option TI} {G : Nat → Option (List D)} {β : Nat → Nat} {bx : List Box} {w : World} {X : Nat → Prop}

theorem absV_rep {ok : Nat → Prop} (v : Value) : RepA β bx w ok (absV v) v := by
  unfold absV
  split <;> simp only [RepA, RepD, KC.val]
  · exact ⟨none, rfl, .inl trivial⟩

theorem absVs_rep {ok : Nat → Prop} : ∀ vs : List Value, RepAs β bx w ok (vs.map absV) vs
  | [] => by simp [RepAs]
  | v :: vs => by simp only [List.map_cons, RepAs]; exact ⟨v, vs, rfl, absV_rep v, absVs_rep vs⟩

theorem absZ_rep {ok : Nat → Prop} (v : Value) : RepA β bx w ok (absZ v) v := by
  unfold absZ
  split
  · rename_i cs
    simp only [RepA]
    exact ⟨cs.toList, rfl, absVs_rep _⟩
  · exact absV_rep v

/-- a new variable -/
theorem newVar_done (cx : Ctx G β bx w X) (t : Nat) {x : AV} {u : Value} {cs : List AV} (hx : x.cells? = some cs) (h : RepA β bx w (okp β bx w X) x u) :
    ∃ β' w', (newVar t u).run P w = .ok ⟨β' bx.length, 0, none⟩ w' ∧ Ext β bx w β' (bx ++ [.var cs]) w' ∧ Ctx G β' (bx ++ [.var cs]) w' X := by
  obtain ⟨vs, h1, h2, h3⟩ := cells_of hx h
  refine ⟨upd β bx.length w.heap.size, { w with heap := w.heap.push (.cells ⟨vs⟩ t) }, ?_, ext_pushbox _ _, ctx_pushbox cx _ _ ?_⟩
  · simp [newVar, newRow, newObj, Sem.run, h1, upd_same]
  · refine ⟨⟨vs⟩, t, push_new _ _, ?_⟩
    exact RepAs.mono ((ext_pushbox (β := β) (bx := bx) (w := w) (.cells ⟨vs⟩ t) (.var cs)).lasts X) _ _ h2

theorem get_append_len (bx : List Box) (B : Box) : (bx ++ [B])[bx.length]? = some B := by simp

theorem field_place {t : Nat} {ti : TI} (ht : tiOf P t = some ti) {f o ft : Nat} (ho : offOf ti.kd f = some (o, ft)) {tf : TI} (hft : tiOf P ft = some tf) (hs : tf.size ≠ 0) (blk off : Nat) :
    (Instr.fieldAt t (.pointer (some ⟨blk, off, none⟩)) f).run P w = .ok (.pointer (some ⟨blk, off + o, none⟩)) w := by
  obtain ⟨i, d, h1, h2, h3, h4, h5, h6⟩ := tiOf_inv ht
  obtain ⟨fi, fd, g1, g2, g3, g4, g5, g6⟩ := tiOf_inv hft
  rw [h5] at ho
  cases d <;> simp [kdOf, offOf] at ho
  rename_i fs
  obtain ⟨fl, hfl, rfl, rfl⟩ := ho
  have hsz : fi.size ≠ 0 := by rw [← g3]; exact hs
  simp [Instr.fieldAt, run_und h2, hfl, Instr.sureAddr, fieldPlace, run_size g1, hsz, addr_add]

theorem part_run {t : Nat} {ti : TI} (ht : tiOf P t = some ti) {cs : List AV} {v : AV} {vs : List Value} {ok : Nat → Prop} {off : Nat}
    (hs : splitA ti.kd.isAgg ti.size (cs.drop off) = some v) (hr : RepAs β bx w ok cs vs) :
    ∃ u, (part t ⟨vs⟩ off).run P w = .ok u w ∧ RepA β bx w ok v u := by
  obtain ⟨i, d, h1, h2, h3, h4, h5, h6⟩ := tiOf_inv ht
  have hr' := RepAs.drop off hr
  unfold splitA at hs
  simp only [part, Sem.run_bind, run_isAgg h2, Result.andThen_ok, h5] at hs ⊢
  cases hk : (kdOf d).isAgg with
  | true =>
    simp only [hk, cond_true] at hs
    cases hle : Nat.ble ti.size (cs.drop off).length with
    | false => rw [hle] at hs; simp at hs
    | true =>
      simp only [hle, cond_true, Option.some.injEq] at hs
      subst hs
      simp only [if_true, Sem.run_bind, run_size h1, Result.andThen_ok]
      refine ⟨_, rfl, ?_⟩
      simp only [RepA]
      refine ⟨(vs.drop off).take ti.size, ?_, RepAs.take _ hr'⟩
      simp [h3, List.extract_eq_take_drop]
  | false =>
    simp only [hk, cond_false] at hs
    cases hc : cs.drop off with
    | nil => simp [hc] at hs
    | cons c cs' =>
      simp [hc] at hs; subst hs
      rw [hc] at hr'
      simp only [RepAs] at hr'
      obtain ⟨u, us, hd, g1, _⟩ := hr'
      have : vs[off]? = some u := by
        have := congrArg (fun l => l[0]?) hd
        simpa using this
      simp [this]
      exact g1

/-- arithmetic -/
theorem binI_run (ok : Nat → Prop) {op : BinOp} {k : IntKind} {x y : Int} {c : Prop} {d : D} (h : binI op k x y = some (c, d)) (hc : c) (t : Nat) :
    ∃ u, (Go.binOp op t (.int k x) (.int k y)).run P w = .ok u w ∧ RepD w ok d u := by
  cases op <;> simp only [binI, Option.some.injEq, Prod.mk.injEq, reduceCtorEq] at h <;> obtain ⟨rfl, rfl⟩ := h <;>
    simp [Go.binOp, Op.intArith, Op.intDiv, Op.intBits, Op.intCmp, RepD, hc] <;> first | rfl | (simp [bne]; done) | skip

theorem toList_mk (s : List UInt8) : (⟨s.toArray⟩ : ByteArray).toList = s := by rw [ByteArray.toList_eq]

theorem beq_dec (x y : List UInt8) : (x == y) = decide (x = y) := by
  cases h : (x == y)
  · simp at h; simp [h]
  · simp at h; simp [h]

theorem binS_run (ok : Nat → Prop) {op : BinOp} {x y : List UInt8} {c : Prop} {d : D} (h : binS op x y = some (c, d)) (hc : c) (t : Nat) :
    ∃ u, (Go.binOp op t (.string ⟨x.toArray⟩) (.string ⟨y.toArray⟩)).run P w = .ok u w ∧ RepD w ok d u := by
  cases op <;> simp only [binS, Option.some.injEq, Prod.mk.injEq, reduceCtorEq] at h <;> obtain ⟨rfl, rfl⟩ := h <;>
    simp only [Go.binOp, Op.stringOp, toList_mk]
  · have : ¬ (((⟨x.toArray⟩ : ByteArray).size + (⟨y.toArray⟩ : ByteArray).size : Nat) : Int) > IntKind.i64.max := by
      have h1 : (⟨x.toArray⟩ : ByteArray).size = x.length := by simp [ByteArray.size]
      have h2 : (⟨y.toArray⟩ : ByteArray).size = y.length := by simp [ByteArray.size]
      have h3 : IntKind.i64.max = 9223372036854775807 := by decide
      rw [h1, h2, h3]; omega
    rw [if_neg this]
    refine ⟨_, rfl, ?_⟩
    simp only [RepD]
    congr 1
  all_goals exact ⟨_, rfl, by simp [RepD, beq_dec]⟩

theorem binR_run {op : BinOp} {x y : AV} {ux uy : Value} {c : Prop} {d : D} {ok : Nat → Prop} (h : binR op x y = some (c, d)) (hc : c) (hx : RepA β bx w ok x ux) (hy : RepA β bx w ok y uy) (t : Nat) :
    ∃ u, (Go.binOp op t ux uy).run P w = .ok u w ∧ RepD w ok d u ∧ (∀ a b : Operand, (eqGuard op t a b ux uy).run P w = .ok () w) := by
  have guardInt : ∀ (k : IntKind) (n : Int) (v : Value) (a b : Operand), (eqGuard op t a b (.int k n) v).run P w = .ok () w := by
    intro k n v a b; simp only [eqGuard]; split <;> simp
  have guardStr : ∀ (s : ByteArray) (v : Value) (a b : Operand), (eqGuard op t a b (.string s) v).run P w = .ok () w := by
    intro s v a b; simp only [eqGuard]; split <;> simp
  unfold binR at h
  split at h
  · simp only [RepA, RepD] at hx hy; subst hx; subst hy
    simp only [Option.some.injEq, Prod.mk.injEq] at h; obtain ⟨rfl, rfl⟩ := h
    have hn := Int.not_lt.2 hc
    exact ⟨_, by simp only [Go.binOp, Op.shift, if_neg hn]; rfl, by simp only [RepD], guardInt _ _ _⟩
  · simp only [RepA, RepD] at hx hy; subst hx; subst hy
    simp only [Option.some.injEq, Prod.mk.injEq] at h; obtain ⟨rfl, rfl⟩ := h
    have hn := Int.not_lt.2 hc
    exact ⟨_, by simp only [Go.binOp, Op.shift, if_neg hn]; rfl, by simp only [RepD], guardInt _ _ _⟩
  · rename_i k x k' y _ _
    simp only [RepA, RepD] at hx hy; subst hx; subst hy
    cases hk : (k == k') with
    | false => simp [hk] at h
    | true =>
      simp only [hk, cond_true] at h
      have : k = k' := by simpa using hk
      subst this
      obtain ⟨u, h1, h2⟩ := binI_run (P := P) (w := w) ok h hc t
      exact ⟨u, h1, h2, guardInt _ _ _⟩
  · rename_i x y _ _
    simp only [RepA, RepD] at hx hy; subst hx; subst hy
    obtain ⟨u, h1, h2⟩ := binS_run (P := P) (w := w) ok h hc t
    exact ⟨u, h1, h2, guardStr _ _⟩
  · simp at h

theorem unR_run {op : UnOp} {x : AV} {ux : Value} {d : D} {ok : Nat → Prop} (h : unR op x = some d) (hx : RepA β bx w ok x ux) :
    ∃ u, (Op.unary op ux).run P w = .ok u w ∧ RepD w ok d u := by
  unfold unR at h
  split at h <;> (try (simp at h; done)) <;> simp only [RepA, RepD] at hx <;> subst hx <;> simp only [Option.some.injEq] at h <;> subst h
  · exact ⟨_, rfl, by simp [RepD]⟩
  · exact ⟨_, rfl, by simp [RepD]⟩
  · exact ⟨_, rfl, by simp [RepD]⟩

end
end Dem
end
section
open Go
namespace Dem
section
variable {P : Program} {T : Nat → Option TI} {G : Nat → Option (List D)} {β : Nat → Nat} {bx : List Box} {w : World} {X : Nat → Prop}

theorem RepRows.drop {ok : Nat → Prop} {blk sz : Nat} : ∀ (n : Nat) (es : List (List D)) (off : Nat), RepRows w ok blk sz es off → RepRows w ok blk sz (es.drop n) (off + n * sz)
  | 0, es, off, h => by simpa using h
  | n + 1, [], off, h => by simp [RepRows]
  | n + 1, r :: rs, off, h => by
    simp only [RepRows] at h
    have := RepRows.drop n rs (off + sz) h.2.2
    simpa [Nat.add_mul, show off + sz + n * sz = off + (n * sz + sz) by omega] using this

theorem RepRows.take {ok : Nat → Prop} {blk sz : Nat} : ∀ (n : Nat) (es : List (List D)) (off : Nat), RepRows w ok blk sz es off → RepRows w ok blk sz (es.take n) off
  | 0, es, off, h => by simp [RepRows]
  | n + 1, [], off, h => by simp [RepRows]
  | n + 1, r :: rs, off, h => by
    simp only [RepRows] at h
    simp only [List.take_succ_cons, RepRows]
    exact ⟨h.1, h.2.1, RepRows.take n rs _ h.2.2⟩

/-- a bound as a value -/
def BV : Option Int → Option Value → Prop
  | none, none => True
  | some z, some (.int _ z') => z' = z
  | _, _ => False

theorem bnd_bv {ev : Operand → AV} {ρ : Operand → Value} {x : Option Operand} {l : Option Int} {ok : Nat → Prop} (h : bnd ev x = some l) (hr : ∀ y, x = some y → RepA β bx w ok (ev y) (ρ y)) : BV l (x.map ρ) := by
  cases x with
  | none => simp [bnd] at h; subst h; trivial
  | some y =>
    have hy := hr y rfl
    simp only [bnd] at h
    split at h
    · rename_i k n he
      simp at h; subst h
      rw [he] at hy
      simp only [RepA, RepD] at hy
      simp [BV, hy]
    · simp at h


theorem cutL_eq {α : Type} (l : List α) (lo hi : Option Int) : cutL l lo hi = (l.drop (lowOf lo)).take (highOf l.length hi - lowOf lo) := by
  cases lo <;> cases hi <;> simp [cutL, lowOf, highOf]
  rw [List.take_of_length_le]; simp

theorem cutC_le {len : Nat} {lo hi : Option Int} (h : cutC len lo hi) : lowOf lo ≤ highOf len hi ∧ highOf len hi ≤ len := by
  cases lo <;> cases hi <;> simp [cutC, lowOf, highOf] at * <;> omega

theorem run_bound {x : Value} {z : Int} {y : Nat} {code : BoundsCode} (hx : BV (some z) (some x)) (h0 : 0 ≤ z) (h1 : z ≤ y) : (Instr.sliceBound x y code).run P w = .ok z.toNat w := by
  cases x <;> simp [BV] at hx
  subst hx
  simp [Instr.sliceBound, asIntOf, h0, h1]

theorem run_bounds {isS : Bool} {len cap : Nat} {lo hi : Option Int} {vl vh : Option Value} (hl : BV lo vl) (hh : BV hi vh) (hc : cutC len lo hi) (hcap : len ≤ cap) :
    (Instr.sliceBounds isS len cap vl vh none).run P w = .ok (lowOf lo, highOf len hi, cap) w := by
  have hle := cutC_le hc
  have low : ∀ (x : Value) (z : Int), BV (some z) (some x) → lo = some z → (Instr.sliceBound x (highOf len hi) .sliceB).run P w = .ok z.toNat w := by
    intro x z hx he
    subst he
    exact run_bound hx (by cases hi <;> simp [cutC] at hc <;> omega) (by simp [lowOf] at hle; omega)
  cases hi with
  | none =>
    cases vh with
    | some _ => simp [BV] at hh
    | none =>
    cases lo with
    | none => cases vl <;> simp [BV] at hl; simp [Instr.sliceBounds, lowOf, highOf]
    | some z =>
      cases vl with
      | none => simp [BV] at hl
      | some x =>
        have := low x z hl rfl
        simp only [highOf] at this
        simp [Instr.sliceBounds, this, lowOf, highOf]
  | some h =>
    cases vh with
    | none => simp [BV] at hh
    | some xh =>
    have hb := run_bound (P := P) (w := w) (y := cap) (code := if isS then .sliceAcap else .sliceAlen) hh (by cases lo <;> simp [cutC] at hc <;> omega) (by cases lo <;> simp [cutC] at hc <;> omega)
    cases lo with
    | none => cases vl <;> simp [BV] at hl; simp [Instr.sliceBounds, lowOf, highOf, hb]
    | some z =>
      cases vl with
      | none => simp [BV] at hl
      | some x =>
        have := low x z hl rfl
        simp only [highOf] at this
        simp [Instr.sliceBounds, this, lowOf, highOf, hb]

theorem run_bounds3 {len cap : Nat} {lo : Option Int} {h : Int} {vl : Option Value} {xh xm : Value} (hl : BV lo vl) (hh : BV (some h) (some xh)) (hm : BV (some h) (some xm)) (hc : cutC len lo (some h)) (hcap : len ≤ cap) :
    (Instr.sliceBounds true len cap vl (some xh) (some xm)).run P w = .ok (lowOf lo, h.toNat, h.toNat) w := by
  have hle := cutC_le hc
  have h0 : 0 ≤ h ∧ h ≤ len := by cases lo <;> simp [cutC] at hc <;> omega
  unfold Instr.sliceBounds
  simp only [Sem.run_bind]
  rw [run_bound hm h0.1 (by omega)]
  simp only [Result.andThen_ok]
  rw [run_bound hh h0.1 (by omega)]
  simp only [Result.andThen_ok]
  cases lo with
  | none => cases vl <;> simp [BV] at hl; simp [lowOf]
  | some z =>
    cases vl with
    | none => simp [BV] at hl
    | some x =>
      have hz : 0 ≤ z ∧ z ≤ h := by simp [cutC] at hc; omega
      simp only [Sem.run_bind]
      rw [run_bound hl hz.1 (by omega)]
      simp [lowOf]

/-- a part of rows -/
theorem rows_cut {ok : Nat → Prop} {base : Option Addr} {es : List (List D)} {lo hi : Option Int} {m size : Nat} (hc : cutC es.length lo hi) (hm : highOf es.length hi ≤ m)
    (hs : ∀ r ∈ es, r.length = size) (h : es = [] ∨ ∃ blk off sz, base = some ⟨blk, off, none⟩ ∧ ok blk ∧ RepRows w ok blk sz es off) :
    (cutL es lo hi).length = highOf es.length hi - lowOf lo ∧
    (cutL es lo hi = [] ∨ ∃ blk off sz, (if m = lowOf lo then base else base.map (·.add (lowOf lo * size))) = some ⟨blk, off, none⟩ ∧ ok blk ∧ RepRows w ok blk sz (cutL es lo hi) off) := by
  have hle := cutC_le hc
  have hlen : (cutL es lo hi).length = highOf es.length hi - lowOf lo := by rw [cutL_eq]; simp; omega
  refine ⟨hlen, ?_⟩
  by_cases hcut : cutL es lo hi = []
  · exact .inl hcut
  · refine .inr ?_
    have hpos : 0 < (cutL es lo hi).length := List.length_pos_iff.2 hcut
    have hne : es ≠ [] := by rintro rfl; simp [cutL_eq] at hpos
    rcases h with h | ⟨blk, off, sz, rfl, h1, h2⟩
    · exact absurd h hne
    · have hsz : sz = size := by
        cases es with
        | nil => exact absurd rfl hne
        | cons r rs => simp only [RepRows] at h2; rw [← h2.1]; exact hs r (by simp)
      subst hsz
      rw [if_neg (by omega)]
      refine ⟨blk, off + lowOf lo * sz, sz, by simp [addr_add], h1, ?_⟩
      rw [cutL_eq]
      exact RepRows.take _ _ _ (RepRows.drop _ _ _ h2)

theorem sealOr {x : AV} (h : ownless [x] = true) : x.sealB bx = bx := by cases x <;> simp_all [AV.sealB, ownless]

theorem chunk_rows {ok : Nat → Prop} {blk sz : Nat} : ∀ (n : Nat) (ds : List D) (off : Nat), n * sz ≤ ds.length → RepRow w ok blk ds off → RepRows w ok blk sz (chunk sz n ds) off ∧ (chunk sz n ds).length = n
  | 0, ds, off, _, _ => by simp [chunk, RepRows]
  | n + 1, ds, off, hl, h => by
    rw [Nat.add_mul] at hl
    obtain ⟨h1, h2⟩ := chunk_rows (sz := sz) n (ds.drop sz) (off + sz) (by simp; omega) (RepRow.drop sz ds off h)
    simp only [chunk, RepRows, List.length_cons, h2, and_true]
    exact ⟨by simp; omega, RepRow.take _ _ _ h, h1⟩

theorem sliceR_done (hT : TOk P T) (cx : Ctx G β bx w X) {t : Nat} {x : AV} {ux : Value} {lo hi mx : Option Int} {vl vh vm : Option Value} (hx : RepA β bx w (okp β bx w X) x ux)
    (hl : BV lo vl) (hh : BV hi vh) (hm : BV mx vm) {c : Prop} {v : AV} {b : Option (List Box)} (hr : sliceR T t x lo hi mx bx = some ⟨c, v, b⟩) (hc : c) :
    ∃ u, (Instr.sliceAt t ux vl vh vm).run P w = .ok u w ∧ Ext β bx w β (orBx bx b) w ∧ Ctx G β (orBx bx b) w X ∧
      RepA β (orBx bx b) w (okp β (orBx bx b) w X) v u := by
  unfold sliceR at hr
  cases ht : T t with
  | none => simp [ht] at hr
  | some ti =>
  have ht' := hT.ti t ti ht
  obtain ⟨i, d, h1, h2, h3, h4, h5, h6⟩ := tiOf_inv ht'
  simp only [ht] at hr
  have sealm : orBx bx (bif ownless [x] then none else some (x.sealB bx)) = x.sealB bx := by
    cases ho : ownless [x] with
    | true => simp [sealOr ho, orBx]
    | false => rfl
  cases hk : ti.kd with
  | str =>
    rw [hk] at hr
    rw [hk] at h5
    cases d <;> simp [kdOf] at h5
    cases mx with
    | some _ => cases x <;> simp at hr
    | none =>
    cases x with
    | d y =>
      cases y with
      | str s =>
        simp only [R.when, Option.some.injEq, R.mk.injEq] at hr
        obtain ⟨rfl, rfl, rfl⟩ := hr
        simp only [RepA, RepD] at hx
        subst hx
        have hmn : vm = none := by cases vm <;> simp [BV] at hm; rfl
        subst hmn
        have hb := run_bounds (P := P) (w := w) (isS := false) hl hh hc (Nat.le_refl _)
        refine ⟨.string ((⟨s.toArray⟩ : ByteArray).extract (lowOf lo) (highOf s.length hi)), ?_, Ext.refl _ _ _, cx, ?_⟩
        · have hsz : (⟨s.toArray⟩ : ByteArray).size = s.length := by simp [ByteArray.size]
          simp only [Instr.sliceAt, Sem.run_bind, run_und h2, Result.andThen_ok, Instr.slice, hsz]
          simp [hb]
        · simp only [RepA, RepD, cutL_eq]
          rw [Lib.extract_eq]
      | _ => simp at hr
    | _ => simp at hr
  | slice e =>
    rw [hk] at hr
    rw [hk] at h5
    cases d <;> simp [kdOf] at h5
    subst h5
    cases mx with
    | none =>
      have hr2 : (match x.rows bx, T e with
        | some es, some te => some (R.mk (cutC es.length lo hi ∧ ∀ r ∈ es, r.length = te.size) (.d (.sl (cutL es lo hi))) (bif ownless [x] then none else some (x.sealB bx)))
        | _, _ => none) = some ⟨c, v, b⟩ := by
        cases x <;> first | exact hr | (rename_i y; cases y <;> exact hr)
      clear hr
      split at hr2
      · rename_i es te hes hte
        simp only [Option.some.injEq, R.mk.injEq] at hr2
        obtain ⟨rfl, rfl, rfl⟩ := hr2
        obtain ⟨hc1, hc2⟩ := hc
        obtain ⟨ei, ed, g1, g2, g3, g4, g5, g6⟩ := tiOf_inv (hT.ti _ _ hte)
        obtain ⟨k1, k2, base, cap, rfl, k3, k4⟩ := rows_seal cx hes hx
        rw [sealm]
        have hmn : vm = none := by cases vm <;> simp [BV] at hm; rfl
        subst hmn
        have hb := run_bounds (P := P) (w := w) (isS := true) hl hh hc1 k3
        have hle := cutC_le hc1
        obtain ⟨j1, j2⟩ := rows_cut (w := w) (m := cap) hc1 (by omega) (fun r hr => by rw [hc2 r hr]) k4
        refine ⟨.slice (if cap = lowOf lo then base else base.map (·.add (lowOf lo * te.size))) (highOf es.length hi - lowOf lo) (cap - lowOf lo), ?_, k1, k2, ?_⟩
        · simp [Instr.sliceAt, run_und h2, Instr.slice, hb, run_size g1, g3]
        · simp only [RepA, RepD]
          exact ⟨_, _, by rw [j1], by rw [j1]; omega, j2⟩
      · simp at hr2
    | some m =>
      have hr2 : (match x.rows bx, hi, T e with
        | some es, some h, some te => some (R.mk ((cutC es.length lo (some h) ∧ m = h) ∧ ∀ r ∈ es, r.length = te.size) (.cl (cutL es lo (some h))) (bif ownless [x] then none else some (x.sealB bx)))
        | _, _, _ => none) = some ⟨c, v, b⟩ := by
        cases x <;> first | exact hr | (rename_i y; cases y <;> exact hr)
      clear hr
      split at hr2
      · rename_i es h te hes hte
        simp only [Option.some.injEq, R.mk.injEq] at hr2
        obtain ⟨rfl, rfl, rfl⟩ := hr2
        obtain ⟨⟨hc1, rfl⟩, hc2⟩ := hc
        obtain ⟨ei, ed, g1, g2, g3, g4, g5, g6⟩ := tiOf_inv (hT.ti _ _ hte)
        obtain ⟨k1, k2, base, cap, rfl, k3, k4⟩ := rows_seal cx hes hx
        rw [sealm]
        cases vm with
        | none => simp [BV] at hm
        | some xm =>
        cases vh with
        | none => simp [BV] at hh
        | some xh =>
        have hb := run_bounds3 (P := P) (w := w) hl hh hm hc1 k3
        have hle := cutC_le hc1
        obtain ⟨j1, j2⟩ := rows_cut (w := w) (m := m.toNat) hc1 (by simp [highOf]) (fun r hr => by rw [hc2 r hr]) k4
        refine ⟨.slice (if m.toNat = lowOf lo then base else base.map (·.add (lowOf lo * te.size))) (m.toNat - lowOf lo) (m.toNat - lowOf lo), ?_, k1, k2, ?_⟩
        · simp [Instr.sliceAt, run_und h2, Instr.slice, hb, run_size g1, g3]
        · simp only [RepA]
          refine ⟨_, ?_, j2⟩
          rw [j1]; rfl
      · simp at hr2
  | array n e =>
    rw [hk] at hr
    rw [hk] at h5
    cases d <;> simp [kdOf] at h5
    obtain ⟨rfl, rfl⟩ := h5
    cases mx with
    | some _ => cases x <;> simp at hr
    | none =>
    cases x with
    | ep ds =>
      cases lo with
      | some _ => simp at hr
      | none =>
      cases hi with
      | some _ => simp at hr
      | none =>
      cases hte : T e with
      | none => simp [hte] at hr
      | some te =>
        simp only [hte, R.when, Option.some.injEq, R.mk.injEq] at hr
        obtain ⟨rfl, rfl, rfl⟩ := hr
        obtain ⟨ei, ed, g1, g2, g3, g4, g5, g6⟩ := tiOf_inv (hT.ti _ _ hte)
        simp only [RepA] at hx
        obtain ⟨blk, off, rfl, k1, k2⟩ := hx
        have e1 : vl = none := by cases vl <;> simp [BV] at hl; rfl
        have e2 : vh = none := by cases vh <;> simp [BV] at hh; rfl
        have e3 : vm = none := by cases vm <;> simp [BV] at hm; rfl
        subst e1; subst e2; subst e3
        obtain ⟨j1, j2⟩ := chunk_rows (w := w) _ ds off hc k2
        refine ⟨.slice (some ⟨blk, off, none⟩) (chunk te.size n ds).length (chunk te.size n ds).length, ?_, Ext.refl _ _ _, cx, ?_⟩
        · simp [Instr.sliceAt, run_und h2, Instr.sureAddr, Instr.sliceBounds, run_size g1, j2, addr_add]
        · simp only [RepA, RepD]
          exact ⟨_, _, rfl, Nat.le_refl _, .inr ⟨blk, off, _, rfl, k1, j1⟩⟩
    | _ => simp at hr
  | _ => rw [hk] at hr; cases mx <;> cases x <;> simp at hr

end
end Dem
end
