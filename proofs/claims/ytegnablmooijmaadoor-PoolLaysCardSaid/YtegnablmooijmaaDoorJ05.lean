/- JOINED TEXTS: Abs8, Abs9. -/
import Derived.Test.YtegnablmooijmaaDoorJ04
set_option linter.unusedSimpArgs false
set_option linter.unusedVariables false
section
open Go
namespace Dem
section
variable {P : Program} {T : Nat → Option TI} {G : Nat → Option (List D)} {β : Nat → Nat} {bx : List Box} {w : World} {X : Nat → Prop}

theorem foldl_splice (vs : List Value) : ∀ (k : Nat) (cs : Array Value) (off : Nat), (vs.zipIdx k).foldl (fun cs (p : Value × Nat) => cs.setIfInBounds (off + p.2) p.1) cs = ⟨spliceV cs.toList (off + k) vs⟩ := by
  induction vs with
  | nil => intro k cs off; cases h : cs.toList <;> simp [spliceV] <;> (have : cs = ⟨cs.toList⟩ := rfl; rw [this, h])
  | cons v vs ih =>
    intro k cs off
    simp only [List.zipIdx_cons, List.foldl_cons]
    rw [ih, spliceV_step]
    simp [show off + (k + 1) = off + k + 1 by omega]

/-- the parts, as values -/
def PartsRep (β : Nat → Nat) (bx : List Box) (w : World) (ok : Nat → Prop) : List (Nat × AV) → List (Nat × Value) → Prop
  | [], vs => vs = []
  | (i, x) :: r, vs => ∃ u us, vs = (i, u) :: us ∧ RepA β bx w ok x u ∧ PartsRep β bx w ok r us

theorem fill_run {ok : Nat → Prop} {sizes : Nat → Option (Nat × Nat)} : ∀ (parts : List (Nat × AV)) (vs : List (Nat × Value)) (cs : List AV) (cv : List Value) (out : List AV), PartsRep β bx w ok parts vs →
    RepAs β bx w ok cs cv → fillR sizes cs parts = some out → ∃ ov, Instr.fill sizes ⟨cv⟩ vs = some ⟨ov⟩ ∧ RepAs β bx w ok out ov
  | [], vs, cs, cv, out, hp, hc, ho => by
    simp only [PartsRep] at hp; subst hp
    simp only [fillR, Option.some.injEq] at ho; subst ho
    exact ⟨cv, by simp [Instr.fill], hc⟩
  | (i, x) :: r, vs, cs, cv, out, hp, hc, ho => by
    simp only [PartsRep] at hp
    obtain ⟨u, us, rfl, h1, h2⟩ := hp
    simp only [fillR] at ho
    split at ho
    · rename_i off size xs hs hx
      obtain ⟨ws, g1, g2, g3⟩ := cells_of hx h1
      have hl := RepAs.length g2
      have hcl := RepAs.length hc
      cases hb : (Nat.beq xs.length size && Nat.ble (off + xs.length) cs.length) with
      | false => simp [hb] at ho
      | true =>
        simp only [hb, cond_true] at ho
        simp only [Bool.and_eq_true] at hb
        have b1 := Nat.eq_of_beq_eq_true hb.1
        have b2 := Nat.le_of_ble_eq_true hb.2
        obtain ⟨ov, k1, k2⟩ := fill_run r us (splice cs off xs) (spliceV cv off ws) out h2 (RepAs.splice off hc g2) ho
        refine ⟨ov, ?_, k2⟩
        simp only [Instr.fill, hs, g1]
        have e1 : ¬ ((ws.toArray.size ≠ size || decide (off + ws.toArray.size > (⟨cv⟩ : Array Value).size)) = true) := by
          simp; omega
        have e2 := foldl_splice ws 0 ⟨cv⟩ off
        simp only [Nat.add_zero] at e2
        simp only [List.size_toArray] at e1 ⊢
        rw [if_neg (by simpa using e1)]
        have e3 : (Array.foldl (fun cs (x : Value × Nat) => match x with | (c, j) => cs.setIfInBounds (off + j) c) (⟨cv⟩ : Array Value) ws.toArray.zipIdx) = ⟨spliceV cv off ws⟩ := by
          rw [← e2]
          simp
        rw [e3]
        exact k1
    · simp at ho

theorem zero_of {t : Nat} {ti : TI} (ht : tiOf P t = some ti) {z : List AV} (hz : ti.zero.cells? = some z) {ok : Nat → Prop} :
    ∃ v vs, (zeroValue t).run P w = .ok v w ∧ v.cells = ⟨vs⟩ ∧ RepAs β bx w ok z vs ∧ (∀ u ∈ vs, scV u) := by
  obtain ⟨i, d, h1, h2, h3, h4, h5, h6⟩ := tiOf_inv ht
  cases hzz : i.zero with
  | none => rw [h6, hzz] at hz; simp [AV.cells?] at hz
  | some v =>
    rw [h6, hzz] at hz
    obtain ⟨vs, g1, g2, g3⟩ := cells_of (ok := ok) (β := β) (bx := bx) (w := w) hz (absZ_rep v)
    exact ⟨v, vs, run_zero h1 hzz, g1, g2, g3⟩

theorem mapM_sizes (hT : TOk P T) : ∀ (fs : List Field) , (∀ f ∈ fs, ∃ tf, T f.type = some tf) →
    (fs.mapM fun f => (do pure (f.offset, ← Go.sizeOf f.type) : Sem (Nat × Nat))).run P w = .ok (fs.map fun f => (f.offset, ((T f.type).map (·.size)).getD 0)) w
  | [], _ => by simp
  | f :: fs, h => by
    obtain ⟨tf, htf⟩ := h f (by simp)
    obtain ⟨i, d, h1, h2, h3, h4, h5, h6⟩ := tiOf_inv (hT.ti _ _ htf)
    have ih := mapM_sizes hT fs (fun g hg => h g (by simp [hg]))
    simp only [List.mapM_cons, Sem.run_bind, run_size h1, Result.andThen_ok, Sem.run_pure, List.map_cons]
    rw [ih]
    simp [htf, h3]

theorem buildR_done (hT : TOk P T) {t : Nat} {parts : List (Nat × AV)} {vs : Array (Nat × Value)} (hp : PartsRep β bx w (okp β bx w X) parts vs.toList)
    {c : Prop} {v : AV} {b : Option (List Box)} (hr : buildR T t parts = some ⟨c, v, b⟩) :
    b = none ∧ ∃ u, (Instr.build t vs).run P w = .ok u w ∧ RepA β bx w (okp β bx w X) v u := by
  unfold buildR at hr
  cases ht : T t with
  | none => simp [ht] at hr
  | some ti =>
  have ht' := hT.ti t ti ht
  obtain ⟨i, d, h1, h2, h3, h4, h5, h6⟩ := tiOf_inv ht'
  simp only [ht] at hr
  cases hz : ti.zero.cells? with
  | none => simp [hz] at hr
  | some z =>
  obtain ⟨zv, zs, z1, z2, z3, _⟩ := zero_of (β := β) (bx := bx) (w := w) (ok := okp β bx w X) ht' hz
  simp only [hz] at hr
  cases hk : ti.kd with
  | struct fs =>
    rw [hk] at hr h5
    cases d <;> simp [kdOf] at h5
    rename_i fields
    subst h5
    simp only at hr
    split at hr
    · rename_i out ho
      simp only [R.pure, Option.some.injEq, R.mk.injEq] at hr
      obtain ⟨_, rfl, rfl⟩ := hr
      have hall : ∀ f ∈ fields.toList, ∃ tf, T f.type = some tf := by
        intro f hf
        exact hT.fields t ti _ ht hk (f.offset, f.type) (List.mem_map.2 ⟨f, hf, rfl⟩)
      have hm := mapM_sizes (w := w) hT fields.toList hall
      have hm' : (fields.mapM fun f => (do pure (f.offset, ← Go.sizeOf f.type) : Sem (Nat × Nat))).run P w = .ok ⟨fields.toList.map fun f => (f.offset, ((T f.type).map (·.size)).getD 0)⟩ w := by
        rw [Array.mapM_eq_mapM_toList, Sem.run_map, hm]; rfl
      obtain ⟨ov, k1, k2⟩ := fill_run parts vs.toList z zs out hp z3 ho
      refine ⟨rfl, .agg ⟨ov⟩, ?_, by simp only [RepA]; exact ⟨ov, rfl, k2⟩⟩
      have hfun : (fun (i : Nat) => ((⟨fields.toList.map fun f => (f.offset, ((T f.type).map (·.size)).getD 0)⟩ : Array (Nat × Nat)))[i]?) =
          (fun (i : Nat) => match ((fields.toList.map fun f => (f.offset, f.type) : List (Nat × Nat)))[i]? with | some (o, ft) => (T ft).map fun (x : TI) => (o, x.size) | none => none) := by
        funext i
        simp only [List.getElem?_toArray, List.getElem?_map]
        cases hf : fields.toList[i]? with
        | none => simp
        | some f =>
          obtain ⟨tf, htf⟩ := hall f (List.mem_of_getElem? hf)
          simp [htf]
      have hfill : Instr.fill (fun (i : Nat) => ((⟨fields.toList.map fun f => (f.offset, ((T f.type).map (·.size)).getD 0)⟩ : Array (Nat × Nat)))[i]?) ⟨zs⟩ vs.toList = some ⟨ov⟩ := by
        rw [hfun]; exact k1
      simp only [Instr.build, Sem.run_bind, z1, Result.andThen_ok, run_und h2, hm', z2]
      rw [hfill]
      simp
    · simp at hr
  | array n e =>
    rw [hk] at hr h5
    cases d <;> simp [kdOf] at h5
    obtain ⟨rfl, rfl⟩ := h5
    cases hte : T e with
    | none => simp [hte] at hr
    | some te =>
      obtain ⟨ei, ed, g1, g2, g3, g4, g5, g6⟩ := tiOf_inv (hT.ti _ _ hte)
      simp only [hte] at hr
      split at hr
      · rename_i out ho
        simp only [R.pure, Option.some.injEq, R.mk.injEq] at hr
        obtain ⟨_, rfl, rfl⟩ := hr
        obtain ⟨ov, k1, k2⟩ := fill_run parts vs.toList z zs out hp z3 ho
        refine ⟨rfl, .agg ⟨ov⟩, ?_, by simp only [RepA]; exact ⟨ov, rfl, k2⟩⟩
        simp [Instr.build, z1, z2, run_und h2, run_size g1, ← g3, k1]
      · simp at hr
  | _ => rw [hk] at hr; simp at hr


/- slice literals -/
theorem rowsOf_run {size : Nat} : ∀ (parts : List (Nat × AV)) (bx : List Box) (vs : List (Nat × Value)) (rs : List (List D)), Ctx G β bx w X → PartsRep β bx w (okp β bx w X) parts vs → rowsOf bx size parts = some rs →
    Ext β bx w β (sealParts bx parts) w ∧ Ctx G β (sealParts bx parts) w X ∧ rs.length = parts.length ∧ (∀ r ∈ rs, r.length = size) ∧
    ∃ us : List Value, RepAs β (sealParts bx parts) w (okp β (sealParts bx parts) w X) (rs.flatten.map .d) us ∧ (∀ u ∈ us, scV u) ∧
      (vs.flatMap fun p => p.2.cells.toList) = us ∧ (∀ p ∈ vs, p.2.cells.size = size)
  | [], bx, vs, rs, cx, hp, hr => by
    simp only [PartsRep] at hp; subst hp
    simp only [rowsOf, Option.some.injEq] at hr; subst hr
    exact ⟨Ext.refl _ _ _, cx, rfl, by simp, [], by simp [RepAs], by simp, by simp, by simp⟩
  | (i, x) :: r, bx, vs, rs, cx, hp, hr => by
    simp only [PartsRep] at hp
    obtain ⟨u, us, rfl, h1, h2⟩ := hp
    simp only [rowsOf] at hr
    split at hr
    · rename_i xs hx
      split at hr
      · rename_i ds rs' hds hrs
        cases hb : Nat.beq ds.length size with
        | false => simp [hb] at hr
        | true =>
          have hb' := Nat.eq_of_beq_eq_true hb
          simp only [hb, cond_true, Option.some.injEq] at hr
          subst hr
          obtain ⟨ws, g1, g2, g3⟩ := cells_of hx h1
          obtain ⟨e1, c1, r1⟩ := toDs_seal xs bx ds ws cx hds g2
          have hp2 : PartsRep β (seals bx xs) w (okp β (seals bx xs) w X) r us := by
            clear hrs
            induction r generalizing us with
            | nil => simpa [PartsRep] using h2
            | cons p r ih =>
              obtain ⟨j, y⟩ := p
              simp only [PartsRep] at h2 ⊢
              obtain ⟨v, vs', rfl, k1, k2⟩ := h2
              exact ⟨v, vs', rfl, RepA.mono (e1.lasts X) _ _ k1, ih vs' k2⟩
          have hrs2 : rowsOf (seals bx xs) size r = some rs' := by
            clear hp2 h2
            have after : ∀ (zs : List AV) (bx : List Box) (r : List (Nat × AV)) (rs : List (List D)), rowsOf bx size r = some rs → rowsOf (seals bx zs) size r = some rs := by
              intro zs
              induction zs with
              | nil => intro bx r rs h; exact h
              | cons z zs ih =>
                intro bx r rs h
                refine ih _ _ _ ?_
                clear ih
                induction r generalizing rs with
                | nil => exact h
                | cons p r ih =>
                  obtain ⟨j, y⟩ := p
                  simp only [rowsOf] at h ⊢
                  split at h
                  · rename_i ys hy
                    split at h
                    · rename_i ds2 rs2 hd2 hr2
                      rw [toDs_after hd2, ih rs2 hr2]; exact h
                    · simp at h
                  · simp at h
            exact after xs bx r rs' hrs
          obtain ⟨e2, c2, l2, n2, us2, q1, q2, q3, q4⟩ := rowsOf_run r (seals bx xs) us rs' c1 hp2 hrs2
          have hseal : sealParts bx ((i, x) :: r) = sealParts (seals bx xs) r := by simp [sealParts, hx]
          rw [hseal]
          refine ⟨e1.trans e2, c2, by simp [l2], ?_, ws ++ us2, ?_, ?_, ?_, ?_⟩
          · intro y hy
            rcases List.mem_cons.1 hy with rfl | hy
            · exact hb'
            · exact n2 y hy
          · simp only [List.flatten_cons, List.map_append]
            exact RepAs.append (RepAs.mono (e2.lasts X) _ _ r1) q1
          · intro y hy
            rcases List.mem_append.1 hy with hy | hy
            · exact g3 y hy
            · exact q2 y hy
          · simp [g1, q3]
          · intro p hp
            rcases List.mem_cons.1 hp with rfl | hp
            · have := RepAs.length r1
              simp [g1] at this ⊢; omega
            · exact q4 p hp
      · simp at hr
    · simp at hr

theorem sealNo : ∀ (parts : List (Nat × AV)) (bx : List Box), noOw parts = true → sealParts bx parts = bx
  | [], bx, _ => rfl
  | (i, x) :: r, bx, h => by
    simp only [noOw] at h
    split at h
    · rename_i xs hx
      simp only [Bool.and_eq_true] at h
      have hs : ∀ (ys : List AV) (bx : List Box), ownless ys = true → seals bx ys = bx := by
        intro ys
        induction ys with
        | nil => intro bx _; rfl
        | cons y ys ih =>
          intro bx hy
          have h1 : ownless [y] = true ∧ ownless ys = true := by cases y <;> simp_all [ownless]
          simp only [seals, sealOr h1.1]
          exact ih bx h1.2
      simp only [sealParts, hx, hs xs bx h.1]
      exact sealNo r bx h.2
    · simp at h

theorem spliceV_eq : ∀ (cs : List Value) (k : Nat) (us : List Value), k + us.length ≤ cs.length → spliceV cs k us = cs.take k ++ us ++ cs.drop (k + us.length)
  | cs, k, [], _ => by cases cs <;> simp [spliceV]
  | [], k, u :: us, h => by simp at h
  | c :: cs, 0, u :: us, h => by
    simp only [List.length_cons] at h
    simp only [spliceV, spliceV_eq cs 0 us (by omega)]
    simp
  | c :: cs, k + 1, u :: us, h => by
    simp only [List.length_cons] at h
    simp only [spliceV, spliceV_eq cs k (u :: us) (by simp; omega)]
    simp [show k + 1 + (us.length + 1) = k + (us.length + 1) + 1 by omega]

theorem fill_order {size : Nat} : ∀ (vs : List (Nat × Value)) (i : Nat) (cs : List Value), (∀ k p, vs[k]? = some p → p.1 = i + k) → (∀ p ∈ vs, p.2.cells.size = size) → (i + vs.length) * size ≤ cs.length →
    Instr.fill (fun i => some (i * size, size)) ⟨cs⟩ vs = some ⟨cs.take (i * size) ++ (vs.flatMap fun p => p.2.cells.toList) ++ cs.drop ((i + vs.length) * size)⟩
  | [], i, cs, _, _, _ => by simp [Instr.fill]
  | (j, v) :: r, i, cs, ho, hs, hl => by
    have hj : j = i := by simpa using ho 0 (j, v) rfl
    subst hj
    have hv : v.cells.size = size := hs (j, v) (by simp)
    simp only [List.length_cons] at hl
    have hle : (j + 1) * size ≤ cs.length := Nat.le_trans (Nat.mul_le_mul_right _ (by omega)) hl
    rw [Nat.add_mul, Nat.one_mul] at hle
    simp only [Instr.fill, hv]
    have e1 : ¬ ((size ≠ size || decide (j * size + size > (⟨cs⟩ : Array Value).size)) = true) := by simp; omega
    rw [if_neg (by simpa using e1)]
    have e2 := foldl_splice v.cells.toList 0 ⟨cs⟩ (j * size)
    simp only [Nat.add_zero] at e2
    have e3 : (Array.foldl (fun cs (x : Value × Nat) => match x with | (c, k) => cs.setIfInBounds (j * size + k) c) (⟨cs⟩ : Array Value) v.cells.zipIdx) = ⟨spliceV cs (j * size) v.cells.toList⟩ := by
      rw [← e2]
      rw [← Array.foldl_toList, Array.toList_zipIdx]
    rw [e3]
    have hsp : spliceV cs (j * size) v.cells.toList = cs.take (j * size) ++ v.cells.toList ++ cs.drop ((j + 1) * size) := by
      rw [spliceV_eq _ _ _ (by simp [hv]; omega)]
      simp [hv, Nat.add_mul]
    rw [hsp, fill_order r (j + 1) _ (fun k p hk => by have := ho (k + 1) p (by simpa using hk); omega) (fun p hp => hs p (by simp [hp])) (by simp [hv, Nat.add_mul] at *; omega)]
    congr 2
    have hlen : (cs.take (j * size) ++ v.cells.toList).length = (j + 1) * size := by simp [hv, Nat.add_mul]; omega
    rw [List.take_left' hlen]
    rw [show (j + 1 + r.length) * size = (cs.take (j * size) ++ v.cells.toList).length + r.length * size by rw [hlen, Nat.add_mul]]
    rw [List.drop_append]
    simp only [List.drop_eq_nil_of_le (Nat.le_add_right _ _), List.nil_append, Nat.add_sub_cancel_left, List.drop_drop, List.flatMap_cons, List.append_assoc, List.length_cons]
    rw [show (j + 1) * size + r.length * size = (j + (r.length + 1)) * size by simp only [Nat.add_mul]; omega]


theorem buildSliceR_done (hT : TOk P T) (cx : Ctx G β bx w X) {t n : Nat} {parts : List (Nat × AV)} {vs : Array (Nat × Value)} (hp : PartsRep β bx w (okp β bx w X) parts vs.toList)
    {c : Prop} {v : AV} {b : Option (List Box)} (hr : buildSliceR T t n parts bx = some ⟨c, v, b⟩) :
    ∃ u w', (Instr.buildSlice t n vs).run P w = .ok u w' ∧ Ext β bx w β (orBx bx b) w' ∧ Ctx G β (orBx bx b) w' X ∧ RepA β (orBx bx b) w' (okp β (orBx bx b) w' X) v u := by
  unfold buildSliceR at hr
  cases ht : T t with
  | none => simp [ht] at hr
  | some ti =>
  obtain ⟨i, d, h1, h2, h3, h4, h5, h6⟩ := tiOf_inv (hT.ti t ti ht)
  simp only [ht] at hr
  cases hk : ti.kd with
  | slice e =>
    rw [hk] at hr h5
    cases d <;> simp [kdOf] at h5
    subst h5
    cases hte : T e with
    | none => simp [hte] at hr
    | some te =>
    obtain ⟨ei, ed, g1, g2, g3, g4, g5, g6⟩ := tiOf_inv (hT.ti _ _ hte)
    simp only [hte] at hr
    cases hb : (Nat.beq parts.length n && inOrder 0 parts && Nat.ble (n * te.size) 16777216 && te.zero.cells?.isSome) with
    | false => simp [hb] at hr
    | true =>
    simp only [hb, cond_true] at hr
    simp only [Bool.and_eq_true] at hb
    obtain ⟨⟨⟨b1, b2⟩, b3⟩, b4⟩ := hb
    have b1 := Nat.eq_of_beq_eq_true b1
    have b3 := Nat.le_of_ble_eq_true b3
    split at hr
    · rename_i rs hrs
      simp only [Option.some.injEq, R.mk.injEq] at hr
      obtain ⟨_, rfl, rfl⟩ := hr
      obtain ⟨e1, c1, l1, n1, us, q1, q2, q3, q4⟩ := rowsOf_run parts bx vs.toList rs cx hp hrs
      have sealm : orBx bx (bif noOw parts then none else some (sealParts bx parts)) = sealParts bx parts := by
        cases ho : noOw parts with
        | true => simp [sealNo _ _ ho, orBx]
        | false => rfl
      rw [sealm]
      have hvl : vs.toList.length = parts.length := by
        clear hrs b2 q3 q4
        have : ∀ (ps : List (Nat × AV)) (us : List (Nat × Value)), PartsRep β bx w (okp β bx w X) ps us → us.length = ps.length := by
          intro ps
          induction ps with
          | nil => intro us h; simp only [PartsRep] at h; simp [h]
          | cons p ps ih => intro us h; obtain ⟨j, y⟩ := p; simp only [PartsRep] at h; obtain ⟨_, us', rfl, _, k⟩ := h; simp [ih us' k]
        exact this _ _ hp
      have hord : ∀ k p, vs.toList[k]? = some p → p.1 = 0 + k := by
        have : ∀ (ps : List (Nat × AV)) (us : List (Nat × Value)) (i : Nat), PartsRep β bx w (okp β bx w X) ps us → inOrder i ps = true → ∀ k p, us[k]? = some p → p.1 = i + k := by
          intro ps
          induction ps with
          | nil => intro us i h _ k p hk; simp only [PartsRep] at h; subst h; simp at hk
          | cons q ps ih =>
            intro us i h ho k p hk
            obtain ⟨j, y⟩ := q
            simp only [PartsRep] at h
            obtain ⟨_, us', rfl, _, g⟩ := h
            simp only [inOrder, Bool.and_eq_true] at ho
            cases k with
            | zero => simp at hk; subst hk; simpa using (Nat.eq_of_beq_eq_true ho.1).symm
            | succ k => have := ih us' (i + 1) g ho.2 k p (by simpa using hk); omega
        exact this _ _ 0 hp b2
      have hsz : us.length = n * te.size := by
        rw [← q3]
        have : ∀ (ps : List (Nat × Value)), (∀ p ∈ ps, p.2.cells.size = te.size) → (ps.flatMap fun p => p.2.cells.toList).length = ps.length * te.size := by
          intro ps
          induction ps with
          | nil => intro _; simp
          | cons p ps ih => intro h; simp only [List.flatMap_cons, List.length_append, ih (fun q hq => h q (by simp [hq])), List.length_cons, Nat.add_mul]
                            have := h p (by simp); simp; omega
        rw [this _ q4, hvl, b1]
      have zlen : ∀ (z : Array Value), ((Array.range (n * te.size)).map (z[· % z.size]!)).toList.length = n * te.size := by intro z; simp
      have hfill : ∀ (z : Array Value), Instr.fill (fun i => some (i * te.size, te.size)) ((Array.range (n * te.size)).map (z[· % z.size]!)) vs.toList = some ⟨us⟩ := by
        intro z
        have := fill_order (size := te.size) vs.toList 0 ((Array.range (n * te.size)).map (z[· % z.size]!)).toList hord q4 (by rw [zlen, hvl, b1]; simp)
        rw [q3] at this
        have e : (⟨((Array.range (n * te.size)).map (z[· % z.size]!)).toList⟩ : Array Value) = (Array.range (n * te.size)).map (z[· % z.size]!) := rfl
        rw [e] at this
        rw [this]
        congr 2
        rw [Nat.zero_mul, List.take_zero, List.nil_append, List.drop_eq_nil_of_le, List.append_nil]
        rw [zlen, hvl, b1]; simp
      obtain ⟨zc, hzc⟩ := Option.isSome_iff_exists.1 b4
      obtain ⟨zv, _, z1, _⟩ := zero_of (β := β) (bx := bx) (w := w) (ok := okp β bx w X) (hT.ti _ _ hte) hzc
      have hlt : ¬ n * te.size > 2 ^ 24 := by omega
      refine ⟨.slice (some ⟨w.heap.size, 0, none⟩) n n, { w with heap := w.heap.push (.cells ⟨us⟩ e) }, ?_, e1.trans (ext_push _), ctx_push c1 _, ?_⟩
      · by_cases h0 : n * te.size = 0
        · have := hfill #[]
          simp only [Instr.buildSlice, Sem.run_bind, run_und h2, Result.andThen_ok, run_size g1, ← g3, if_neg hlt, Sem.run_pure, if_pos h0, this]
          simp [newRow, newObj, Sem.run]
        · have := hfill zv.cells
          simp only [Instr.buildSlice, Sem.run_bind, run_und h2, Result.andThen_ok, run_size g1, ← g3, if_neg hlt, Sem.run_pure, if_neg h0, z1, this]
          simp [newRow, newObj, Sem.run]
      · simp only [RepA]
        refine ⟨_, by rw [l1, b1], ?_⟩
        by_cases hrs0 : rs = []
        · exact .inl hrs0
        refine .inr ⟨w.heap.size, 0, te.size, rfl, ⟨by simp, fun hX => by have := cx.xs _ hX; omega, ?_⟩, ?_⟩
        · intro i b h1 h2 h3
          have := (c1.box i b h1).live_lt h2
          omega
        · refine rows_of (β := β) (bx := sealParts bx parts) rs 0 us n1 ?_ (RepAs.mono ((ext_push (.cells ⟨us⟩ e)).lasts X) _ _ q1)
          intro k u hk
          simp only [World.cell?]
          simpa using hk
    · simp at hr
  | _ => rw [hk] at hr; simp at hr

end
end Dem
end
section
open Go
namespace Dem
section
variable {P : Program} {T : Nat → Option TI} {G : Nat → Option (List D)} {β : Nat → Nat} {bx : List Box} {w : World} {X : Nat → Prop}

theorem bytesFold (f : Value → ByteArray → Sem (ForInStep ByteArray)) (hf : ∀ n s, f (.int .u8 n) s = pure (.yield (s.push (UInt8.ofNat n.toNat)))) :
    ∀ (vs : List Value) (es : List (List D)) (acc : ByteArray) (w : World) (ok : Nat → Prop), (∀ r ∈ es, isByteRow r) → RepAs β bx w ok (es.flatten.map .d) vs →
    (forIn vs acc f).run P w = .ok ⟨(acc.data.toList ++ es.map rowByte).toArray⟩ w
  | vs, [], acc, w, ok, _, h => by
    simp only [List.flatten_nil, List.map_nil, RepAs] at h; subst h
    simp
  | vs, r :: rs, acc, w, ok, hb, h => by
    obtain ⟨n, hr⟩ := hb r (by simp)
    subst hr
    simp only [List.flatten_cons, List.map_cons, List.singleton_append, RepAs, RepA, RepD] at h
    obtain ⟨u, us, rfl, rfl, h2⟩ := h
    have ih := bytesFold f hf us rs (acc.push (UInt8.ofNat n.toNat)) w ok (fun r hr => hb r (by simp [hr])) h2
    simp only [List.forIn_cons, Sem.run_bind, hf, Sem.run_pure, Result.andThen_ok]
    rw [ih]
    simp [rowByte, ByteArray.push]

theorem bytesToString_run {ok : Nat → Prop} {base : Option Addr} {cap : Nat} {es : List (List D)} (hb : ∀ r ∈ es, isByteRow r)
    (h : es = [] ∨ ∃ blk off sz, base = some ⟨blk, off, none⟩ ∧ ok blk ∧ RepRows w ok blk sz es off) :
    (Conv.bytesToString (.slice base es.length cap)).run P w = .ok (.string ⟨(es.map rowByte).toArray⟩) w := by
  cases base with
  | none =>
    rcases h with rfl | ⟨_, _, _, h, _⟩
    · simp [Conv.bytesToString]; rfl
    · simp at h
  | some a =>
    rcases h with rfl | ⟨blk, off, sz, ha, _, hr⟩
    · simp [Conv.bytesToString, loadCells, loadCellsFrom]; rfl
    · cases es with
      | nil => simp [Conv.bytesToString, loadCells, loadCellsFrom]; rfl
      | cons r rs =>
        have hsz : sz = 1 := by
          obtain ⟨n, hn⟩ := hb r (by simp)
          simp only [RepRows] at hr
          rw [← hr.1, hn]; rfl
        subst hsz
        obtain ⟨vs, g1, g2, g3⟩ := rows_cells (β := fun _ => 0) (bx := []) _ _ hr
        simp at ha; subst ha
        have := run_loadCells (P := P) vs g2
        rw [g1, Nat.mul_one] at this
        simp only [Conv.bytesToString, Sem.run_bind, this, Result.andThen_ok]
        simp only [List.forIn_toArray]
        rw [bytesFold _ (fun _ _ => rfl) vs (r :: rs) ByteArray.empty w ok hb g3]
        simp

theorem convR_done (hT : TOk P T) (cx : Ctx G β bx w X) {src dst : Nat} {x : AV} {ux : Value} (hx : RepA β bx w (okp β bx w X) x ux)
    {c : Prop} {v : AV} {b : Option (List Box)} (hr : convR T src dst x bx = some ⟨c, v, b⟩) (hc : c) :
    b = none ∧ ∃ u w', (Go.convert src dst ux).run P w = .ok u w' ∧ Ext β bx w β bx w' ∧ Ctx G β bx w' X ∧ RepA β bx w' (okp β bx w' X) v u := by
  unfold convR at hr
  cases hs : T src with
  | none => simp [hs] at hr
  | some ts =>
  cases hd : T dst with
  | none => simp [hs, hd] at hr
  | some td =>
  obtain ⟨si, sd, s1, s2, s3, s4, s5, s6⟩ := tiOf_inv (hT.ti _ _ hs)
  obtain ⟨di, dd, d1, d2, d3, d4, d5, d6⟩ := tiOf_inv (hT.ti _ _ hd)
  simp only [hs, hd] at hr
  rw [s5, d5] at hr
  split at hr
  · rename_i k n hk
    simp only [R.pure, Option.some.injEq, R.mk.injEq] at hr
    obtain ⟨_, rfl, rfl⟩ := hr
    simp only [RepA, RepD] at hx; subst hx
    cases dd <;> simp [kdOf] at hk
    subst hk
    exact ⟨rfl, _, w, by simp [Go.convert, run_und s2, run_und d2, Conv.intToInt]; rfl, Ext.refl _ _ _, cx, by simp [RepA, RepD]⟩
  · rename_i e hk1 hk2
    cases sd <;> simp [kdOf] at hk1
    subst hk1
    cases dd <;> simp [kdOf] at hk2
    split at hr
    · rename_i te es hte hes
      obtain ⟨ei, ed, e1, e2, e3, e4, e5, e6⟩ := tiOf_inv (hT.ti _ _ hte)
      rw [e5] at hr
      split at hr
      · rename_i hk3
        simp only [R.when, Option.some.injEq, R.mk.injEq] at hr
        obtain ⟨rfl, rfl, rfl⟩ := hr
        cases ed <;> simp [kdOf] at hk3
        subst hk3
        have main : ∃ base cap, ux = .slice base es.length cap ∧ ∃ ok, (es = [] ∨ ∃ blk off sz, base = some ⟨blk, off, none⟩ ∧ ok blk ∧ RepRows w ok blk sz es off) := by
          obtain ⟨_, _, base, cap, h1, _, h3⟩ := rows_seal cx hes hx
          exact ⟨base, cap, h1, _, h3⟩
        obtain ⟨base, cap, rfl, ok, h3⟩ := main
        have hrun := bytesToString_run (P := P) (cap := cap) hc h3
        refine ⟨rfl, .string ⟨(es.map rowByte).toArray⟩, w, ?_, Ext.refl _ _ _, cx, by simp only [RepA, RepD]⟩
        simp [Go.convert, run_und s2, run_und d2, run_und e2, hrun]
      · simp at hr
    · simp at hr
  · rename_i s hk1 hk2
    simp only [R.pure, Option.some.injEq, R.mk.injEq] at hr
    obtain ⟨_, rfl, rfl⟩ := hr
    simp only [RepA, RepD] at hx; subst hx
    cases sd <;> simp [kdOf] at hk1
    cases dd <;> simp [kdOf] at hk2
    exact ⟨rfl, _, w, by simp [Go.convert, run_und s2, run_und d2]; rfl, Ext.refl _ _ _, cx, by simp [RepA, RepD]⟩
  · simp at hr

/- append -/
theorem lenOf_rows {es : Nat} {base : Option Addr} {cap : Nat} : (Builtin.lenOf (.slice base es cap)).run P w = .ok es w := by simp [Builtin.lenOf]

/-- what is appended, in whatever world has the same memory there -/
def FirstsOk (P : Program) (w : World) (size n : Nat) (x : Value) (us : List Value) : Prop :=
  (Builtin.lenOf x).run P w = .ok n w ∧ us.length = n * size ∧ ∀ w' : World, (∀ k : Nat, w.heap[k]? ≠ none → w'.heap[k]? = w.heap[k]?) → (Builtin.lenOf x).run P w' = .ok n w' ∧ (Builtin.firstCells size n x).run P w' = .ok ⟨us⟩ w'

theorem firsts_slice {ok : Nat → Prop} {base : Option Addr} {cap size : Nat} {es : List (List D)} (hs : ∀ r ∈ es, r.length = size)
    (h : es = [] ∨ ∃ blk off sz, base = some ⟨blk, off, none⟩ ∧ RepRows w ok blk sz es off) :
    ∃ us, FirstsOk P w size es.length (.slice base es.length cap) us ∧ RepAs β bx w ok (es.flatten.map .d) us := by
  by_cases hne : es = []
  · subst hne
    refine ⟨[], ⟨lenOf_rows, by simp, fun w' _ => ⟨lenOf_rows, ?_⟩⟩, by simp [RepAs]⟩
    cases base <;> simp [Builtin.firstCells, loadCells, loadCellsFrom]
  · rcases h with h | ⟨blk, off, sz, rfl, hr⟩
    · exact absurd h hne
    · have hsz : sz = size := by
        cases es with
        | nil => exact absurd rfl hne
        | cons r rs => simp only [RepRows] at hr; rw [← hr.1]; exact hs r (by simp)
      subst hsz
      obtain ⟨vs, g1, g2, g3⟩ := rows_cells (β := β) (bx := bx) _ _ hr
      refine ⟨vs, ⟨lenOf_rows, g1, fun w' hw => ⟨lenOf_rows, ?_⟩⟩, g3⟩
      have := run_loadCells (P := P) (w := w') (blk := blk) (off := off) vs (fun j v hj => by
        have h1 := g2 j v hj
        have h2 : w.heap[blk]? ≠ none := by intro h0; simp [World.cell?, h0] at h1
        rw [cell?_of_heap (hw blk h2)]; exact h1)
      rw [g1] at this
      simpa [Builtin.firstCells] using this

theorem firsts_string (s : List UInt8) : ∃ us, FirstsOk P w 1 s.length (.string ⟨s.toArray⟩) us ∧ RepAs β bx w (okp β bx w X) ((s.map byteRow).flatten.map .d) us := by
  have hl : ∀ w', (Builtin.lenOf (.string ⟨s.toArray⟩)).run P w' = .ok s.length w' := by intro w'; simp [Builtin.lenOf, ByteArray.size]
  refine ⟨s.map fun b => .int .u8 b.toNat, ⟨hl w, by simp, fun w' _ => ⟨hl w', ?_⟩⟩, ?_⟩
  · have e : (⟨s.toArray⟩ : ByteArray).extract 0 s.length = ⟨s.toArray⟩ := by
      rw [Lib.extract_eq]; simp
    simp [Builtin.firstCells, e]
  · clear hl
    induction s with
    | nil => simp [RepAs]
    | cons b s ih => simp only [List.map_cons, List.flatten_cons, byteRow, List.singleton_append, RepAs, RepA, RepD]; exact ⟨_, _, rfl, rfl, by simpa [byteRow] using ih⟩

theorem rowsX_firsts (cx : Ctx G β bx w X) {size : Nat} {x : AV} {ux : Value} {xs : List (List D)} (hx : RepA β bx w (okp β bx w X) x ux) (hr : rowsX size x bx = some xs) (hs : ∀ r ∈ xs, r.length = size) :
    ∃ us, FirstsOk P w size xs.length ux us ∧ RepAs β bx w (okp β bx w X) (xs.flatten.map .d) us := by
  have slc : ∀ y, x = y → (∀ b, y ≠ .d (.str b)) → y.rows bx = some xs → ∃ us, FirstsOk P w size xs.length ux us ∧ RepAs β bx w (okp β bx w X) (xs.flatten.map .d) us := by
    intro y hy _ hrows
    subst hy
    by_cases how : ∃ b sz n, x = .ow b sz n
    · obtain ⟨b, sz, n, rfl⟩ := how
      obtain ⟨hn, base, cap, rfl, h1, h2⟩ := ow_rows cx hrows hx
      refine firsts_slice hs ?_
      rcases h2 with ⟨h2, _⟩ | ⟨_, rfl, h2, _⟩
      · exact .inl h2
      · exact .inr ⟨β b, 0, sz, rfl, h2⟩
    · cases hv : x.isVw with
      | true =>
        cases x with
        | vw b sz off n c ex =>
          simp only [AV.rows] at hrows
          split at hrows
          · rename_i s es' hb
            obtain ⟨rfl, hle, rfl⟩ := beqle hrows
            obtain ⟨base, cap, rfl, h1, h2⟩ := vw_part (okk := okp β bx w X) hle ((cx.box b _ hb).imp id fun ⟨_, _, _, g⟩ => g) hx
            exact firsts_slice hs (h2.imp id fun ⟨a, c⟩ => ⟨β b, off * s, s, a, c⟩)
          · rename_i s es' hb
            obtain ⟨rfl, hle, rfl⟩ := beqle hrows
            obtain ⟨base, cap, rfl, h1, h2⟩ := vw_part (okk := okp β bx w X) hle ((cx.box b _ hb).imp id fun ⟨_, g⟩ => g) hx
            exact firsts_slice hs (h2.imp id fun ⟨a, c⟩ => ⟨β b, off * s, s, a, c⟩)
          · simp at hrows
        | _ => simp [AV.isVw] at hv
      | false =>
      obtain ⟨base, cap, rfl, h1, h2⟩ := rows_imm (fun b sz n e => how ⟨b, sz, n, e⟩) hv hrows hx
      exact firsts_slice hs (h2.imp id fun ⟨blk, off, sz, a, _, c⟩ => ⟨blk, off, sz, a, c⟩)
  cases x with
  | d y =>
    cases y with
    | str s =>
      simp only [rowsX] at hr
      cases hb : Nat.beq size 1 with
      | false => simp [hb] at hr
      | true =>
        have := Nat.eq_of_beq_eq_true hb
        subst this
        simp only [hb, cond_true, Option.some.injEq] at hr
        subst hr
        simp only [RepA, RepD] at hx; subst hx
        rw [List.length_map]
        exact firsts_string s
    | _ => exact slc _ rfl (by simp) hr
  | _ => exact slc _ rfl (by simp) hr

theorem nextcap_fits {need old bytes : Nat} (h : old < need) (hb : need * bytes ≤ 140737488355328) : ¬ Builtin.nextslicecap need old * bytes > 2 ^ 48 := by
  have := Go.growslice_fits h hb
  omega

/-- an append that has to make a new array -/
theorem append_grows {t u e sLen sCap n : Nat} {base : Option Addr} {x : Value} {us olds zc : List Value} {ei : TypeInfo} {ud : TypeDesc} {zv : Value}
    (ht : P.underlying t = some (.slice e)) (hu : P.underlying u = some ud) (hud : ∀ k, ud ≠ .int k) (hi : P.info? e = some ei) (hz : ei.zero = some zv) (hzc : zv.cells = ⟨zc⟩) (hzl : zc.length = ei.size)
    (hx : FirstsOk P w ei.size n x us) (hs : FirstsOk P w ei.size sLen (.slice base sLen sCap) olds)
    (hcap : sCap < sLen + n) (hb0 : 0 < ei.bytes) (hb : (sLen + n) * ei.bytes ≤ 140737488355328) (ty : Nat) :
    ∃ cap rest, sLen + n ≤ cap ∧ (cap * ei.size = us.length + olds.length + rest) ∧ ∃ zs : List Value, zs.length = rest ∧
      (Builtin.append_ #[t, u] ty #[.slice base sLen sCap, x]).run P w = .ok (.slice (some ⟨w.heap.size, 0, none⟩) (sLen + n) cap)
        { w with drawn := w.drawn + 1, heap := w.heap.push (.cells ⟨olds ++ us ++ zs⟩ e) } := by
  obtain ⟨cap, hcapdef⟩ : ∃ cap, cap = (Question.appendCap (sLen + n) sCap e).cut (w.tape w.drawn (Question.appendCap (sLen + n) sCap e)) := ⟨_, rfl⟩
  have hcap2 : sLen + n ≤ cap := by rw [hcapdef]; simp only [Question.cut]; omega
  refine ⟨cap, (cap - (sLen + n)) * ei.size, hcap2, ?_, (Builtin.zeroCells ⟨zc⟩ (cap - (sLen + n))).toList, by simp [Builtin.zeroCells, hzl], ?_⟩
  · rw [hx.2.1, hs.2.1]
    have : cap = sLen + n + (cap - (sLen + n)) := by omega
    conv => lhs; rw [this]
    simp only [Nat.add_mul]; omega
  · have hnc := nextcap_fits hcap hb
    have hnc' : ¬ (281474976710656 < Builtin.nextslicecap (sLen + n) sCap * ei.bytes) := by omega
    have hbne : ei.bytes ≠ 0 := by omega
    have hn : ¬ (sLen + n ≤ sCap) := by omega
    have h1 := (hs.2.2 w.drew (fun _ _ => rfl)).2
    have h2 := (hx.2.2 w.drew (fun _ _ => rfl)).2
    simp [Builtin.append_, run_und ht, run_und hu, run_size hi, run_info hi, run_zero hi hz, hx.1, hn, hnc', hbne, Question.forced, h1, h2, hzc, newRow, ← hcapdef]
    have e1 : (⟨olds⟩ ++ (⟨us⟩ ++ Builtin.zeroCells ⟨zc⟩ (cap - (sLen + n))) : Array Value) = ⟨olds ++ (us ++ (Builtin.zeroCells ⟨zc⟩ (cap - (sLen + n))).toList)⟩ := by
      apply Array.ext'
      simp
    rw [e1]
    rfl

/-- an append that finds room in the call's own row -/
theorem append_fits {t u e e' sLen sCap n blk : Nat} {x : Value} {us : List Value} {ei : TypeInfo} {ud : TypeDesc} {c : Array Value}
    (ht : P.underlying t = some (.slice e)) (hu : P.underlying u = some ud) (hud : ∀ k, ud ≠ .int k) (hi : P.info? e = some ei)
    (hx : FirstsOk P w ei.size n x us) (hsc : ∀ v ∈ us, scV v) (hb : w.heap[blk]? = some (.cells c e' (0, 0))) (hfit : sLen * ei.size + us.length ≤ c.size) (hcap : sLen + n ≤ sCap) (ty : Nat) :
    (Builtin.append_ #[t, u] ty #[.slice (some ⟨blk, 0, none⟩) sLen sCap, x]).run P w = .ok (.slice (some ⟨blk, 0, none⟩) (sLen + n) sCap) (setBlk w blk (.cells ⟨spliceV c.toList (sLen * ei.size) us⟩ e' (0, 0))) := by
  have h2 := (hx.2.2 w (fun _ _ => rfl)).2
  have hs := run_storeCells (P := P) (off := sLen * ei.size) us 0 w c hb hsc (by simpa using hfit)
  simp only [Nat.add_zero] at hs
  simp [Builtin.append_, run_und ht, run_und hu, run_size hi, hx.1, hcap, h2, addr_add, hs]

theorem append_none {t u e : Nat} {base : Option Addr} {x : Value} {us : List Value} {ei : TypeInfo} {ud : TypeDesc}
    (ht : P.underlying t = some (.slice e)) (hu : P.underlying u = some ud) (hud : ∀ k, ud ≠ .int k) (hi : P.info? e = some ei)
    (hx : FirstsOk P w ei.size 0 x us) (ty : Nat) :
    (Builtin.append_ #[t, u] ty #[.slice base 0 0, x]).run P w = .ok (.slice base 0 0) w := by
  have h2 := (hx.2.2 w (fun _ _ => rfl)).2
  have hl : us = [] := by have := hx.2.1; simpa using this
  subst hl
  cases base <;> simp [Builtin.append_, run_und ht, run_und hu, run_size hi, hx.1, h2, storeCells]

/-- a box more, the world as it is -/
theorem ext_addbox {B : Box} (hB : B.live = false) (k : Nat) : Ext β bx w (upd β bx.length k) (bx ++ [B]) w := by
  refine ⟨rfl, rfl, rfl, Nat.le_refl _, fun _ _ _ => rfl, fun k c e f h => ⟨c, h, rfl⟩, ?_, ?_⟩
  · rintro i ⟨b, h1, h2⟩
    have := get_lt h1
    exact ⟨upd_ne _ _ (by omega), b, get_append_lt h1, h2⟩
  · intro i b h1 h2
    rcases get_append_inv h1 with ⟨h3, h4⟩ | ⟨rfl, rfl⟩
    · exact .inr ⟨i, b, h3, h2, (upd_ne _ _ (by omega)).symm⟩
    · rw [hB] at h2; simp at h2

theorem ctx_addbox (cx : Ctx G β bx w X) {B : Box} (hB : B.live = false) (k : Nat) (hok : BoxOk (upd β bx.length k) (bx ++ [B]) w (okp (upd β bx.length k) (bx ++ [B]) w X) B k) : Ctx G (upd β bx.length k) (bx ++ [B]) w X := by
  refine cx.step (ext_addbox hB k) ?_ ?_
  · intro i b hb
    rcases get_append_inv hb with ⟨h3, h4⟩ | ⟨rfl, rfl⟩
    · exact .inl ⟨h3, fun _ => rfl⟩
    · exact .inr (by rw [upd_same]; exact hok)
  · intro i j bi bj h1 h2 l1 l2 he
    rcases get_append_inv h1 with ⟨h3, h4⟩ | ⟨rfl, rfl⟩
    · rcases get_append_inv h2 with ⟨h5, h6⟩ | ⟨rfl, rfl⟩
      · rw [upd_ne _ _ (by omega), upd_ne _ _ (by omega)] at he
        exact cx.inj i j bi bj h3 h5 l1 l2 he
      · rw [hB] at l2; simp at l2
    · rw [hB] at l1; simp at l1

/-- the row of a new array -/
theorem grown_row (cx : Ctx G β bx w X) {e size cap : Nat} {rows : List (List D)} {vs zs : List Value} (hl : ∀ r ∈ rows, r.length = size) (hv : RepAs β bx w (okp β bx w X) (rows.flatten.map .d) vs)
    (hcap : cap * size ≤ vs.length + zs.length) (hlen : rows.length ≤ cap) (hne : rows ≠ []) :
    let w' : World := { w with drawn := w.drawn + 1, heap := w.heap.push (.cells ⟨vs ++ zs⟩ e) }
    Ext β bx w (upd β bx.length w.heap.size) (bx ++ [.row size rows]) w' ∧ Ctx G (upd β bx.length w.heap.size) (bx ++ [.row size rows]) w' X ∧
      RepA (upd β bx.length w.heap.size) (bx ++ [.row size rows]) w' (okp (upd β bx.length w.heap.size) (bx ++ [.row size rows]) w' X) (.ow bx.length size rows.length) (.slice (some ⟨w.heap.size, 0, none⟩) rows.length cap) := by
  intro w'
  have cx1 := ctx_same cx (sameMem_drawn w)
  have ex1 : Ext β bx w β bx { w with drawn := w.drawn + 1 } := ext_same (sameMem_drawn w)
  have ex2 : Ext β bx { w with drawn := w.drawn + 1 } (upd β bx.length w.heap.size) (bx ++ [.row size rows]) w' := ext_pushbox (w := { w with drawn := w.drawn + 1 }) (.cells ⟨vs ++ zs⟩ e) (.row size rows)
  have hnew : w'.heap[w.heap.size]? = some (.cells ⟨vs ++ zs⟩ e) := push_new { w with drawn := w.drawn + 1 } _
  refine ⟨ex1.trans ex2, ?_, ?_⟩
  · refine ctx_pushbox (w := { w with drawn := w.drawn + 1 }) cx1 (.cells ⟨vs ++ zs⟩ e) (.row size rows) (.inr ⟨_, e, hnew, ?_⟩)
    refine rows_of (β := upd β bx.length w.heap.size) (bx := bx ++ [.row size rows]) rows 0 vs hl ?_ (RepAs.mono ((ex1.trans ex2).lasts X) _ _ hv)
    intro k u hk
    have hk' : k < vs.length := by
      rcases Nat.lt_or_ge k vs.length with h | h
      · exact h
      · simp [List.getElem?_eq_none h] at hk
    show World.cell? w' ⟨w.heap.size, 0 + k, none⟩ = some u
    simp only [World.cell?, hnew]
    simp [List.getElem?_append_left hk', hk]
  · simp only [RepA]
    refine ⟨⟨.row size rows, by simp, rfl⟩, .inr ⟨by simpa using hne, cap, _, e, (0, 0), by rw [upd_same], hlen, by rw [upd_same]; exact hnew, by simpa using hcap⟩⟩

end
end Dem
end
