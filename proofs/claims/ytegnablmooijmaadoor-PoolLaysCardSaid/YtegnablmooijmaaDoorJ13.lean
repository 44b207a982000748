/- JOINED TEXTS: Abs17, Abs18, Abs19. -/
import Derived.Test.YtegnablmooijmaaDoorJ12
set_option linter.unusedSimpArgs false
set_option linter.unusedVariables false
section
/- THE CALCULUS: A QUIET STEP, TOLD BY ITS OPERANDS. -/
open Go
namespace Dem
section
variable {P : Program} {T : Nat → Option TI} {G : Nat → Option (List D)} {N : Nat} {ds : List Deferred} {β : Nat → Nat} {bx bx' : List Box} {w : World} {X : Nat → Prop} {s : St} {a : Act}

def okEv (ev : Operand → AV) (xs : List Operand) : Prop := ∀ x ∈ xs, (ev x).ok

theorem QuietFC.le {FC : Nat → List AV → List Box → Res → List Box → Prop} {f : Nat} {args : List AV} {v : AV} (h : QuietFC FC f args bx v) (hb : BxLe bx bx') : QuietFC FC f args bx' v := by
  obtain ⟨args', bxV, k1, k2, k3, k4, k5⟩ := h
  refine ⟨args', bxV, frzs_le hb k1, k2, k3, ?_, k5⟩
  intro i b hi hborn
  obtain ⟨b', h1, h2, h3⟩ := k4 i b hi hborn
  exact ⟨b', hb i b' h1 h2, h2, h3⟩

/-- what a quiet step yields -/
inductive YG (FC : Nat → List AV → List Box → Res → List Box → Prop) (T : Nat → Option TI) (g : Bool) (ev : Operand → AV) (bx : List Box) : Op → AV → Prop
  | pick (c a b : Operand) (p : Bool) (hc : (ev c).strip = .d (.bool p)) (hg : g = true → (ev c).ok ∧ (p = true → (ev a).ok) ∧ (p = false → (ev b).ok)) : YG FC T g ev bx (.pick c a b) (pickV p (ev a).strip (ev b).strip)
  | call (f : Operand) (args : Array Operand) (ats : Array TypeId) (i : Nat) (as : List AV) (v : AV) (hf : fnArgs (ev f).strip (args.toList.map fun x => (ev x).strip) = some (i, as))
      (hg : g = true → ((ev f).ok ∧ okEv ev args.toList) ∧ QuietFC FC i as bx v) :
      YG FC T g ev bx (.call { callee := .value f, args := args, argTypes := ats }) v
  | idx (t : Nat) (x i : Operand) (c : Prop) (ds ds' : List D) (hi : idxR T t (ev x).strip (ev i).strip = some (c, ds)) (hg : g = true → (okEv ev [x, i] ∧ c) ∧ ds = ds') : YG FC T g ev bx (.indexAddr t x i) (.ep ds')
  | no (op : Op) (v : AV) (hg : g = false) : YG FC T g ev bx op v
  | op (op : Op) (c : Prop) (v : AV) (hr : opR T (fun x => (ev x).strip) op bx = some ⟨c, v, none⟩) (hg : g = true → okEv ev op.operands.toList ∧ c) : YG FC T g ev bx op v

variable {FC : Nat → List AV → List Box → Res → List Box → Prop}

theorem stepG_yields {g : Bool} {o : Oper} {K : AV → Prop} (h : stepG FC T G g o s K) : ∃ v, YG FC T g (opd G s.sl) s.bx o.op v ∧ K v := by
  rcases h with ⟨hg, v, hK⟩ | h
  · exact ⟨v, .no _ v hg, hK⟩
  unfold stepG0 at h
  split at h
  · rename_i c x y ho
    split at h
    · rename_i p hc
      rw [ho]
      exact ⟨_, .pick c x y p hc h.1, h.2⟩
    · exact h.elim
  · rename_i f args ats ho
    split at h
    · rename_i i as hfa
      obtain ⟨v, hg, hK⟩ := h
      rw [ho]
      exact ⟨v, .call f args ats i as v hfa (fun hg' => ⟨⟨(hg hg').1.1, fun x hx => okAll_mem (hg hg').1.2 x hx⟩, (hg hg').2⟩), hK⟩
    · exact h.elim
  · split at h
    · rename_i c ds hi
      obtain ⟨ds', hg, hK⟩ := h
      split at hi
      · rename_i t x i ho
        rw [ho] at hg ⊢
        exact ⟨_, .idx t x i c ds ds' hi (fun hg' => ⟨⟨fun y hy => okAll_mem (hg hg').1.1 y (by simpa [Op.operands] using hy), (hg hg').1.2⟩, (hg hg').2⟩), hK⟩
      · simp at hi
    · split at h
      · rename_i c v hr
        exact ⟨v, .op _ c v hr (fun hg => ⟨fun x hx => okAll_mem (h.1 hg).1 x hx, (h.1 hg).2⟩), h.2⟩
      · exact h.elim

theorem YG.turn {g : Bool} {ev ev' : Operand → AV} {op : Op} {v : AV} (h : YG FC T g ev bx op v) (hev : ∀ x ∈ op.operands.toList, ev x = ev' x) (hb : BxLe bx bx') : YG FC T g ev' bx' op v := by
  cases h with
  | pick c x y p hc hg =>
    have e1 := hev c (by simp [Op.operands]); have e2 := hev x (by simp [Op.operands]); have e3 := hev y (by simp [Op.operands])
    rw [e1] at hc hg; rw [e2] at hg ⊢; rw [e3] at hg ⊢
    exact .pick c x y p hc hg
  | call f args ats i as v hf hg =>
    have e1 := hev f (by simp [Op.operands, Call.operands])
    have e2 : ∀ x ∈ args.toList, ev x = ev' x := fun x hx => hev x (by simp [Op.operands, Call.operands]; exact .inr (by simpa using hx))
    rw [e1, List.map_congr_left (g := fun x => (ev' x).strip) fun x hx => by rw [e2 x hx]] at hf
    refine .call f args ats i as v hf (fun hg' => ?_)
    obtain ⟨⟨k1, k2⟩, k3⟩ := hg hg'
    exact ⟨⟨e1 ▸ k1, fun x hx => e2 x hx ▸ k2 x hx⟩, k3.le hb⟩
  | idx t x i c ds ds' hi hg =>
    have e1 := hev x (by simp [Op.operands]); have e2 := hev i (by simp [Op.operands])
    rw [e1, e2] at hi
    refine .idx t x i c ds ds' hi (fun hg' => ⟨⟨fun y hy => ?_, (hg hg').1.2⟩, (hg hg').2⟩)
    have := (hg hg').1.1 y hy
    rw [hev y (by simpa [Op.operands] using hy)] at this
    exact this
  | no _ v hg => exact .no _ v hg
  | op _ c v hr hg =>
    refine .op _ c v ?_ (fun hg' => ⟨fun x hx => hev x hx ▸ (hg hg').1 x hx, (hg hg').2⟩)
    rw [← opR_congr (ev := fun x => (ev x).strip) (ev' := fun x => (ev' x).strip) (fun x hx => by rw [hev x hx])]
    exact opR_le hb hr

theorem YG_sound (hT : TOk P T) (hF : Fr G N ds β w X s a) {o : Oper} {v : AV} {next : Act → World → Prop} {Qc : Exit → Act → World → Prop}
    (h : YG (FCalls P G) T true (opd G s.sl) s.bx o.op v) (hn : Hands G β s.bx w X a o.dst (fun v' bx => v' = v ∧ bx = s.bx) next) : o.wp P a w next Qc := by
  have hev : ∀ x, (opd G s.sl x).ok → RepA β s.bx w (okp β s.bx w X) (opd G s.sl x).strip (a.eval x) := fun x hx => strip_rep (hF.eval x) hx
  unfold Oper.wp
  generalize ho : o.op = op at h
  cases h with
  | pick c x y p hc hg =>
    obtain ⟨h1, h2, h3⟩ := hg rfl
    have hc' := hev c h1
    rw [hc] at hc'; simp only [RepA, RepD] at hc'
    refine upon_done (v := _) (bx' := s.bx) (Done.pure (u := if p then a.eval x else a.eval y) hF.cx ?_ (pick_rep (fun hp => hev x (h2 hp)) (fun hp => hev y (h3 hp)))) ⟨rfl, rfl⟩ hn
    simp [execOp, ho, hc', asBool]
  | call f args ats i as v hfa hg =>
    obtain ⟨⟨h1, h2⟩, hq⟩ := hg rfl
    obtain ⟨cs, e1, e2⟩ := fnArgs_rep hfa (hev f h1) (map_rep args.toList (fun y hy => hev y (h2 y hy)))
    rw [run_callVal ho e1]
    refine callF_upon (calls_quietK (K := fun v' bx => v' = v ∧ bx = s.bx) hF.cx e2 hq ⟨rfl, rfl⟩) ?_ ?_ ?_
    · rintro v w' ⟨β', bx', v', u, e, ex, cx, hv, hK⟩
      cases e
      exact hn β' bx' w' v' v ex cx hv hK
    · rintro ch w' ⟨_, _, _, _, e, _⟩; cases e
    · rintro w' ⟨_, _, _, _, e, _⟩; cases e
  | idx t x i c ds ds' hi hg =>
    obtain ⟨⟨hk, hc⟩, rfl⟩ := hg rfl
    obtain ⟨r, k1, k2⟩ := idx_done (P := P) (w := w) hT hF.cx hi hc (hev x (hk x (by simp))) (hev i (hk i (by simp)))
    refine upon_done (v := _) (bx' := s.bx) (Done.pure hF.cx ?_ k2) ⟨rfl, rfl⟩ hn
    simp only [execOp, ho]
    exact execv _ k1
  | no _ v hg => cases hg
  | op _ c v hr hg =>
    obtain ⟨h1, hc⟩ := hg rfl
    subst ho
    exact upon_done (opR_done (P := P) hT hF.cx (ρ := a.eval) (fun x hx => hev x (h1 x hx)) hr hc) ⟨rfl, rfl⟩ hn

/- a variable that comes to be -/
theorem born_set {k : Nat} (h : bx[k]? = some .unborn) (B : Box) {i : Nat} (hi : bornAt bx i) : i ≠ k ∧ bornAt (bx.set k B) i := by
  obtain ⟨b, h1, h2⟩ := hi
  have hne : i ≠ k := by rintro rfl; rw [h] at h1; simp at h1; subst h1; simp [Box.born] at h2
  exact ⟨hne, b, by rw [List.getElem?_set_ne (Ne.symm hne)]; exact h1, h2⟩

theorem ext_setborn {k : Nat} (h : bx[k]? = some .unborn) (o : Obj) (B : Box) : Ext β bx w (upd β k w.heap.size) (bx.set k B) { w with heap := w.heap.push o } := by
  refine ⟨rfl, rfl, rfl, by simp, fun j hj _ => push_old w o j hj, fun j c e f hj => ⟨c, by rw [push_old w o j (heap_lt hj)]; exact hj, rfl⟩, ?_, ?_⟩
  · intro i hi
    obtain ⟨h1, h2⟩ := born_set h B hi
    exact ⟨upd_ne _ _ h1, h2⟩
  · intro i b hb hl
    rcases get_set_inv hb with ⟨rfl, _, _⟩ | ⟨hne, hb'⟩
    · exact .inl (by rw [upd_same]; exact Nat.le_refl _)
    · exact .inr ⟨i, b, hb', hl, (upd_ne _ _ hne).symm⟩

theorem ctx_setborn (cx : Ctx G β bx w X) {k : Nat} (h : bx[k]? = some .unborn) (o : Obj) (B : Box)
    (hB : BoxOk (upd β k w.heap.size) (bx.set k B) { w with heap := w.heap.push o } (okp (upd β k w.heap.size) (bx.set k B) { w with heap := w.heap.push o } X) B w.heap.size) :
    Ctx G (upd β k w.heap.size) (bx.set k B) { w with heap := w.heap.push o } X := by
  refine cx.step (ext_setborn h o B) ?_ ?_
  · intro i b hb
    rcases get_set_inv hb with ⟨rfl, rfl, _⟩ | ⟨hne, hb'⟩
    · exact .inr (by rw [upd_same]; exact hB)
    · exact .inl ⟨hb', fun hl => push_old w o _ ((cx.box i b hb').live_lt hl)⟩
  · intro i j bi bj h1 h2 l1 l2 he
    rcases get_set_inv h1 with ⟨rfl, rfl, _⟩ | ⟨hi, h3⟩ <;> rcases get_set_inv h2 with ⟨rfl, rfl, _⟩ | ⟨hj, h4⟩
    · rfl
    · rw [upd_same, upd_ne _ _ hj] at he
      have := (cx.box j bj h4).live_lt l2; omega
    · rw [upd_same, upd_ne _ _ hi] at he
      have := (cx.box i bi h3).live_lt l1; omega
    · rw [upd_ne _ _ hi, upd_ne _ _ hj] at he
      exact cx.inj i j bi bj h3 h4 l1 l2 he

theorem newVar_born (cx : Ctx G β bx w X) {k : Nat} (hk : bx[k]? = some .unborn) (t : Nat) {x : AV} {u : Value} {cs : List AV} (hx : x.cells? = some cs) (h : RepA β bx w (okp β bx w X) x u) :
    ∃ β' w', (newVar t u).run P w = .ok ⟨β' k, 0, none⟩ w' ∧ Ext β bx w β' (bx.set k (.var cs)) w' ∧ Ctx G β' (bx.set k (.var cs)) w' X := by
  obtain ⟨vs, h1, h2, h3⟩ := cells_of hx h
  refine ⟨upd β k w.heap.size, { w with heap := w.heap.push (.cells ⟨vs⟩ t) }, ?_, ext_setborn hk _ _, ctx_setborn cx hk _ _ ?_⟩
  · simp [newVar, newRow, newObj, Sem.run, h1, upd_same]
  · refine ⟨⟨vs⟩, t, push_new _ _, ?_⟩
    exact RepAs.mono ((ext_setborn (β := β) (bx := bx) (w := w) hk (.cells ⟨vs⟩ t) (.var cs)).lasts X) _ _ h2

theorem birthOf_turn {sl sl' : List (Nat × AV)} {o : Oper} (h : ∀ x ∈ o.op.operands.toList, opd G sl x = opd G sl' x) : birthOf T G sl o = birthOf T G sl' o := by
  obtain ⟨dst, op, type, pos, after, guard⟩ := o
  unfold birthOf
  cases guard with
  | some g => rfl
  | none =>
    cases op <;> simp only []
    rename_i t x
    rw [h x (by simp [Op.operands])]

theorem birth_sound (hT : TOk P T) (hF : Fr G N ds β w X s a) {o : Oper} {cs : List AV} (hb : birthOf T G s.sl o = some cs) {k : Nat} (hk : s.bx[k]? = some .unborn) {next : Act → World → Prop} {Qc : Exit → Act → World → Prop}
    (hn : Hands G β s.bx w X a o.dst (fun v bx => v = .ptr k 0 ∧ bx = s.bx.set k (.var cs)) next) : o.wp P a w next Qc := by
  obtain ⟨dst, op, type, pos, after, guard⟩ := o
  have hlt : k < s.bx.length := get_lt hk
  have hborn : bornAt (s.bx.set k (.var cs)) k := ⟨.var cs, get_set_same hk, rfl⟩
  unfold birthOf at hb
  unfold Oper.wp
  cases guard with
  | some g => simp at hb
  | none =>
    simp only at hb
    split at hb
    · rename_i t
      cases ht : T t with
      | none => simp [ht] at hb
      | some ti =>
      simp only [ht] at hb
      obtain ⟨i, d, h1, h2, h3, h4, h5, h6⟩ := tiOf_inv (hT.ti _ _ ht)
      cases hzz : i.zero with
      | none => rw [h6, hzz] at hb; simp [AV.cells?] at hb
      | some z =>
      rw [h6, hzz] at hb
      obtain ⟨β', w', k1, k2, k3⟩ := newVar_born (P := P) hF.cx hk t hb (absZ_rep z)
      have hr : (execOp a.eval { dst := dst, op := .alloc t, type := type, pos := pos, after := after, guard := none }).run P w = .ok (.value (.pointer (some ⟨β' k, 0, none⟩))) w' :=
        execv _ (by simp [Instr.alloc, run_zero h1 hzz, k1])
      rw [hr]
      exact hn β' _ w' (.ptr k 0) _ k2 k3 (by simp only [RepA]; exact ⟨trivial, hborn⟩) ⟨rfl, rfl⟩
    · rename_i t x
      obtain ⟨β', w', k1, k2, k3⟩ := newVar_born (P := P) hF.cx hk t hb (hF.eval x)
      have hr : (execOp a.eval { dst := dst, op := .box t x, type := type, pos := pos, after := after, guard := none }).run P w = .ok (.value (.pointer (some ⟨β' k, 0, none⟩))) w' :=
        execv _ (by simp [Instr.box, k1])
      rw [hr]
      exact hn β' _ w' (.ptr k 0) _ k2 k3 (by simp only [RepA]; exact ⟨trivial, hborn⟩) ⟨rfl, rfl⟩
    · simp at hb

/-- a row that a call has made, as a box that was not born -/
theorem new_row_at {β' : Nat → Nat} {w' : World} {sz n k : Nat} {es : List (List D)} {bx1 : List Box} {u : Value} (cx : Ctx G β bx w X) (hk : bx[k]? = some .unborn) (ex : Ext β [] w β' [.row sz es] w') (cx' : Ctx G β' [.row sz es] w' (liveX β bx1 X))
    (hv : (∀ r ∈ es, ∀ x ∈ r, x.flat = true) ∨ bx1 = bx) (hr : RepA β' [.row sz es] w' (okp β' [.row sz es] w' (liveX β bx1 X)) (.ow 0 sz n) u) :
    Ext β bx w (upd β k (β' 0)) (bx.set k (.row sz es)) w' ∧ Ctx G (upd β k (β' 0)) (bx.set k (.row sz es)) w' X ∧
      RepA (upd β k (β' 0)) (bx.set k (.row sz es)) w' (okp (upd β k (β' 0)) (bx.set k (.row sz es)) w' X) (.ow k sz n) u := by
  have e0 := ext_none (bx := bx) ex
  have hlk : k < bx.length := get_lt hk
  have hnew : Box.live (.row sz es) = true → w.heap.size ≤ β' 0 := by
    intro hl
    rcases ex.live 0 (.row sz es) rfl hl with h | ⟨j, b', h1, _⟩
    · exact h
    · simp at h1
  have e1 : Ext β bx w (upd β k (β' 0)) (bx.set k (.row sz es)) w' := by
    refine ⟨e0.os, e0.tape, e0.output, e0.size, e0.block, e0.shape, ?_, ?_⟩
    · intro i hi
      obtain ⟨h1, h2⟩ := born_set hk (.row sz es) hi
      exact ⟨upd_ne _ _ h1, h2⟩
    · intro i b h hl
      rcases get_set_inv h with ⟨rfl, rfl, _⟩ | ⟨hne, h1⟩
      · exact .inl (by rw [upd_same]; exact hnew hl)
      · exact .inr ⟨i, b, h1, hl, (upd_ne _ _ hne).symm⟩
  have hlt : ∀ i b, bx[i]? = some b → b.live = true → β i < w.heap.size := fun i b h hl => BoxOk.live_lt (cx.box i b h) hl
  have hok : bx1 = bx → ∀ blk, okp β' [.row sz es] w' (liveX β bx1 X) blk → okp (upd β k (β' 0)) (bx.set k (.row sz es)) w' X blk := by
    rintro rfl blk ⟨k1, k2, k3⟩
    refine ⟨k1, fun hX => k2 (.inl hX), ?_⟩
    intro i b h hl
    rcases get_set_inv h with ⟨rfl, rfl, _⟩ | ⟨hne, h1⟩
    · rw [upd_same]; exact k3 0 _ rfl hl
    · rw [upd_ne _ _ hne]; exact fun he => k2 (.inr ⟨i, b, h1, hl, he⟩)
  refine ⟨e1, cx.step e1 ?_ ?_, ?_⟩
  · intro i b h
    rcases get_set_inv h with ⟨rfl, rfl, _⟩ | ⟨hne, h1⟩
    · refine .inr ?_
      have := cx'.box 0 _ rfl
      rw [upd_same]
      simp only [BoxOk] at this ⊢
      refine this.imp id ?_
      rintro ⟨c, e, h1, h2⟩
      refine ⟨c, e, h1, ?_⟩
      rcases hv with hfl | hb
      · exact flatRows_rep _ _ hfl h2
      · exact RepRows.mono (fun blk hb' => ⟨hok hb blk hb', rfl⟩) _ _ (fun _ => rfl) _ _ h2
    · exact .inl ⟨h1, fun hl => ex.block _ (hlt i b h1 hl) (by simp)⟩
  · intro i j bi bj hi hj hli hlj he
    rcases get_set_inv hi with ⟨rfl, rfl, _⟩ | ⟨hni, h1⟩ <;> rcases get_set_inv hj with ⟨rfl, rfl, _⟩ | ⟨hnj, h2⟩
    · rfl
    · rw [upd_same, upd_ne _ _ hnj] at he
      have := hlt j bj h2 hlj; have := hnew hli; omega
    · rw [upd_same, upd_ne _ _ hni] at he
      have := hlt i bi h1 hli; have := hnew hlj; omega
    · rw [upd_ne _ _ hni, upd_ne _ _ hnj] at he
      exact cx.inj i j bi bj h1 h2 hli hlj he
  · simp only [RepA] at hr ⊢
    obtain ⟨_, h2⟩ := hr
    refine ⟨⟨_, get_set_same hk, rfl⟩, ?_⟩
    rw [upd_same]; exact h2

/-- a call that makes an own row, at a box that was not born -/
theorem callBorn_sound (hT : TOk P T) (hF : Fr G N ds β w X s a) {o : Oper} {k : Nat} {v0 : AV} {B0 : Box} (h : callBorn (FCalls P G) G o s.sl s.bx k (fun v B => v = v0 ∧ B = B0)) {next : Act → World → Prop} {Qc : Exit → Act → World → Prop}
    (hn : Hands G β s.bx w X a o.dst (fun v bx => v = v0 ∧ bx = s.bx.set k B0) next) : o.wp P a w next Qc := by
  obtain ⟨f, args, ats, i, as, args', sz, n, es, ho, hfa, ⟨h1, h2⟩, h3, h4, h5, h6, hk, rfl, rfl⟩ := h
  have hev : ∀ x, (opd G s.sl x).ok → RepA β s.bx w (okp β s.bx w X) (opd G s.sl x).strip (a.eval x) := fun x hx => strip_rep (hF.eval x) hx
  obtain ⟨cs, e1, e2⟩ := fnArgs_rep hfa (hev f h1) (map_rep args.toList (fun y hy => hev y (okAll_mem h2 y hy)))
  unfold Oper.wp
  rw [run_callVal ho e1]
  obtain ⟨x1, c1, r1⟩ := frzs_seal as s.bx _ _ hF.cx h3 e2
  have cn := ctx_none c1
  have hnn : RepAs β [] w (okp β [] w (liveX β (seals1 s.bx as) X)) _ _ := shuts_rep (fun blk hb => okp_none blk hb) _ _ h4 r1
  refine callF_upon (h5 β w _ _ cn hnn) ?_ ?_ ?_
  · rintro u w' ⟨β', ex, cx', hr⟩
    simp only [RepRes] at hr
    obtain ⟨y1, y2, y3⟩ := new_row_at hF.cx hk ex cx' (by
      rcases h6 with hfl | hnl
      · exact .inl hfl
      · refine .inr ?_
        rw [frzs_none s.bx hnl]) hr
    exact hn _ _ w' _ u y1 y2 y3 ⟨rfl, rfl⟩
  · rintro ch w' ⟨_, _, _, hr⟩; exact hr.elim
  · rintro w' ⟨_, _, _, hr⟩; exact hr.elim

end
end Dem
end
section
/- THE CALCULUS: REGIONS WHOSE ORDER IS OPEN. -/
open Go
namespace Dem

structure It where
  dst : Option Nat
  v : AV
  bi : Option (Nat × Box)

def foldS (m : Nat → Bool) : Nat → List It → List (Nat × AV) → List (Nat × AV)
  | _, [], sl => sl
  | i, t :: r, sl => foldS m (i + 1) r (bif m i then put1 t.dst t.v sl else sl)

def setB (t : It) (bx : List Box) : List Box :=
  match t.bi with
  | some (k, B) => bx.set k B
  | none => bx

def foldB (m : Nat → Bool) : Nat → List It → List Box → List Box
  | _, [], bx => bx
  | i, t :: r, bx => foldB m (i + 1) r (bif m i then setB t bx else bx)

theorem lok_put1 (t : Nat) (dst : Option Nat) (v : AV) (sl : List (Nat × AV)) : lok t (put1 dst v sl) = if dst = some t then v else lok t sl := by
  cases dst with
  | none => simp [put1]
  | some d =>
    simp only [put1, lok_put, Option.some.injEq]
    by_cases h : t = d
    · subst h; simp
    · have : d ≠ t := fun e => h e.symm
      simp [h, this]

theorem foldS_agree {t : Nat} {m m' : Nat → Bool} : ∀ (its : List It) (i : Nat) (sl sl' : List (Nat × AV)), lok t sl = lok t sl' →
    (∀ j it, its[j]? = some it → it.dst = some t → m (i + j) = m' (i + j)) → lok t (foldS m i its sl) = lok t (foldS m' i its sl')
  | [], _, _, _, h, _ => h
  | it :: r, i, sl, sl', h, hm => by
    simp only [foldS]
    refine foldS_agree r (i + 1) _ _ ?_ (fun j it' hj hd => by have := hm (j + 1) it' (by simpa using hj) hd; simpa [Nat.add_assoc, Nat.add_comm 1 j] using this)
    by_cases hd : it.dst = some t
    · have := hm 0 it rfl hd
      rw [Nat.add_zero] at this
      rw [this]
      cases m' i <;> simp [lok_put1, hd, h]
    · cases m i <;> cases m' i <;> simp [lok_put1, hd, h]

theorem foldS_none {t : Nat} {m : Nat → Bool} : ∀ (its : List It) (i : Nat) (sl : List (Nat × AV)), (∀ j it, its[j]? = some it → it.dst = some t → m (i + j) = false) → lok t (foldS m i its sl) = lok t sl
  | [], _, _, _ => rfl
  | it :: r, i, sl, hm => by
    simp only [foldS]
    rw [foldS_none r (i + 1) _ (fun j it' hj hd => by have := hm (j + 1) it' (by simpa using hj) hd; simpa [Nat.add_assoc, Nat.add_comm 1 j] using this)]
    by_cases hd : it.dst = some t
    · have := hm 0 it rfl hd
      rw [Nat.add_zero] at this
      simp [this]
    · cases m i <;> simp [lok_put1, hd]

theorem foldS_congr {m m' : Nat → Bool} : ∀ (its : List It) (i : Nat) (sl : List (Nat × AV)), (∀ j, j < its.length → m (i + j) = m' (i + j)) → foldS m i its sl = foldS m' i its sl
  | [], _, _, _ => rfl
  | it :: r, i, sl, hm => by
    simp only [foldS]
    have h0 := hm 0 (by simp)
    rw [Nat.add_zero] at h0
    rw [h0]
    exact foldS_congr r (i + 1) _ (fun j hj => by have := hm (j + 1) (by simpa using hj); simpa [Nat.add_assoc, Nat.add_comm 1 j] using this)

theorem foldB_congr {m m' : Nat → Bool} : ∀ (its : List It) (i : Nat) (bx : List Box), (∀ j, j < its.length → m (i + j) = m' (i + j)) → foldB m i its bx = foldB m' i its bx
  | [], _, _, _ => rfl
  | it :: r, i, bx, hm => by
    simp only [foldB]
    have h0 := hm 0 (by simp)
    rw [Nat.add_zero] at h0
    rw [h0]
    exact foldB_congr r (i + 1) _ (fun j hj => by have := hm (j + 1) (by simpa using hj); simpa [Nat.add_assoc, Nat.add_comm 1 j] using this)

/-- the operations ahead in the text -/
theorem foldS_take : ∀ (its : List It) (i j : Nat) (sl : List (Nat × AV)), foldS (fun _ => true) i (its.take j) sl = foldS (fun x => decide (x < i + j)) i its sl
  | [], i, j, sl => by simp [foldS]
  | it :: r, i, 0, sl => by
    simp only [List.take_zero, foldS, Nat.add_zero, Nat.lt_irrefl, decide_false, cond_false]
    have : ∀ (r : List It) (k : Nat), i ≤ k → foldS (fun x => decide (x < i)) k r sl = sl := by
      intro r
      induction r with
      | nil => intro k _; rfl
      | cons t r ih =>
        intro k hk
        simp only [foldS, show ¬ k < i by omega, decide_false, cond_false]
        exact ih (k + 1) (by omega)
    exact (this r (i + 1) (by omega)).symm
  | it :: r, i, j + 1, sl => by
    simp only [List.take_succ_cons, foldS, cond_true, show i < i + (j + 1) by omega, decide_true]
    rw [foldS_take r (i + 1) j]
    exact foldS_congr r (i + 1) _ (fun k _ => by simp only [show i + 1 + j = i + (j + 1) by omega])

theorem foldS_step {t : Nat} {m m' : Nat → Bool} : ∀ (its : List It) (i j0 : Nat) (it0 : It) (sl : List (Nat × AV)), its[j0]? = some it0 → m (i + j0) = false → m' (i + j0) = true → (∀ x, x ≠ i + j0 → m' x = m x) →
    (∀ j it, its[j]? = some it → j0 < j → m (i + j) = true → ∀ d, it0.dst = some d → it.dst ≠ some d) → lok t (foldS m' i its sl) = lok t (put1 it0.dst it0.v (foldS m i its sl))
  | [], _, _, _, _, h, _, _, _, _ => by simp at h
  | it :: r, i, 0, it0, sl, h, h1, h2, h3, h4 => by
    simp at h; subst h
    simp only [Nat.add_zero] at h1 h2
    simp only [foldS, h1, h2, cond_true, cond_false]
    rw [foldS_congr (m := m') (m' := m) r (i + 1) _ (fun j _ => h3 _ (by omega)), lok_put1]
    by_cases hd : it.dst = some t
    · rw [if_pos hd, foldS_none r (i + 1) _ (fun j it' hj hd' => ?_), lok_put1, if_pos hd]
      cases hq : m (i + 1 + j) with
      | false => rfl
      | true => exact absurd hd' (h4 (j + 1) it' (by simpa using hj) (by omega) (by rw [show i + (j + 1) = i + 1 + j by omega]; exact hq) t hd)
    · rw [if_neg hd]
      exact foldS_agree r (i + 1) _ _ (by rw [lok_put1, if_neg hd]) (fun _ _ _ _ => rfl)
  | it :: r, i, j0 + 1, it0, sl, h, h1, h2, h3, h4 => by
    simp only [foldS]
    rw [h3 i (by omega)]
    exact foldS_step r (i + 1) j0 it0 _ (by simpa using h) (by rw [show i + 1 + j0 = i + (j0 + 1) by omega]; exact h1) (by rw [show i + 1 + j0 = i + (j0 + 1) by omega]; exact h2)
      (fun x hx => h3 x (by omega)) (fun j it' hj hlt hm => h4 (j + 1) it' (by simpa using hj) (by omega) (by rw [show i + (j + 1) = i + 1 + j by omega]; exact hm))

/- the boxes -/
def BiOk : Nat → List It → Prop
  | _, [] => True
  | k, t :: r => match t.bi with
    | some (x, _) => x = k ∧ BiOk (k + 1) r
    | none => BiOk k r

theorem BiOk.ge : ∀ {its : List It} {k : Nat}, BiOk k its → ∀ {j : Nat} {it : It} {x : Nat} {cs : Box}, its[j]? = some it → it.bi = some (x, cs) → k ≤ x
  | [], _, _, _, _, _, _, h, _ => by simp at h
  | t :: r, k, hk, 0, it, x, cs, h, hb => by
    simp at h; subst h
    simp only [BiOk, hb] at hk
    omega
  | t :: r, k, hk, j + 1, it, x, cs, h, hb => by
    simp only [BiOk] at hk
    split at hk
    · have := hk.2.ge (j := j) (by simpa using h) hb; omega
    · exact BiOk.ge hk (j := j) (by simpa using h) hb

theorem BiOk.apart : ∀ {its : List It} {k : Nat}, BiOk k its → ∀ {j j' : Nat} {it it' : It} {x x' : Nat} {cs cs' : Box}, its[j]? = some it → it.bi = some (x, cs) → its[j']? = some it' → it'.bi = some (x', cs') → j ≠ j' → x ≠ x'
  | [], _, _, _, _, _, _, _, _, _, _, h, _, _, _, _ => by simp at h
  | t :: r, k, hk, 0, 0, _, _, _, _, _, _, _, _, _, _, hne => absurd rfl hne
  | t :: r, k, hk, 0, j' + 1, it, it', x, x', cs, cs', h, hb, h', hb', _ => by
    simp at h; subst h
    simp only [BiOk, hb] at hk
    have := hk.2.ge (j := j') (by simpa using h') hb'; omega
  | t :: r, k, hk, j + 1, 0, it, it', x, x', cs, cs', h, hb, h', hb', _ => by
    simp at h'; subst h'
    simp only [BiOk, hb'] at hk
    have := hk.2.ge (j := j) (by simpa using h) hb; omega
  | t :: r, k, hk, j + 1, j' + 1, it, it', x, x', cs, cs', h, hb, h', hb', hne => by
    have hk' : ∃ k', BiOk k' r := by
      simp only [BiOk] at hk
      split at hk
      · exact ⟨_, hk.2⟩
      · exact ⟨_, hk⟩
    obtain ⟨k', hk'⟩ := hk'
    exact BiOk.apart hk' (j := j) (j' := j') (by simpa using h) hb (by simpa using h') hb' (by omega)

theorem foldB_get {m : Nat → Bool} {x : Nat} : ∀ (its : List It) (i : Nat) (bx : List Box), (∀ j it y cs, its[j]? = some it → m (i + j) = true → it.bi = some (y, cs) → y ≠ x) → (foldB m i its bx)[x]? = bx[x]?
  | [], _, _, _ => rfl
  | t :: r, i, bx, h => by
    simp only [foldB]
    rw [foldB_get r (i + 1) _ (fun j it y cs hj hm hb => h (j + 1) it y cs (by simpa using hj) (by rw [show i + (j + 1) = i + 1 + j by omega]; exact hm) hb)]
    cases hm : m i with
    | false => rfl
    | true =>
      simp only [cond_true, setB]
      split
      · rename_i k cs hb
        have := h 0 t k cs rfl (by simpa using hm) hb
        rw [List.getElem?_set_ne this]
      · rfl

theorem foldB_set {m : Nat → Bool} {x : Nat} {B : Box} : ∀ (its : List It) (i : Nat) (bx : List Box), (∀ j it y cs, its[j]? = some it → m (i + j) = true → it.bi = some (y, cs) → y ≠ x) → foldB m i its (bx.set x B) = (foldB m i its bx).set x B
  | [], _, _, _ => rfl
  | t :: r, i, bx, h => by
    simp only [foldB]
    rw [← foldB_set r (i + 1) _ (fun j it y cs hj hm hb => h (j + 1) it y cs (by simpa using hj) (by rw [show i + (j + 1) = i + 1 + j by omega]; exact hm) hb)]
    congr 1
    cases hm : m i with
    | false => rfl
    | true =>
      simp only [cond_true, setB]
      split
      · rename_i k cs hb
        have := h 0 t k cs rfl (by simpa using hm) hb
        rw [List.set_comm _ _ (Ne.symm this)]
      · rfl

theorem foldB_step {m m' : Nat → Bool} : ∀ (its : List It) (i j0 : Nat) (it0 : It) (bx : List Box), its[j0]? = some it0 → m (i + j0) = false → m' (i + j0) = true → (∀ x, x ≠ i + j0 → m' x = m x) →
    (∀ j it y cs x cs0, its[j]? = some it → j ≠ j0 → it.bi = some (y, cs) → it0.bi = some (x, cs0) → y ≠ x) → foldB m' i its bx = setB it0 (foldB m i its bx)
  | [], _, _, _, _, h, _, _, _, _ => by simp at h
  | t :: r, i, 0, it0, bx, h, h1, h2, h3, h4 => by
    simp at h; subst h
    simp only [Nat.add_zero] at h1 h2
    simp only [foldB, h1, h2, cond_true, cond_false]
    rw [foldB_congr (m := m') (m' := m) r (i + 1) _ (fun j _ => h3 _ (by omega))]
    unfold setB
    split
    · rename_i k cs hb
      exact foldB_set r (i + 1) bx (fun j it y cs' hj _ hb' => h4 (j + 1) it y cs' k cs (by simpa using hj) (by omega) hb' hb)
    · rfl
  | t :: r, i, j0 + 1, it0, bx, h, h1, h2, h3, h4 => by
    simp only [foldB]
    rw [h3 i (by omega)]
    exact foldB_step r (i + 1) j0 it0 _ (by simpa using h) (by rw [show i + 1 + j0 = i + (j0 + 1) by omega]; exact h1) (by rw [show i + 1 + j0 = i + (j0 + 1) by omega]; exact h2)
      (fun x hx => h3 x (by omega)) (fun j it y cs x cs0 hj hne => h4 (j + 1) it y cs x cs0 (by simpa using hj) (by omega))

theorem foldB_le {m : Nat → Bool} {bx0 : List Box} : ∀ (its : List It) (i : Nat) (bx : List Box), BxLe bx0 bx → (∀ (j : Nat) (it : It) (y : Nat) (cs : Box), its[j]? = some it → it.bi = some (y, cs) → bx0[y]? = some .unborn) → BxLe bx0 (foldB m i its bx)
  | [], _, _, h, _ => h
  | t :: r, i, bx, h, hu => by
    simp only [foldB]
    refine foldB_le r (i + 1) _ ?_ (fun j it y cs hj => hu (j + 1) it y cs (by simpa using hj))
    cases m i with
    | false => exact h
    | true =>
      simp only [cond_true, setB]
      split
      · rename_i k cs hb
        have h0 := hu 0 t k cs rfl hb
        intro x b hx hborn
        by_cases hxk : k = x
        · subst hxk; rw [h0] at hx; simp at hx; subst hx; simp [Box.born] at hborn
        · rw [List.getElem?_set_ne hxk]; exact h x b hx hborn
      · exact h

end Dem
end
section
/- THE CALCULUS: REGIONS WHOSE ORDER IS OPEN: WHAT STANDS AHEAD OF WHAT. -/
open Go
namespace Dem

theorem befores_take : ∀ (l : List Oper) (acc : List Nat), (befores l acc).take acc.length = acc
  | [], acc => by simp [befores]
  | o :: r, acc => by
    have h := befores_take r (acc ++ [before1 acc o])
    simp only [befores]
    have := congrArg (List.take acc.length) h
    simpa [List.take_take] using this

theorem befores_get : ∀ (l : List Oper) (acc : List Nat) (j : Nat) (o : Oper), l[j]? = some o → (befores l acc)[acc.length + j]? = some (before1 ((befores l acc).take (acc.length + j)) o)
  | [], _, _, _, h => by simp at h
  | p :: r, acc, 0, o, h => by
    simp at h; subst h
    simp only [befores, Nat.add_zero]
    have h1 := befores_take r (acc ++ [before1 acc p])
    have h2 := congrArg (List.take acc.length) h1
    have h3 := congrArg (fun l => l[acc.length]?) h1
    simp only [List.take_take, List.length_append, List.length_cons, List.length_nil, Nat.zero_add] at h2 h3
    rw [Nat.min_eq_left (by omega)] at h2
    rw [List.getElem?_take, if_pos (by omega)] at h3
    rw [h3, h2]
    simp
  | p :: r, acc, j + 1, o, h => by
    have := befores_get r (acc ++ [before1 acc p]) j o (by simpa using h)
    simp only [List.length_append, List.length_cons, List.length_nil, Nat.zero_add] at this
    simp only [befores]
    rw [show acc.length + (j + 1) = acc.length + 1 + j by omega]
    exact this

theorem before1_bit {acc : List Nat} {i : Nat} : ∀ (es : List Edge) (s : Nat), (es.foldl (fun s e => bif Region.binds .any e then s ||| 2 ^ e.on ||| acc.getD e.on 0 else s) s).testBit i = true →
    s.testBit i = true ∨ ∃ e ∈ es, Region.binds .any e = true ∧ (e.on = i ∨ (acc.getD e.on 0).testBit i = true)
  | [], s, h => .inl h
  | e :: es, s, h => by
    rw [List.foldl_cons] at h
    rcases before1_bit es _ h with h1 | ⟨e', h1, h2⟩
    · cases hb : Region.binds .any e with
      | false => rw [hb] at h1; exact .inl h1
      | true =>
        rw [hb] at h1
        simp only [cond_true, Nat.testBit_or, Bool.or_eq_true] at h1
        rcases h1 with (h1 | h1) | h1
        · exact .inl h1
        · refine .inr ⟨e, by simp, hb, .inl ?_⟩
          rw [Nat.testBit_two_pow] at h1
          simpa using h1
        · exact .inr ⟨e, by simp, hb, .inr h1⟩
    · exact .inr ⟨e', by simp [h1], h2⟩

section
variable {ops : Array Oper}

def Down (ops : Array Oper) (m : Nat → Bool) : Prop := ∀ x o, ops[x]? = some o → m x = true → ∀ e ∈ o.after, Region.binds .any e = true → m e.on = true

theorem closed {m : Nat → Bool} (hd : Down ops m) : ∀ (j : Nat) (o : Oper), ops[j]? = some o → (∀ e ∈ o.after, Region.binds .any e = true → m e.on = true) → ∀ i, ((befores ops.toList []).getD j 0).testBit i = true → m i = true := by
  intro j
  induction j using Nat.strongRecOn with
  | _ j ih =>
    intro o ho hp i hi
    have hget := befores_get ops.toList [] j o (by simpa using ho)
    simp only [List.length_nil, Nat.zero_add] at hget
    rw [List.getD_eq_getElem?_getD, hget] at hi
    simp only [Option.getD_some, before1] at hi
    rcases before1_bit _ _ hi with h | ⟨e, he, hb, h | h⟩
    · simp at h
    · subst h; exact hp e (by simpa using he) hb
    · have hlt : e.on < j := by
        rcases Nat.lt_or_ge e.on j with h' | h'
        · exact h'
        · rw [List.getD_eq_getElem?_getD, List.getElem?_take, if_neg (by omega)] at h
          simp at h
      have hh : ((befores ops.toList []).getD e.on 0).testBit i = true := by
        rw [List.getD_eq_getElem?_getD, List.getElem?_take, if_pos hlt] at h
        rw [List.getD_eq_getElem?_getD]; exact h
      have hj : j < ops.size := (Array.getElem?_eq_some_iff.1 ho).1
      have ho' : ops[e.on]? = some ops[e.on] := by simp [show e.on < ops.size by omega]
      exact ih e.on hlt _ ho' (hd _ _ ho' (hp e (by simpa using he) hb)) i hh

theorem apartUpto_spec {m : Nat} {o : Oper} : ∀ {n : Nat}, drawFit.apartUpto ops m o n = true → ∀ j, j < n → m.testBit j = true ∨ ∃ p, ops[j]? = some p ∧ p.apart ops o = true
  | 0, _, j, hj => by omega
  | n + 1, h, j, hj => by
    simp only [drawFit.apartUpto, Bool.and_eq_true, Bool.or_eq_true] at h
    by_cases hjn : j = n
    · subst hjn
      refine h.1.imp id (fun h1 => ?_)
      split at h1
      · rename_i p hp; exact ⟨p, hp, h1⟩
      · simp at h1
    · exact apartUpto_spec h.2 j (by omega)

theorem drawFit_spec {b : List Nat} : ∀ {l : List Oper} {i : Nat}, drawFit ops b i l = true → ∀ j o, l[j]? = some o →
    (∀ e ∈ o.after, Region.binds .any e = true → e.on < i + j) ∧ ∀ k, k < i + j → (b.getD (i + j) 0).testBit k = true ∨ ∃ p, ops[k]? = some p ∧ p.apart ops o = true
  | [], _, _, j, o, ho => by simp at ho
  | q :: r, i, h, 0, o, ho => by
    simp at ho; subst ho
    simp only [drawFit, Bool.and_eq_true] at h
    refine ⟨fun e he hb => ?_, fun k hk => apartUpto_spec h.1.2 k hk⟩
    have := List.all_eq_true.1 h.1.1 e (by simpa using he)
    simpa [hb, Nat.blt_eq] using this
  | q :: r, i, h, j + 1, o, ho => by
    simp only [drawFit, Bool.and_eq_true] at h
    have := drawFit_spec h.2 j o (by simpa using ho)
    rw [show i + (j + 1) = i + 1 + j by omega]
    exact this

theorem barrier_spec {b : List Nat} {q : Nat} (h : barrier b q = true) : (∀ i, i < q → (b.getD q 0).testBit i = true) ∧ ∀ i, q < i → i < b.length → (b.getD i 0).testBit q = true := by
  simp only [barrier, Bool.and_eq_true] at h
  obtain ⟨h1, h2⟩ := h
  refine ⟨fun i hi => ?_, fun i hi hl => ?_⟩
  · rw [Nat.eq_of_beq_eq_true h1]
    simpa using hi
  · refine List.all_eq_true.1 h2 _ ?_
    rw [List.getD_eq_getElem?_getD, List.getElem?_eq_getElem hl, Option.getD_some]
    rw [List.mem_iff_getElem?]
    refine ⟨i - (q + 1), ?_⟩
    rw [List.getElem?_drop, show q + 1 + (i - (q + 1)) = i by omega, List.getElem?_eq_getElem hl]

theorem befores_length : ∀ (l : List Oper) (acc : List Nat), (befores l acc).length = acc.length + l.length
  | [], acc => by simp [befores]
  | o :: r, acc => by simp only [befores]; rw [befores_length r]; simp; omega

end
end Dem
end
