/- JOINED TEXTS: Fe4, Fe5. -/
import Derived.Test.YtegnablmooijmaaDoorJ18
set_option linter.unusedSimpArgs false
set_option linter.unusedVariables false
section
/- THE CALCULUS FOR EVALUATION: a contract upon some boxes holds upon more. -/
open Go
namespace Dem

/-- from a callee's box number to the caller's: 'sel': the boxes that were handed; n: how many the caller has -/
def backM (sel : List Nat) (n : Nat) (j : Nat) : Option Nat := match sel[j]? with
  | some i => some i
  | none => some (n + (j - sel.length))

def backOld (sel : List Nat) (n : Nat) (bx0 : List Box) : Nat → List Box → Option (List Box)
  | _, [] => some []
  | i, b :: r => match idxIn i sel 0 with
    | some j => match bx0[j]? with
      | some b0 => match Box.ren (backM sel n) b0, backOld sel n bx0 (i + 1) r with
        | some x, some xs => some (x :: xs)
        | _, _ => none
      | none => none
    | none => match backOld sel n bx0 (i + 1) r with
      | some xs => some (b :: xs)
      | none => none

def backNew (sel : List Nat) (n : Nat) : List Box → Option (List Box)
  | [] => some []
  | b :: r => match Box.ren (backM sel n) b, backNew sel n r with
    | some x, some xs => some (x :: xs)
    | _, _ => none

/-- boxes behind a call that was handed 'sel' alone -/
def backS (sel : List Nat) (bx bx0 : List Box) : Option (List Box) :=
  bif Nat.ble sel.length bx0.length && isAt sel 0 sel then
    match backOld sel bx.length bx0 0 bx, backNew sel bx.length (bx0.drop sel.length) with
    | some a, some b => some (a ++ b)
    | _, _ => none
  else none

def Res.ren (m : Nat → Option Nat) : Res → Option Res
  | .ret v => match v.ren m with
    | some x => some (.ret x)
    | none => none
  | .pan v => match v.ren m with
    | some x => some (.pan x)
    | none => none

section
variable {P : Program} {G : Nat → Option (List D)}

theorem backOld_get {sel : List Nat} {n : Nat} {bx0 : List Box} : ∀ {bx a : List Box} {i : Nat}, backOld sel n bx0 i bx = some a → a.length = bx.length ∧ ∀ (k : Nat) (b : Box), bx[k]? = some b →
    (∃ j b0 b', idxIn (i + k) sel 0 = some j ∧ bx0[j]? = some b0 ∧ Box.ren (backM sel n) b0 = some b' ∧ a[k]? = some b') ∨ (idxIn (i + k) sel 0 = none ∧ a[k]? = some b)
  | [], a, i, h => by simp only [backOld, Option.some.injEq] at h; subst h; simp
  | b :: r, a, i, h => by
    simp only [backOld] at h
    split at h
    · rename_i j hj
      split at h
      · rename_i b0 hb0
        split at h
        · rename_i x xs h1 h2
          simp only [Option.some.injEq] at h; subst h
          obtain ⟨k1, k2⟩ := backOld_get h2
          refine ⟨by simp [k1], ?_⟩
          intro k b1 hk
          cases k with
          | zero => exact .inl ⟨j, b0, x, hj, hb0, h1, rfl⟩
          | succ k =>
            simp only [List.getElem?_cons_succ] at hk ⊢
            have := k2 k b1 hk
            rwa [show i + 1 + k = i + (k + 1) by omega] at this
        · simp at h
      · simp at h
    · rename_i hj
      split at h
      · rename_i xs h2
        simp only [Option.some.injEq] at h; subst h
        obtain ⟨k1, k2⟩ := backOld_get h2
        refine ⟨by simp [k1], ?_⟩
        intro k b1 hk
        cases k with
        | zero => simp only [List.getElem?_cons_zero, Option.some.injEq] at hk; subst hk; exact .inr ⟨hj, rfl⟩
        | succ k =>
          simp only [List.getElem?_cons_succ] at hk ⊢
          have := k2 k b1 hk
          rwa [show i + 1 + k = i + (k + 1) by omega] at this
      · simp at h

theorem backNew_get {sel : List Nat} {n : Nat} : ∀ {bx a : List Box}, backNew sel n bx = some a → a.length = bx.length ∧ ∀ (k : Nat) (b : Box), bx[k]? = some b → ∃ b', Box.ren (backM sel n) b = some b' ∧ a[k]? = some b'
  | [], a, h => by simp only [backNew, Option.some.injEq] at h; subst h; simp
  | b :: r, a, h => by
    simp only [backNew] at h
    split at h
    · rename_i x xs h1 h2
      simp only [Option.some.injEq] at h; subst h
      obtain ⟨k1, k2⟩ := backNew_get h2
      refine ⟨by simp [k1], ?_⟩
      intro k b1 hk
      cases k with
      | zero => simp only [List.getElem?_cons_zero, Option.some.injEq] at hk; subst hk; exact ⟨x, h1, rfl⟩
      | succ k => simp only [List.getElem?_cons_succ] at hk ⊢; exact k2 k b1 hk
    · simp at h

theorem idxIn_none {b : Nat} : ∀ {l : List Nat} {i : Nat}, idxIn b l i = none → ∀ j : Nat, l[j]? ≠ some b
  | [], _, _, j => by simp
  | x :: r, i, h, j => by
    simp only [idxIn] at h
    cases hb : Nat.beq b x with
    | true => simp [hb] at h
    | false =>
      simp only [hb, cond_false] at h
      cases j with
      | zero => intro e; simp only [List.getElem?_cons_zero, Option.some.injEq] at e; subst e; simp at hb
      | succ j => rw [List.getElem?_cons_succ]; exact idxIn_none h j

/-- A CONTRACT UPON SOME BOXES HOLDS UPON MORE. -/
theorem fcalls_more {f : Nat} {args args0 : List AV} {bx bx0 bx0' bx' : List Box} {res0 res : Res} (sel : List Nat)
    (ha : AV.rens (fun b => idxIn b sel 0) args = some args0) (hb : renBoxes (fun b => idxIn b sel 0) bx sel = some bx0)
    (hr : Res.ren (backM sel bx.length) res0 = some res) (hb' : backS sel bx bx0' = some bx') (h : FCalls P G f args0 bx0 res0 bx0') : FCalls P G f args bx res bx' := by
  intro β w vs X cx hx
  unfold backS at hb'
  cases hlen : Nat.ble sel.length bx0'.length with
  | false => simp [hlen] at hb'
  | true =>
  cases hself0 : isAt sel 0 sel with
  | false => simp [hlen, hself0] at hb'
  | true =>
  simp only [hlen, hself0, Bool.and_self, cond_true] at hb'
  split at hb'
  case h_2 => simp at hb'
  rename_i aO aN hO hN
  simp only [Option.some.injEq] at hb'
  subst hb'
  have hlen' : sel.length ≤ bx0'.length := Nat.le_of_ble_eq_true hlen
  obtain ⟨lO, gO⟩ := backOld_get hO
  obtain ⟨lN, gN⟩ := backNew_get hN
  have hself : ∀ k i, sel[k]? = some i → idxIn i sel 0 = some k := fun k i hk => by have := isAt_spec hself0 hk; simpa using this
  have hidx : ∀ b j, idxIn b sel 0 = some j → sel[j]? = some b := fun b j hj => by have := (idxIn_spec hj).2; simpa using this
  have hselbx : ∀ k i, sel[k]? = some i → ∃ b, bx[i]? = some b := fun k i hk => by
    obtain ⟨b, _, h1, _⟩ := renBoxes_at hb k i hk; exact ⟨b, h1⟩
  -- the callee's boxes
  let β0 : Nat → Nat := fun j => match sel[j]? with | some i => β i | none => 0
  let X0 : Nat → Prop := fun blk => X blk ∨ ∃ (i : Nat) (b : Box), bx[i]? = some b ∧ b.live = true ∧ idxIn i sel 0 = none ∧ β i = blk
  have hβ0 : ∀ k i, sel[k]? = some i → β0 k = β i := fun k i hk => by simp [β0, hk]
  have hm : ∀ b j, idxIn b sel 0 = some j → β0 j = β b ∧ (bornAt bx b → bornAt bx0 j) := by
    intro b j hj
    have hs := hidx b j hj
    refine ⟨hβ0 j b hs, ?_⟩
    rintro ⟨B, hB, hborn⟩
    obtain ⟨b1, b2, k1, k2, k3⟩ := renBoxes_at hb j b hs
    rw [hB] at k1; cases k1
    exact ⟨b2, k3, (Box.ren_born k2).1.trans hborn⟩
  have hlive0 : ∀ (i : Nat) (b : Box), bx0[i]? = some b → b.live = true → ∃ (j : Nat) (b' : Box), bx[j]? = some b' ∧ b'.live = true ∧ β j = β0 i ∧ sel[i]? = some j := by
    intro i b hi hl
    obtain ⟨j, b', k1, k2, k3⟩ := renBoxes_get hb i b hi
    exact ⟨j, b', k2, (Box.ren_born k3).2 ▸ hl, (hβ0 i j k1).symm, k1⟩
  have hok0 : ∀ blk, okp β bx w X blk → okp β0 bx0 w X0 blk := by
    rintro blk ⟨k1, k2, k3⟩
    refine ⟨k1, ?_, ?_⟩
    · rintro (hX | ⟨i, b, h1, h2, _, h3⟩)
      · exact k2 hX
      · exact k3 i b h1 h2 h3
    · intro i b hi hl
      obtain ⟨j, b', h3, h4, h5, _⟩ := hlive0 i b hi hl
      rw [← h5]; exact k3 j b' h3 h4
  have hkeep0 : Keeps w w (okp β bx w X) (okp β0 bx0 w X0) := fun blk hb => ⟨hok0 blk hb, rfl⟩
  have hlt : ∀ (i : Nat) (b : Box), bx[i]? = some b → b.live = true → β i < w.heap.size := fun i b h hl => BoxOk.live_lt (cx.box i b h) hl
  have cx0 : Ctx G β0 bx0 w X0 := by
    refine ⟨?_, ?_, ?_, ?_, ?_⟩
    · rintro blk (hX | ⟨i, b, h1, h2, _, rfl⟩)
      · exact cx.xs blk hX
      · exact hlt i b h1 h2
    · intro g ds hg
      obtain ⟨k1, k2⟩ := cx.glob g ds hg
      exact ⟨hok0 g k1, RepRow.mono hkeep0 g (fun _ => rfl) _ _ k2⟩
    · intro i j bi bj hi hj hli hlj he
      obtain ⟨i', bi', a1, a2, a3, a4⟩ := hlive0 i bi hi hli
      obtain ⟨j', bj', c1, c2, c3, c4⟩ := hlive0 j bj hj hlj
      have : i' = j' := cx.inj i' j' bi' bj' a1 c1 a2 c2 (a3.trans (he.trans c3.symm))
      subst this
      have e1 := hself i i' a4
      have e2 := hself j i' c4
      rw [e1] at e2; exact Option.some.inj e2
    · intro i b hi
      obtain ⟨j, b', k1, k2, k3⟩ := renBoxes_get hb i b hi
      have hbb := cx.box j b' k2
      rw [hβ0 i j k1]
      cases b' with
      | var cs =>
        simp only [Box.ren] at k3
        split at k3
        · rename_i ys hys
          simp only [Option.some.injEq] at k3; subst k3
          simp only [BoxOk] at hbb ⊢
          obtain ⟨c, e, g1, g2⟩ := hbb
          exact ⟨c, e, g1, rens_rep hm hok0 cs ys _ hys g2⟩
        · simp at k3
      | row sz es =>
        simp only [Box.ren, Option.some.injEq] at k3; subst k3
        refine hbb.imp id ?_
        rintro ⟨c, e, g1, g2⟩
        exact ⟨c, e, g1, RepRows.mono hkeep0 _ _ (fun _ => rfl) _ _ g2⟩
      | imm sz es =>
        simp only [Box.ren, Option.some.injEq] at k3; subst k3
        refine hbb.imp id ?_
        rintro ⟨g1, g2⟩
        exact ⟨hok0 _ g1, RepRows.mono hkeep0 _ _ (fun _ => rfl) _ _ g2⟩
      | it s p => simp only [Box.ren, Option.some.injEq] at k3; subst k3; exact hbb
      | mp ag es => simp only [Box.ren, Option.some.injEq] at k3; subst k3; obtain ⟨ms, clock, h1, h2, h3⟩ := hbb; exact ⟨ms, clock, h1, h2, RepEnts.mono hkeep0 _ _ _ h3⟩
      | dead => simp only [Box.ren, Option.some.injEq] at k3; subst k3; trivial
      | unborn => simp only [Box.ren, Option.some.injEq] at k3; subst k3; trivial
    · intro i b hi hl
      obtain ⟨j, b', h3, h4, h5, h6⟩ := hlive0 i b hi hl
      rw [← h5]
      rintro (hX | ⟨i2, b2, e1, e2, e3, e4⟩)
      · exact cx.apart j b' h3 h4 hX
      · have : i2 = j := cx.inj i2 j b2 b' e1 h3 e2 h4 e4
        subst this
        rw [hself i i2 h6] at e3; cases e3
  refine CallF.mono (h β0 w vs X0 cx0 (rens_rep hm hok0 args args0 vs ha hx)) ?_
  rintro e w' ⟨β0', ex0, cx0', hres⟩
  -- the caller's boxes behind the call
  let β' : Nat → Nat := fun i => match idxIn i sel 0 with | some j => β0' j | none => if i < bx.length then β i else β0' (sel.length + (i - bx.length))
  have hsell : ∀ j i, sel[j]? = some i → i < bx.length := fun j i hj => by obtain ⟨b, hb⟩ := hselbx j i hj; exact get_lt hb
  have hnsel : ∀ k, idxIn (bx.length + k) sel 0 = none := by
    intro k
    cases hc : idxIn (bx.length + k) sel 0 with
    | none => rfl
    | some j => have := hsell j _ (hidx _ _ hc); omega
  have hβs : ∀ i j, idxIn i sel 0 = some j → β' i = β0' j := fun i j hj => by simp [β', hj]
  have hβo : ∀ i, i < bx.length → idxIn i sel 0 = none → β' i = β i := fun i hi hn => by simp [β', hi, hn]
  have hβn : ∀ k, β' (bx.length + k) = β0' (sel.length + k) := fun k => by simp [β', hnsel k]; omega
  have hbx'o : ∀ (i : Nat), i < bx.length → (aO ++ aN)[i]? = aO[i]? := fun i hi => List.getElem?_append_left (by omega)
  have hbx'n : ∀ (k : Nat), (aO ++ aN)[bx.length + k]? = aN[k]? := fun k => by rw [List.getElem?_append_right (by omega), lO]; congr 1; omega
  have hinv : ∀ (i : Nat) (b : Box), (aO ++ aN)[i]? = some b → (i < bx.length ∧ idxIn i sel 0 = none ∧ bx[i]? = some b) ∨
      (∃ (j : Nat) (b0 : Box), bx0'[j]? = some b0 ∧ Box.ren (backM sel bx.length) b0 = some b ∧ backM sel bx.length j = some i) := by
    intro i b hi
    rcases Nat.lt_or_ge i bx.length with hl | hl
    · rw [hbx'o i hl] at hi
      obtain ⟨bi, hbi⟩ : ∃ bi, bx[i]? = some bi := ⟨bx[i], by simp [hl]⟩
      have := gO i bi hbi
      rw [Nat.zero_add] at this
      rcases this with ⟨j, b0, b', k1, k2, k3, k4⟩ | ⟨k1, k2⟩
      · rw [hi] at k4; cases k4
        refine .inr ⟨j, b0, k2, k3, ?_⟩
        simp [backM, hidx i j k1]
      · rw [hi] at k2; cases k2
        exact .inl ⟨hl, k1, hbi⟩
    · obtain ⟨k, rfl⟩ : ∃ k, i = bx.length + k := ⟨i - bx.length, by omega⟩
      rw [hbx'n k] at hi
      have hk : k < aN.length := by
        rcases Nat.lt_or_ge k aN.length with h' | h'
        · exact h'
        · simp [List.getElem?_eq_none h'] at hi
      have hkd : k < (bx0'.drop sel.length).length := by omega
      obtain ⟨b', k1, k2⟩ := gN k _ (List.getElem?_eq_getElem hkd)
      rw [hi] at k2; cases k2
      refine .inr ⟨sel.length + k, (bx0'.drop sel.length)[k], ?_, k1, ?_⟩
      · rw [← List.getElem?_drop]; exact List.getElem?_eq_getElem hkd
      · simp [backM]
  have hβb : ∀ j i, backM sel bx.length j = some i → β' i = β0' j ∧ (bornAt bx0' j → bornAt (aO ++ aN) i) := by
    intro j i hj
    unfold backM at hj
    split at hj
    · rename_i i' hs
      simp only [Option.some.injEq] at hj; subst hj
      obtain ⟨bi, hbi⟩ := hselbx j i' hs
      have hil := get_lt hbi
      refine ⟨hβs i' j (hself j i' hs), ?_⟩
      rintro ⟨b0, e1, e2⟩
      have := gO i' bi hbi
      rw [Nat.zero_add, hself j i' hs] at this
      rcases this with ⟨j2, b02, b', c1, c2, c3, c4⟩ | ⟨c1, _⟩
      · cases c1
        rw [e1] at c2; cases c2
        exact ⟨b', by rw [hbx'o i' hil]; exact c4, (Box.ren_born c3).1.trans e2⟩
      · cases c1
    · rename_i hs
      simp only [Option.some.injEq] at hj; subst hj
      have hge : sel.length ≤ j := by
        rcases Nat.lt_or_ge j sel.length with h' | h'
        · simp [h'] at hs
        · exact h'
      refine ⟨by rw [hβn]; congr 1; omega, ?_⟩
      rintro ⟨b0, e1, e2⟩
      have hd : (bx0'.drop sel.length)[j - sel.length]? = some b0 := by rw [List.getElem?_drop]; rw [← e1]; congr 1; omega
      obtain ⟨b', c1, c2⟩ := gN _ _ hd
      exact ⟨b', by rw [hbx'n]; exact c2, (Box.ren_born c1).1.trans e2⟩
  have hok' : ∀ blk, okp β0' bx0' w' X0 blk → okp β' (aO ++ aN) w' X blk := by
    rintro blk ⟨k1, k2, k3⟩
    refine ⟨k1, fun hX => k2 (.inl hX), ?_⟩
    intro i b hi hl
    rcases hinv i b hi with ⟨c1, c2, c3⟩ | ⟨j, b0, c1, c2, c3⟩
    · rw [hβo i c1 c2]
      exact fun he => k2 (.inr ⟨i, b, c3, hl, c2, he⟩)
    · rw [(hβb j i c3).1]
      exact k3 j b0 c1 ((Box.ren_born c2).2 ▸ hl)
  have hkeep' : Keeps w' w' (okp β0' bx0' w' X0) (okp β' (aO ++ aN) w' X) := fun blk hb => ⟨hok' blk hb, rfl⟩
  have ex : Ext β bx w β' (aO ++ aN) w' := by
    refine ⟨ex0.os, ex0.tape, ex0.output, ex0.size, ?_, ex0.shape, ?_, ?_⟩
    · intro k hk hl
      refine ex0.block k hk ?_
      intro i b hi hlv
      obtain ⟨j, b', h3, h4, h5, _⟩ := hlive0 i b hi hlv
      rw [← h5]; exact hl j b' h3 h4
    · intro i hi
      obtain ⟨b, hb1, hb2⟩ := hi
      have hil := get_lt hb1
      cases hc : idxIn i sel 0 with
      | some j =>
        obtain ⟨k1, k2⟩ := hm i j hc
        obtain ⟨c1, c2⟩ := ex0.born j (k2 ⟨b, hb1, hb2⟩)
        have hbm : backM sel bx.length j = some i := by simp [backM, hidx i j hc]
        exact ⟨by rw [hβs i j hc, c1, k1], (hβb j i hbm).2 c2⟩
      | none =>
        refine ⟨hβo i hil hc, b, ?_, hb2⟩
        rw [hbx'o i hil]
        have := gO i b hb1
        rw [Nat.zero_add, hc] at this
        rcases this with ⟨_, _, _, c1, _⟩ | ⟨_, c2⟩
        · cases c1
        · exact c2
    · intro i b hi hl
      rcases hinv i b hi with ⟨c1, c2, c3⟩ | ⟨j, b0, c1, c2, c3⟩
      · exact .inr ⟨i, b, c3, hl, (hβo i c1 c2).symm⟩
      · rw [(hβb j i c3).1]
        rcases ex0.live j b0 c1 ((Box.ren_born c2).2 ▸ hl) with h1 | ⟨j', b', h1, h2, h3⟩
        · exact .inl h1
        · obtain ⟨j2, b2, e1, e2, e3, _⟩ := hlive0 j' b' h1 h2
          exact .inr ⟨j2, b2, e1, e2, e3.trans h3⟩
  refine ⟨β', ex, cx.step ex ?_ ?_, ?_⟩
  · intro i b hi
    rcases hinv i b hi with ⟨c1, c2, c3⟩ | ⟨j, b0, c1, c2, c3⟩
    · refine .inl ⟨c3, fun hl => ex0.block _ (hlt i b c3 hl) ?_⟩
      intro k b' hk hlk he
      obtain ⟨j, b2, h3, h4, h5, h6⟩ := hlive0 k b' hk hlk
      have : j = i := cx.inj j i b2 b h3 c3 h4 hl (h5.trans he)
      subst this
      rw [hself k j h6] at c2; cases c2
    · refine .inr ?_
      have hbb := cx0'.box j b0 c1
      rw [(hβb j i c3).1]
      cases b0 with
      | var cs =>
        simp only [Box.ren] at c2
        split at c2
        · rename_i ys hys
          simp only [Option.some.injEq] at c2; subst c2
          simp only [BoxOk] at hbb ⊢
          obtain ⟨c, e, g1, g2⟩ := hbb
          exact ⟨c, e, g1, rens_rep hβb hok' cs ys _ hys g2⟩
        · simp at c2
      | row sz es =>
        simp only [Box.ren, Option.some.injEq] at c2; subst c2
        refine hbb.imp id ?_
        rintro ⟨c, e, g1, g2⟩
        exact ⟨c, e, g1, RepRows.mono hkeep' _ _ (fun _ => rfl) _ _ g2⟩
      | imm sz es =>
        simp only [Box.ren, Option.some.injEq] at c2; subst c2
        refine hbb.imp id ?_
        rintro ⟨g1, g2⟩
        exact ⟨hok' _ g1, RepRows.mono hkeep' _ _ (fun _ => rfl) _ _ g2⟩
      | it s p => simp only [Box.ren, Option.some.injEq] at c2; subst c2; exact hbb
      | mp ag es => simp only [Box.ren, Option.some.injEq] at c2; subst c2; obtain ⟨ms, clock, h1, h2, h3⟩ := hbb; exact ⟨ms, clock, h1, h2, RepEnts.mono hkeep' _ _ _ h3⟩
      | dead => simp only [Box.ren, Option.some.injEq] at c2; subst c2; trivial
      | unborn => simp only [Box.ren, Option.some.injEq] at c2; subst c2; trivial
  · intro i j bi bj hi hj hli hlj he
    rcases hinv i bi hi with ⟨c1, c2, c3⟩ | ⟨i', b0, c1, c2, c3⟩ <;> rcases hinv j bj hj with ⟨d1, d2, d3⟩ | ⟨j', b0', d1, d2, d3⟩
    · rw [hβo i c1 c2, hβo j d1 d2] at he
      exact cx.inj i j bi bj c3 d3 hli hlj he
    · rw [hβo i c1 c2, (hβb j' j d3).1] at he
      exact absurd (.inr ⟨i, bi, c3, hli, c2, he⟩) (cx0'.apart j' b0' d1 ((Box.ren_born d2).2 ▸ hlj))
    · rw [(hβb i' i c3).1, hβo j d1 d2] at he
      exact absurd (.inr ⟨j, bj, d3, hlj, d2, he.symm⟩) (cx0'.apart i' b0 c1 ((Box.ren_born c2).2 ▸ hli))
    · rw [(hβb i' i c3).1, (hβb j' j d3).1] at he
      have := cx0'.inj i' j' b0 b0' c1 d1 ((Box.ren_born c2).2 ▸ hli) ((Box.ren_born d2).2 ▸ hlj) he
      subst this
      rw [c3] at d3; exact Option.some.inj d3
  · cases res0 with
    | ret v0 =>
      simp only [Res.ren] at hr
      split at hr
      · rename_i v hv
        simp only [Option.some.injEq] at hr; subst hr
        cases e with
        | returned u => exact ren_rep hβb hok' v0 v u hv hres
        | panicked ch => exact hres.elim
        | outgrown => exact hres.elim
      · simp at hr
    | pan v0 =>
      simp only [Res.ren] at hr
      split at hr
      · rename_i v hv
        simp only [Option.some.injEq] at hr; subst hr
        cases e with
        | returned u => exact hres.elim
        | panicked ch =>
          obtain ⟨u, k1, k2⟩ := hres
          exact ⟨u, k1, ren_rep hβb hok' v0 v u hv k2⟩
        | outgrown => exact hres.elim
      · simp at hr
end
end Dem
end
section
/- THE CALCULUS FOR EVALUATION: how goals are closed. -/
open Go
namespace Dem

theorem loopIn {s : St} {P : St → Prop} (h : P s) : LoopIn (some s) P := ⟨h⟩

/-- slots and boxes that turn from round to round -/
def updB (bx : List Box) : List (Nat × Box) → List Box
  | [] => bx
  | (i, b) :: r => updB (bx.set i b) r
def updL (sl : List (Nat × AV)) : List (Nat × AV) → List (Nat × AV)
  | [] => sl
  | (i, v) :: r => updL (put i v sl) r
def updS (s : St) (u : List (Nat × AV)) (b : List (Nat × Box)) : St := ⟨updL s.sl u, updB s.bx b⟩

/-- A LOOP: what is kept; what turns, by a value of σ; what holds of it, with a measure. -/
theorem loopU {K : Nat} {A : (Ex → St → Prop) → St → Prop} {Q : Ex → St → Prop} {s : St} (nf : Nf) {σ : Type} (U : σ → List (Nat × AV)) (V : σ → List (Nat × Box)) (J : Nat → σ → Prop)
    (h : LoopIn (normS K nf s) fun s0 => ∃ n0 v0, J n0 v0 ∧ s0 = updS s0 (U v0) (V v0) ∧
      ∀ n v, J n v → A (fun e s2 => thenQ (fun s2 => LoopIn (normS K nf s2) (fun s3 => ∃ m v', (m < n ∧ J m v') ∧ s3 = updS s0 (U v') (V v'))) Q e s2) (updS s0 (U v) (V v))) : LoopT K A Q s := by
  obtain ⟨h⟩ := h
  split at h
  · rename_i s0 hn
    obtain ⟨n0, v0, hJ, hs, hr⟩ := h
    refine ⟨nf, fun n s1 => ∃ v, J n v ∧ s1 = updS s0 (U v) (V v), n0, ⟨?_⟩, ?_⟩
    · rw [hn]; exact ⟨v0, hJ, hs⟩
    · rintro n s1 ⟨v, hv, rfl⟩
      have e : (fun e s2 => thenQ (fun s2 => LoopIn (normS K nf s2) (fun s3 => ∃ m v', (m < n ∧ J m v') ∧ s3 = updS s0 (U v') (V v'))) Q e s2) =
          (fun e s2 => thenQ (fun s2 => LoopIn (normS K nf s2) (fun s3 => ∃ m, m < n ∧ ∃ v, J m v ∧ s3 = updS s0 (U v) (V v))) Q e s2) := by
        funext e s2
        congr 1
        funext s2
        congr 1
        funext s3
        apply propext
        constructor
        · rintro ⟨m, v', ⟨h1, h2⟩, h3⟩; exact ⟨m, h1, v', h2, h3⟩
        · rintro ⟨m, h1, v', h2, h3⟩; exact ⟨m, v', ⟨h1, h2⟩, h3⟩
      rw [← e]; exact hr n v hv
  · exact h.elim

theorem condI {p : Bool} {A B : Unit → Prop} (h1 : p = true → A ()) (h2 : p = false → B ()) : CondWp (.d (.bool p)) A B := .mk (And.intro h1 h2)
theorem condT {p : Bool} {A B : Unit → Prop} (hp : p = true) (h1 : A ()) : CondWp (.d (.bool p)) A B := .mk (And.intro (fun _ => h1) (fun h => by rw [hp] at h; cases h))
theorem condF {p : Bool} {A B : Unit → Prop} (hp : p = false) (h1 : B ()) : CondWp (.d (.bool p)) A B := .mk (And.intro (fun h => by rw [hp] at h; cases h) (fun _ => h1))

theorem idxI {g : Bool} {c : Prop} {ds : List D} {K : List D → Prop} (ds' : List D) (hc : c) (hd : ds = ds') (hK : K ds') : IdxWp g c ds K := ⟨ds', fun _ => ⟨hc, hd⟩, hK⟩
theorem rowI {g : Bool} {c : Prop} {ds : List D} {K : List D → Prop} (ds' : List D) (hc : c) (hd : ds = ds') (hK : K ds') : RowWp g c ds K := ⟨ds', fun _ => ⟨hc, hd⟩, hK⟩
theorem idxG {g : Bool} {c : Prop} {ds : List D} {K : List D → Prop} (ds' : List D) (h : g = true → c ∧ ds = ds') (hK : K ds') : IdxWp g c ds K := ⟨ds', h, hK⟩
theorem rowG {g : Bool} {c : Prop} {ds : List D} {K : List D → Prop} (ds' : List D) (h : g = true → c ∧ ds = ds') (hK : K ds') : RowWp g c ds K := ⟨ds', h, hK⟩

theorem viewI {c : Prop} {v : AV} {bx : List Box} {K : AV → List Box → Prop} (v' : AV) (bx' : List Box) (hc : c) (hv : v = v') (hb : bx = bx') (hK : K v' bx') : ViewWp c v bx K := ⟨v', bx', hc, hv, hb, hK⟩
theorem viewG {g : Bool} {c : Prop} {v : AV} {K : AV → Prop} (v' : AV) (h : g = true → c ∧ v = v') (hK : K v') : ViewG g c v K := ⟨v', h, hK⟩

theorem gI {g : Bool} {p K : Prop} (h : g = true → p) (k : K) : GuardI g p ∧ K := ⟨⟨h⟩, k⟩
theorem pI {p : Bool} {a b K : Prop} (h : (p = true → a) ∧ (p = false → b)) (k : K) : PickI p a b ∧ K := ⟨⟨h⟩, k⟩

section
variable {P : Program} {G : Nat → Option (List D)} {FC : Nat → List AV → List Box → Res → List Box → Prop} {oks : Prop} {f : Nat} {args args' : List AV} {c : Prop} {bx bx1 bx2 : List Box} {v : AV} {K Kp : AV → List Box → Prop}

/-- a call whose arguments name no box (own rows are lent), and whose result is flat -/
theorem callF (ho : oks) (h : FC f args' [] (.ret v) []) (hc : c) (hs : AV.shut.shuts args' = true) (hf : v.flat = true) (hK : K v bx) : CallT FC oks f args (some (c, args')) bx K Kp :=
  ⟨ho, .inl ⟨c, args', rfl, hc, hs, .inl ⟨v, h, .inl hf, hK⟩⟩⟩
/-- a call whose arguments name no box, and hold no own row -/
theorem callS (ho : oks) (h : FC f args' [] (.ret v) []) (hc : c) (hs : AV.shut.shuts args' = true) (hz : frzs [] args = some args') (hv : v.shut = true) (hK : K v bx) : CallT FC oks f args (some (c, args')) bx K Kp :=
  ⟨ho, .inl ⟨c, args', rfl, hc, hs, .inl ⟨v, h, .inr ⟨hz, hv⟩, hK⟩⟩⟩
/-- a call that hands back an own row -/
theorem callO {sz n : Nat} {es : List (List D)} (ho : oks) (h : FC f args' [] (.ret (.ow 0 sz n)) [.row sz es]) (hc : c) (hs : AV.shut.shuts args' = true) (hz : (∀ r ∈ es, ∀ x ∈ r, x.flat = true) ∨ frzs [] args = some args') (hK : K (.ow bx.length sz n) (bx ++ [.row sz es])) : CallT FC oks f args (some (c, args')) bx K Kp :=
  ⟨ho, .inl ⟨c, args', rfl, hc, hs, .inr ⟨sz, n, es, h, hz, hK⟩⟩⟩
/-- a call with the own rows among its arguments told as data from now on -/
theorem callZ {fz : Option (Prop × List AV)} (ho : oks) (hfz : fz = some (c, args')) (hc : c) (h : FC f args' (seals1 bx args) (.ret v) bx2) (hK : K v bx2) : CallT FC oks f args fz bx K Kp :=
  ⟨ho, .inr ⟨args', seals1 bx args, .ret v, bx2, .inr ⟨⟨c, hfz, hc⟩, rfl⟩, h, hK⟩⟩
/-- a call upon the boxes as they stand -/
theorem callG {fz : Option (Prop × List AV)} (ho : oks) (h : FC f args bx (.ret v) bx2) (hK : K v bx2) : CallT FC oks f args fz bx K Kp :=
  ⟨ho, .inr ⟨args, bx, .ret v, bx2, .inl ⟨rfl, rfl⟩, h, hK⟩⟩

/-- a call under a guard -/
theorem callQ {dr g : Bool} {v : AV} {K : AV → Prop} (h : g = true → oks ∧ c ∧ FC f args' [] (.ret v) []) (hs : AV.namesIn.namesIns [] args' = true) (hf : v.flat = true) (hK : K v) : CallQT FC dr g oks f args bx (some (c, args')) K :=
  ⟨.inr ⟨v, fun hg => ⟨(h hg).1, args', [], ⟨c, rfl, (h hg).2.1⟩, hs, rfl, by simp, (h hg).2.2, .inl hf⟩, hK⟩⟩
/-- one that hands back data, and gets no own row -/
theorem callQS {dr g : Bool} {v : AV} {K : AV → Prop} (h : g = true → oks ∧ c ∧ FC f args' [] (.ret v) []) (hs : AV.namesIn.namesIns [] args' = true) (hz : frzs [] args = some args') (hf : v.shut = true) (hK : K v) : CallQT FC dr g oks f args bx (some (c, args')) K :=
  ⟨.inr ⟨v, fun hg => ⟨(h hg).1, args', [], ⟨c, rfl, (h hg).2.1⟩, hs, rfl, by simp, (h hg).2.2, .inr ⟨hz, hf⟩⟩, hK⟩⟩
/-- one that is handed boxes too -/
theorem callQB {P : Program} {G : Nat → Option (List D)} {dr g : Bool} {v : AV} {K : AV → Prop} {args0 : List AV} {bx0 : List Box} (ks : List Bool) (sel : List Nat) (ho : g = true → oks ∧ c ∧ FCalls P G f args0 bx0 (.ret v) bx0)
    (hn : AV.namesIn.namesIns (kill ks bx) args' = true) (hl : looseBoxes (kill ks bx) (kill ks bx) = true) (hv : v.flat = true ∨ frzs [] args = some args' ∧ v.shut = true)
    (ha : AV.rens (fun b => idxIn b sel 0) args' = some args0) (hb : renBoxes (fun b => idxIn b sel 0) (kill ks bx) sel = some bx0) (hb' : backS sel (kill ks bx) bx0 = some (kill ks bx)) (hr : Res.ren (backM sel (kill ks bx).length) (.ret v) = some (.ret v))
    (hK : K v) : CallQT (FCalls P G) dr g oks f args bx (some (c, args')) K := by
  refine ⟨.inr ⟨v, fun hg => ⟨(ho hg).1, args', kill ks bx, ⟨c, rfl, (ho hg).2.1⟩, hn, hl, ?_, fcalls_more sel ha hb hr hb' (ho hg).2.2, hv⟩, hK⟩⟩
  intro i b hi hborn
  obtain ⟨b0, h1, h2⟩ := kill_get ks bx i b hi
  rcases h2 with rfl | ⟨rfl, h3⟩
  · exact ⟨_, h1, hborn, fun _ => rfl⟩
  · exact ⟨b0, h1, h3, fun h => by simp [Box.live] at h⟩

/-- one that is handed boxes, outside of a region whose order is open -/
theorem callQC {P : Program} {G : Nat → Option (List D)} {g : Bool} {v : AV} {K : AV → Prop} {fz : Option (Prop × List AV)} {args0 : List AV} {bx0 : List Box} (sel : List Nat) (ho : g = true → oks ∧ FCalls P G f args0 bx0 (.ret v) bx0)
    (ha : AV.rens (fun b => idxIn b sel 0) args = some args0) (hb : renBoxes (fun b => idxIn b sel 0) bx sel = some bx0) (hb' : backS sel bx bx0 = some bx) (hr : Res.ren (backM sel bx.length) (.ret v) = some (.ret v))
    (hK : K v) : CallQT (FCalls P G) false g oks f args bx fz K :=
  ⟨.inl ⟨rfl, v, fun hg => ⟨(ho hg).1, fcalls_more sel ha hb hr hb' (ho hg).2⟩, hK⟩⟩
/-- a call that makes an own row, in a region whose order is open -/
theorem bornO {x sz n : Nat} {es : List (List D)} {at_ : Option Box} {K : AV → Box → Prop} (ho : oks) (h : FC f args' [] (.ret (.ow 0 sz n)) [.row sz es]) (hc : c) (hs : AV.shut.shuts args' = true) (hz : (∀ r ∈ es, ∀ x ∈ r, x.flat = true) ∨ frzs [] args = some args') (hat : at_ = some .unborn)
    (hK : K (.ow x sz n) (.row sz es)) : BornI FC oks f args (some (c, args')) at_ x K := ⟨args', sz, n, es, ho, ⟨c, rfl, hc⟩, hs, h, hz, hat, hK⟩

/-- what is told behind a call that was handed some boxes alone -/
structure BackIn (r : Option Res) (b : Option (List Box)) (K : AV → List Box → Prop) : Prop where
  ok : match r, b with
    | some (.ret v), some bx => K v bx
    | _, _ => False
theorem backIn {v : AV} {bx : List Box} {K : AV → List Box → Prop} (h : K v bx) : BackIn (some (.ret v)) (some bx) K := ⟨h⟩

/-- a call that is handed some boxes alone -/
theorem callB {fz : Option (Prop × List AV)} (sel : List Nat) {args0 : List AV} {bx0 bx0' : List Box} {v0 : AV} (ho : oks)
    (ha : AV.rens (fun b => idxIn b sel 0) args = some args0) (hb : renBoxes (fun b => idxIn b sel 0) bx sel = some bx0) (h : FCalls P G f args0 bx0 (.ret v0) bx0')
    (hK : BackIn (Res.ren (backM sel bx.length) (.ret v0)) (backS sel bx bx0') K) : CallT (FCalls P G) oks f args fz bx K Kp := by
  obtain ⟨hK⟩ := hK
  split at hK
  · rename_i v bx' hr hb'
    exact callG ho (fcalls_more sel ha hb hr hb' h) hK
  · exact hK.elim
end

section
variable {n : Nat} {c d : Prop} {v u : AV} {bx bx' : List Box} {res : Res} {fz : Option (Prop × AV)}
/-- the result as data, with what the body made laid aside -/
theorem retF (hc : c) (hd : d) (hw : u.within n = true) (hb : bx' = (sealT bx v).take n) (hbw : boxesWithin n bx' = true) (hr : res = .ret u) : RetT n c v bx (some (d, u)) res bx' :=
  ⟨hc, .inr (.inl ⟨[], d, u, rfl, hd, hw, hb, hbw, hr⟩)⟩
/-- the result as data; some boxes go out of use -/
theorem retK (ks : List Bool) (hc : c) (hd : d) (hw : u.within n = true) (hb : bx' = (kill ks (sealT bx v)).take n) (hbw : boxesWithin n bx' = true) (hr : res = .ret u) : RetT n c v bx (some (d, u)) res bx' :=
  ⟨hc, .inr (.inl ⟨ks, d, u, rfl, hd, hw, hb, hbw, hr⟩)⟩
/-- the result as it stands -/
theorem retS (hc : c) (hb : bx' = bx) (hr : res = .ret v) : RetT n c v bx fz res bx' := ⟨hc, .inl ⟨hr, hb⟩⟩
/-- an own row -/
theorem retO {k sz m : Nat} {es : List (List D)} (hc : c) (hk : bx[k]? = some (.row sz es)) (h1 : Nat.ble n k = true) (h2 : Nat.ble n bx.length = true) (hbw : boxesWithin n (bx.take n) = true) (hr : res = .ret (.ow n sz m)) (hb : bx' = bx.take n ++ [.row sz es]) : RetT n c (.ow k sz m) bx fz res bx' :=
  ⟨hc, .inr (.inr (.inl ⟨k, sz, m, es, rfl, hk, Nat.le_of_ble_eq_true h1, Nat.le_of_ble_eq_true h2, hbw, hr, hb⟩))⟩
theorem retN {sz : Nat} (hc : c) (h2 : Nat.ble n bx.length = true) (hbw : boxesWithin n (bx.take n) = true) (hr : res = .ret (.ow n sz 0)) (hb : bx' = bx.take n ++ [.row sz []]) : RetT n c (.cl []) bx fz res bx' :=
  ⟨hc, .inr (.inr (.inr ⟨sz, rfl, Nat.le_of_ble_eq_true h2, hbw, hr, hb⟩))⟩
end

/-- an own row is a view of the whole of it -/
theorem fcalls_view {P : Program} {G : Nat → Option (List D)} {f b sz n : Nat} {args : List AV} {bx bx' : List Box} {res : Res}
    (h : ∀ c, n ≤ c → (n = 0 → c = 0) → FCalls P G f (.vw b sz 0 n c true :: args) bx res bx') : FCalls P G f (.ow b sz n :: args) bx res bx' := by
  intro β w vs X cx hx
  simp only [RepAs] at hx
  obtain ⟨u, us, rfl, hx, hxs⟩ := hx
  simp only [RepA] at hx
  obtain ⟨hb, ⟨rfl, base, rfl⟩ | ⟨h0, cap, c, e, f', rfl, h1, h2, h3⟩⟩ := hx
  · refine h 0 (Nat.le_refl _) (fun _ => rfl) β w _ X cx ?_
    simp only [RepAs, RepA]
    exact ⟨_, us, rfl, ⟨hb, base, 0, #[], 0, (0, 0), rfl, Nat.le_refl _, Nat.le_refl _, fun _ => rfl, .inl rfl⟩, hxs⟩
  · refine h cap h1 (fun h => absurd h h0) β w _ X cx ?_
    simp only [RepAs, RepA]
    exact ⟨_, us, rfl, ⟨hb, _, cap, c, e, f', rfl, h1, Nat.le_refl _, fun _ => rfl, .inr ⟨by simp, h2, by simpa using h3⟩⟩, hxs⟩

theorem wrap64 {x : Int} (h0 : -9223372036854775808 ≤ x) (h1 : x < 9223372036854775808) : IntKind.i64.wrap x = x := by
  simp [IntKind.wrap, IntKind.signed, IntKind.bits]; omega
end Dem
end
