/- JOINED TEXTS: Fe3. -/
import Derived.Test.YtegnablmooijmaaDoorJ17
set_option linter.unusedSimpArgs false
set_option linter.unusedVariables false
/- THE CALCULUS FOR EVALUATION: a state told anew (what is not needed is left out, boxes are numbered anew). -/
open Go
namespace Dem

mutual
def AV.ren (m : Nat → Option Nat) : AV → Option AV
  | .any => some .any
  | .d x => some (.d x)
  | .k c => some (.k c)
  | .agg cs => match AV.rens m cs with
    | some ys => some (.agg ys)
    | none => none
  | .tup cs => match AV.rens m cs with
    | some ys => some (.tup ys)
    | none => none
  | .ptr b off => match m b with
    | some j => some (.ptr j off)
    | none => none
  | .rp b sz i q => match m b with
    | some j => some (.rp j sz i q)
    | none => none
  | .ep ds => some (.ep ds)
  | .ow b sz n => match m b with
    | some j => some (.ow j sz n)
    | none => none
  | .vw b sz off n c ex => match m b with
    | some j => some (.vw j sz off n c ex)
    | none => none
  | .cl es => some (.cl es)
  | .mpb b => match m b with
    | some j => some (.mpb j)
    | none => none
  | .fn f cs => match AV.rens m cs with
    | some ys => some (.fn f ys)
    | none => none
  | .ifc t x => match AV.ren m x with
    | some y => some (.ifc t y)
    | none => none
  | .cond p x => match AV.ren m x with
    | some y => some (.cond p y)
    | none => none
def AV.rens (m : Nat → Option Nat) : List AV → Option (List AV)
  | [] => some []
  | x :: xs => match AV.ren m x, AV.rens m xs with
    | some y, some ys => some (y :: ys)
    | _, _ => none
end

mutual
def AV.refs : AV → List Nat
  | .ptr b _ => [b]
  | .rp b _ _ _ => [b]
  | .ow b _ _ => [b]
  | .vw b _ _ _ _ _ => [b]
  | .mpb b => [b]
  | .agg cs => AV.refss cs
  | .tup cs => AV.refss cs
  | .fn _ cs => AV.refss cs
  | .ifc _ x => AV.refs x
  | .cond _ x => AV.refs x
  | _ => []
def AV.refss : List AV → List Nat
  | [] => []
  | x :: xs => AV.refs x ++ AV.refss xs
end

def inNat (b : Nat) : List Nat → Bool
  | [] => false
  | x :: r => bif Nat.beq b x then true else inNat b r

def idxIn (b : Nat) : List Nat → Nat → Option Nat
  | [], _ => none
  | x :: r, i => bif Nat.beq b x then some i else idxIn b r (i + 1)

/-- the boxes that are come to -/
def reach (bx : List Box) : Nat → List Nat → List Nat → List Nat
  | 0, _, acc => acc
  | _ + 1, [], acc => acc
  | n + 1, b :: todo, acc => bif inNat b acc then reach bx n todo acc else
      reach bx n (todo ++ (match bx[b]? with | some (.var cs) => AV.refss cs | _ => [])) (acc ++ [b])

def Box.ren (m : Nat → Option Nat) : Box → Option Box
  | .var cs => match AV.rens m cs with
    | some ys => some (.var ys)
    | none => none
  | b => some b

def renBoxes (m : Nat → Option Nat) (bx : List Box) : List Nat → Option (List Box)
  | [] => some []
  | i :: r => match bx[i]? with
    | some b => match Box.ren m b, renBoxes m bx r with
      | some b', some bs => some (b' :: bs)
      | _, _ => none
    | none => none

def renSl (m : Nat → Option Nat) (sl : List (Nat × AV)) : List Nat → Option (List (Nat × AV))
  | [] => some []
  | i :: r => match AV.ren m (lok i sl), renSl m sl r with
    | some y, some ys => some ((i, y) :: ys)
    | _, _ => none

def isAt (sel : List Nat) : Nat → List Nat → Bool
  | _, [] => true
  | i, b :: r => (match idxIn b sel 0 with | some j => Nat.beq i j | none => false) && isAt sel (i + 1) r

def upTo : Nat → List Nat
  | 0 => []
  | n + 1 => upTo n ++ [n]

/-- slots 'ks' alone, the first K boxes, and what is come to from there -/
def trimS (K : Nat) (ks : List Nat) (s : St) : Option St :=
  match reach s.bx 99 (upTo K ++ AV.refss (ks.map fun i => lok i s.sl)) [] with
  | sel => bif isAt sel 0 sel && isAt sel 0 (upTo K) then
    match renBoxes (fun b => idxIn b sel 0) s.bx sel, renSl (fun b => idxIn b sel 0) s.sl ks with
    | some bx, some sl => some ⟨sl, bx⟩
    | _, _ => none
    else none

/-- how a state is told anew at a loop: the slots that are kept; slots and cells that hold a nil slice, from now on an own row -/
structure Nf where
  ks : List Nat
  os : List (Nat × Nat) := []
  ob : List (Nat × Nat × Nat) := []

def ownS (s : St) : List (Nat × Nat) → St
  | [] => s
  | (i, sz) :: r => match lok i s.sl with
    | .cl [] => ownS ⟨put i (.ow s.bx.length sz 0) s.sl, s.bx ++ [.row sz []]⟩ r
    | _ => ownS s r

def ownB (s : St) : List (Nat × Nat × Nat) → St
  | [] => s
  | (b, c, sz) :: r => match s.bx[b]? with
    | some (.var cs) => match cs[c]? with
      | some (.cl []) => bif Nat.beq sz 0 then ownB ⟨s.sl, s.bx.set b (.var (cs.set c (.d (.sl []))))⟩ r
        else ownB ⟨s.sl, (s.bx ++ [Box.row sz []]).set b (.var (cs.set c (.ow s.bx.length sz 0)))⟩ r
      | _ => ownB s r
    | _ => ownB s r

def normS (K : Nat) (nf : Nf) (s : St) : Option St := trimS K nf.ks (ownB (ownS s nf.os) nf.ob)

/- that this is so -/
section
variable {G : Nat → Option (List D)} {N : Nat} {ds : List Deferred} {β β' : Nat → Nat} {bx bx' : List Box} {w : World} {X : Nat → Prop}

structure ExtK (K : Nat) (β : Nat → Nat) (bx : List Box) (β' : Nat → Nat) (bx' : List Box) : Prop where
  born : ∀ i, i < K → bornAt bx i → β' i = β i ∧ bornAt bx' i
  live : ∀ i b, bx'[i]? = some b → b.live = true → ∃ j b', bx[j]? = some b' ∧ b'.live = true ∧ β j = β' i

theorem ExtK.refl (K : Nat) (β : Nat → Nat) (bx : List Box) : ExtK K β bx β bx := ⟨fun _ _ h => ⟨rfl, h⟩, fun i b h1 h2 => ⟨i, b, h1, h2, rfl⟩⟩

theorem ExtK.trans {K : Nat} {β'' : Nat → Nat} {bx'' : List Box} (h : ExtK K β bx β' bx') (g : ExtK K β' bx' β'' bx'') : ExtK K β bx β'' bx'' := by
  refine ⟨?_, ?_⟩
  · intro i hi hb
    obtain ⟨h1, h2⟩ := h.born i hi hb
    obtain ⟨h3, h4⟩ := g.born i hi h2
    exact ⟨h3.trans h1, h4⟩
  · intro i b h1 h2
    obtain ⟨j, b', h3, h4, h5⟩ := g.live i b h1 h2
    obtain ⟨k, b'', h6, h7, h8⟩ := h.live j b' h3 h4
    exact ⟨k, b'', h6, h7, h8.trans h5⟩

theorem Ext.turned {K : Nat} {β0 : Nat → Nat} {bx0 : List Box} {w0 : World} (ex : Ext β0 bx0 w0 β bx w) (hK : bx0.length ≤ K) (h : ExtK K β bx β' bx') : Ext β0 bx0 w0 β' bx' w := by
  refine ⟨ex.os, ex.tape, ex.output, ex.size, ex.block, ex.shape, ?_, ?_⟩
  · intro i hi
    obtain ⟨h1, h2⟩ := ex.born i hi
    obtain ⟨b, hb, _⟩ := hi
    obtain ⟨h3, h4⟩ := h.born i (Nat.lt_of_lt_of_le (get_lt hb) hK) h2
    exact ⟨h3.trans h1, h4⟩
  · intro i b h1 h2
    obtain ⟨j, b', h3, h4, h5⟩ := h.live i b h1 h2
    rw [← h5]
    exact ex.live j b' h3 h4

theorem idxIn_spec {b : Nat} : ∀ {l : List Nat} {i j : Nat}, idxIn b l i = some j → i ≤ j ∧ l[j - i]? = some b
  | [], _, _, h => by simp [idxIn] at h
  | x :: r, i, j, h => by
    simp only [idxIn] at h
    cases hb : Nat.beq b x with
    | true =>
      simp only [hb, cond_true, Option.some.injEq] at h
      subst h
      have := Nat.eq_of_beq_eq_true hb
      subst this
      simp
    | false =>
      simp only [hb, cond_false] at h
      obtain ⟨h1, h2⟩ := idxIn_spec h
      refine ⟨by omega, ?_⟩
      rw [show j - i = (j - (i + 1)) + 1 by omega, List.getElem?_cons_succ]
      exact h2

theorem isAt_spec {sel : List Nat} : ∀ {l : List Nat} {i k b : Nat}, isAt sel i l = true → l[k]? = some b → idxIn b sel 0 = some (i + k)
  | [], _, _, _, _, h => by simp at h
  | x :: r, i, k, b, h, hk => by
    simp only [isAt, Bool.and_eq_true] at h
    cases k with
    | zero =>
      simp only [List.getElem?_cons_zero, Option.some.injEq] at hk
      subst hk
      obtain ⟨h1, _⟩ := h
      split at h1
      · rename_i j hj
        rw [hj, ← Nat.eq_of_beq_eq_true h1]; rfl
      · simp at h1
    | succ k =>
      rw [List.getElem?_cons_succ] at hk
      have := isAt_spec h.2 hk
      rw [this]; congr 1; omega

theorem upTo_get : ∀ {n i : Nat}, i < n → (upTo n)[i]? = some i
  | n + 1, i, h => by
    have hl : (upTo n).length = n := by
      clear h; induction n with
      | zero => rfl
      | succ m ih => simp [upTo, ih]
    simp only [upTo]
    by_cases hi : i < n
    · rw [List.getElem?_append_left (by omega)]; exact upTo_get hi
    · have : i = n := by omega
      subst this
      rw [List.getElem?_append_right (by omega)]; simp [hl]

mutual
theorem ren_rep {m : Nat → Option Nat} {ok ok' : Nat → Prop} (hm : ∀ b j, m b = some j → β' j = β b ∧ (bornAt bx b → bornAt bx' j)) (hok : ∀ blk, ok blk → ok' blk) :
    ∀ (x y : AV) (v : Value), x.ren m = some y → RepA β bx w ok x v → RepA β' bx' w ok' y v
  | .any, y, v, h, _ => by simp only [AV.ren, Option.some.injEq] at h; subst h; simp [RepA]
  | .d x, y, v, h, hv => by
    simp only [AV.ren, Option.some.injEq] at h; subst h; simp only [RepA] at hv ⊢
    exact RepD.mono (fun blk hb => ⟨hok blk hb, rfl⟩) _ _ hv
  | .k c, y, v, h, hv => by simp only [AV.ren, Option.some.injEq] at h; subst h; simpa [RepA] using hv
  | .agg cs, y, v, h, hv => by
    simp only [AV.ren] at h
    split at h
    · rename_i ys hys
      simp only [Option.some.injEq] at h; subst h
      simp only [RepA] at hv ⊢; obtain ⟨vs, h1, h2⟩ := hv
      exact ⟨vs, h1, rens_rep hm hok cs ys vs hys h2⟩
    · simp at h
  | .tup cs, y, v, h, hv => by
    simp only [AV.ren] at h
    split at h
    · rename_i ys hys
      simp only [Option.some.injEq] at h; subst h
      simp only [RepA] at hv ⊢; obtain ⟨vs, h1, h2⟩ := hv
      exact ⟨vs, h1, rens_rep hm hok cs ys vs hys h2⟩
    · simp at h
  | .ptr b off, y, v, h, hv => by
    simp only [AV.ren] at h
    split at h
    · rename_i j hj
      simp only [Option.some.injEq] at h; subst h
      obtain ⟨e, hb⟩ := hm b j hj
      simp only [RepA] at hv ⊢
      rw [e]; exact ⟨hv.1, hb hv.2⟩
    · simp at h
  | .rp b sz i q, y, v, h, hv => by
    simp only [AV.ren] at h
    split at h
    · rename_i j hj
      simp only [Option.some.injEq] at h; subst h
      obtain ⟨e, hb⟩ := hm b j hj
      simp only [RepA] at hv ⊢
      rw [e]; exact ⟨hv.1, hb hv.2⟩
    · simp at h
  | .mpb b, y, v, h, hv => by
    simp only [AV.ren] at h
    split at h
    · rename_i j hj
      simp only [Option.some.injEq] at h; subst h
      obtain ⟨e, hb⟩ := hm b j hj
      simp only [RepA] at hv ⊢
      rw [e]; exact ⟨hv.1, hb hv.2⟩
    · simp at h
  | .ep ds, y, v, h, hv => by
    simp only [AV.ren, Option.some.injEq] at h; subst h
    simp only [RepA] at hv ⊢; obtain ⟨blk, off, h1, h2, h3⟩ := hv
    exact ⟨blk, off, h1, hok blk h2, RepRow.mono (fun blk hb => ⟨hok blk hb, rfl⟩) blk (fun _ => rfl) _ _ h3⟩
  | .ow b sz n, y, v, h, hv => by
    simp only [AV.ren] at h
    split at h
    · rename_i j hj
      simp only [Option.some.injEq] at h; subst h
      obtain ⟨e, hb⟩ := hm b j hj
      simp only [RepA] at hv ⊢
      rw [e]; exact ⟨hb hv.1, hv.2⟩
    · simp at h
  | .vw b sz off n c ex, y, v, h, hv => by
    simp only [AV.ren] at h
    split at h
    · rename_i j hj
      simp only [Option.some.injEq] at h; subst h
      obtain ⟨e, hb⟩ := hm b j hj
      simp only [RepA] at hv ⊢
      rw [e]; exact ⟨hb hv.1, hv.2⟩
    · simp at h
  | .cl es, y, v, h, hv => by
    simp only [AV.ren, Option.some.injEq] at h; subst h
    simp only [RepA] at hv ⊢; obtain ⟨base, h1, h2⟩ := hv
    refine ⟨base, h1, h2.imp id ?_⟩
    rintro ⟨blk, off, sz, e1, e2, e3⟩
    exact ⟨blk, off, sz, e1, hok blk e2, RepRows.mono (fun blk hb => ⟨hok blk hb, rfl⟩) blk sz (fun _ => rfl) _ _ e3⟩
  | .fn f cs, y, v, h, hv => by
    simp only [AV.ren] at h
    split at h
    · rename_i ys hys
      simp only [Option.some.injEq] at h; subst h
      simp only [RepA] at hv ⊢; obtain ⟨vs, h1, h2⟩ := hv
      exact ⟨vs, h1, rens_rep hm hok cs ys vs hys h2⟩
    · simp at h
  | .ifc t x, y, v, h, hv => by
    simp only [AV.ren] at h
    split at h
    · rename_i z hz
      simp only [Option.some.injEq] at h; subst h
      simp only [RepA] at hv ⊢; obtain ⟨u, h1, h2⟩ := hv
      exact ⟨u, h1, ren_rep hm hok x z u hz h2⟩
    · simp at h
  | .cond p x, y, v, h, hv => by
    simp only [AV.ren] at h
    split at h
    · rename_i z hz
      simp only [Option.some.injEq] at h; subst h
      simp only [RepA] at hv ⊢
      exact ⟨fun hp => ren_rep hm hok x z v hz (hv.1 hp), hv.2⟩
    · simp at h
theorem rens_rep {m : Nat → Option Nat} {ok ok' : Nat → Prop} (hm : ∀ b j, m b = some j → β' j = β b ∧ (bornAt bx b → bornAt bx' j)) (hok : ∀ blk, ok blk → ok' blk) :
    ∀ (xs ys : List AV) (vs : List Value), AV.rens m xs = some ys → RepAs β bx w ok xs vs → RepAs β' bx' w ok' ys vs
  | [], ys, vs, h, hv => by simp only [AV.rens, Option.some.injEq] at h; subst h; simpa [RepAs] using hv
  | x :: xs, ys, vs, h, hv => by
    simp only [AV.rens] at h
    split at h
    · rename_i y ys' h1 h2
      simp only [Option.some.injEq] at h; subst h
      simp only [RepAs] at hv ⊢
      obtain ⟨u, us, k1, k2, k3⟩ := hv
      exact ⟨u, us, k1, ren_rep hm hok x y u h1 k2, rens_rep hm hok xs ys' us h2 k3⟩
    · simp at h
end

theorem renBoxes_get {m : Nat → Option Nat} : ∀ {sel : List Nat} {bs : List Box}, renBoxes m bx sel = some bs → ∀ (k : Nat) (b' : Box), bs[k]? = some b' → ∃ (i : Nat) (b : Box), sel[k]? = some i ∧ bx[i]? = some b ∧ Box.ren m b = some b'
  | [], bs, h, k, b', hk => by simp only [renBoxes, Option.some.injEq] at h; subst h; simp at hk
  | i :: r, bs, h, k, b', hk => by
    simp only [renBoxes] at h
    split at h
    · rename_i b hb
      split at h
      · rename_i b1 bs1 h1 h2
        simp only [Option.some.injEq] at h; subst h
        cases k with
        | zero => simp only [List.getElem?_cons_zero, Option.some.injEq] at hk; subst hk; exact ⟨i, b, rfl, hb, h1⟩
        | succ k => simp only [List.getElem?_cons_succ] at hk ⊢; exact renBoxes_get h2 k b' hk
      · simp at h
    · simp at h

theorem renBoxes_at {m : Nat → Option Nat} : ∀ {sel : List Nat} {bs : List Box}, renBoxes m bx sel = some bs → ∀ (k i : Nat), sel[k]? = some i → ∃ (b b' : Box), bx[i]? = some b ∧ Box.ren m b = some b' ∧ bs[k]? = some b'
  | [], bs, h, k, i, hk => by simp at hk
  | i0 :: r, bs, h, k, i, hk => by
    simp only [renBoxes] at h
    split at h
    · rename_i b hb
      split at h
      · rename_i b1 bs1 h1 h2
        simp only [Option.some.injEq] at h; subst h
        cases k with
        | zero => simp only [List.getElem?_cons_zero, Option.some.injEq] at hk; subst hk; exact ⟨b, b1, hb, h1, rfl⟩
        | succ k => simp only [List.getElem?_cons_succ] at hk ⊢; exact renBoxes_at h2 k i hk
      · simp at h
    · simp at h

theorem Box.ren_born {m : Nat → Option Nat} {b b' : Box} (h : Box.ren m b = some b') : b'.born = b.born ∧ b'.live = b.live := by
  unfold Box.ren at h
  split at h
  · split at h
    · simp only [Option.some.injEq] at h; subst h; exact ⟨rfl, rfl⟩
    · simp at h
  · simp only [Option.some.injEq] at h; subst h; exact ⟨rfl, rfl⟩

theorem renSl_lok {m : Nat → Option Nat} {sl : List (Nat × AV)} : ∀ {ks : List Nat} {sl' : List (Nat × AV)}, renSl m sl ks = some sl' → ∀ t, lok t sl' = .any ∨ AV.ren m (lok t sl) = some (lok t sl')
  | [], sl', h, t => by simp only [renSl, Option.some.injEq] at h; subst h; exact .inl rfl
  | i :: r, sl', h, t => by
    simp only [renSl] at h
    split at h
    · rename_i y ys h1 h2
      simp only [Option.some.injEq] at h; subst h
      simp only [lok]
      cases hb : Nat.beq t i with
      | true => have := Nat.eq_of_beq_eq_true hb; subst this; exact .inr h1
      | false => simp only [cond_false]; exact renSl_lok h2 t
    · simp at h

theorem trimS_sound {K : Nat} {ks : List Nat} {s s' : St} {a : Act} (h : trimS K ks s = some s') (hF : Fr G N ds β w X s a) :
    ∃ β', ExtK K β s.bx β' s'.bx ∧ Fr G N ds β' w X s' a := by
  unfold trimS at h
  generalize reach s.bx 99 (upTo K ++ AV.refss (ks.map fun i => lok i s.sl)) [] = sel at h
  simp only at h
  cases h1 : isAt sel 0 sel with
  | false => simp [h1] at h
  | true =>
  cases h2 : isAt sel 0 (upTo K) with
  | false => simp [h1, h2] at h
  | true =>
  simp only [h1, h2, Bool.and_self, cond_true] at h
  split at h
  · rename_i bs sl hbs hsl
    simp only [Option.some.injEq] at h
    subst h
    have hself : ∀ k i, sel[k]? = some i → idxIn i sel 0 = some k := fun k i hk => by have := isAt_spec h1 hk; simpa using this
    have hidx : ∀ b j, idxIn b sel 0 = some j → sel[j]? = some b := fun b j hj => by have := (idxIn_spec hj).2; simpa using this
    let β' : Nat → Nat := fun j => match sel[j]? with | some i => β i | none => 0
    have hβ : ∀ k i, sel[k]? = some i → β' k = β i := fun k i hk => by simp [β', hk]
    have hm : ∀ b j, idxIn b sel 0 = some j → β' j = β b ∧ (bornAt s.bx b → bornAt bs j) := by
      intro b j hj
      have hs := hidx b j hj
      refine ⟨hβ j b hs, ?_⟩
      rintro ⟨B, hB, hborn⟩
      obtain ⟨b1, b2, k1, k2, k3⟩ := renBoxes_at hbs j b hs
      rw [hB] at k1; cases k1
      exact ⟨b2, k3, (Box.ren_born k2).1.trans hborn⟩
    have hlive : ∀ (i : Nat) (b : Box), bs[i]? = some b → b.live = true → ∃ (j : Nat) (b' : Box), s.bx[j]? = some b' ∧ b'.live = true ∧ β j = β' i ∧ sel[i]? = some j := by
      intro i b hi hl
      obtain ⟨j, b', k1, k2, k3⟩ := renBoxes_get hbs i b hi
      exact ⟨j, b', k2, (Box.ren_born k3).2 ▸ hl, (hβ i j k1).symm, k1⟩
    have hok : ∀ blk, okp β s.bx w X blk → okp β' bs w X blk := by
      rintro blk ⟨k1, k2, k3⟩
      refine ⟨k1, k2, ?_⟩
      intro i b hi hl
      obtain ⟨j, b', h3, h4, h5, _⟩ := hlive i b hi hl
      rw [← h5]; exact k3 j b' h3 h4
    have hkeep : Keeps w w (okp β s.bx w X) (okp β' bs w X) := fun blk hb => ⟨hok blk hb, rfl⟩
    refine ⟨β', ⟨?_, ?_⟩, ⟨?_, hF.defers, hF.size, ?_⟩⟩
    · intro i hi hb
      have := isAt_spec h2 (upTo_get hi)
      simp only [Nat.zero_add] at this
      obtain ⟨k1, k2⟩ := hm i i this
      exact ⟨k1, k2 hb⟩
    · intro i b hi hl
      obtain ⟨j, b', h3, h4, h5, _⟩ := hlive i b hi hl
      exact ⟨j, b', h3, h4, h5⟩
    · refine ⟨hF.cx.xs, ?_, ?_, ?_, ?_⟩
      · intro g ds hg
        obtain ⟨k1, k2⟩ := hF.cx.glob g ds hg
        exact ⟨hok g k1, RepRow.mono hkeep g (fun _ => rfl) _ _ k2⟩
      · intro i j bi bj hi hj hli hlj he
        obtain ⟨i', bi', a1, a2, a3, a4⟩ := hlive i bi hi hli
        obtain ⟨j', bj', c1, c2, c3, c4⟩ := hlive j bj hj hlj
        have : i' = j' := hF.cx.inj i' j' bi' bj' a1 c1 a2 c2 (a3.trans (he.trans c3.symm))
        subst this
        have e1 := hself i i' a4
        have e2 := hself j i' c4
        rw [e1] at e2; exact Option.some.inj e2
      · intro i b hi
        obtain ⟨j, b', k1, k2, k3⟩ := renBoxes_get hbs i b hi
        have hb := hF.cx.box j b' k2
        rw [hβ i j k1]
        cases b' with
        | var cs =>
          simp only [Box.ren] at k3
          split at k3
          · rename_i ys hys
            simp only [Option.some.injEq] at k3; subst k3
            simp only [BoxOk] at hb ⊢
            obtain ⟨c, e, g1, g2⟩ := hb
            exact ⟨c, e, g1, rens_rep hm hok cs ys _ hys g2⟩
          · simp at k3
        | row sz es =>
          simp only [Box.ren, Option.some.injEq] at k3; subst k3
          refine hb.imp id ?_
          rintro ⟨c, e, g1, g2⟩
          exact ⟨c, e, g1, RepRows.mono hkeep _ _ (fun _ => rfl) _ _ g2⟩
        | imm sz es =>
          simp only [Box.ren, Option.some.injEq] at k3; subst k3
          refine hb.imp id ?_
          rintro ⟨g1, g2⟩
          exact ⟨hok _ g1, RepRows.mono hkeep _ _ (fun _ => rfl) _ _ g2⟩
        | it s p => simp only [Box.ren, Option.some.injEq] at k3; subst k3; exact hb
        | mp ag es => simp only [Box.ren, Option.some.injEq] at k3; subst k3; obtain ⟨ms, clock, h1, h2, h3⟩ := hb; exact ⟨ms, clock, h1, h2, RepEnts.mono hkeep _ _ _ h3⟩
        | dead => simp only [Box.ren, Option.some.injEq] at k3; subst k3; trivial
        | unborn => simp only [Box.ren, Option.some.injEq] at k3; subst k3; trivial
      · intro i b hi hl
        obtain ⟨j, b', h3, h4, h5, _⟩ := hlive i b hi hl
        rw [← h5]; exact hF.cx.apart j b' h3 h4
    · intro t
      rcases renSl_lok hsl t with h3 | h3
      · rw [h3]; simp [RepA]
      · exact ren_rep hm hok _ _ _ h3 (hF.rep t)
  · simp at h

/-- a row of nothing, that lies nowhere -/
theorem row_none (K : Nat) {sz : Nat} {s : St} {a : Act} (hF : Fr G N ds β w X s a) : ∃ β', ExtK K β s.bx β' (s.bx ++ [.row sz []]) ∧ Fr G N ds β' w X ⟨s.sl, s.bx ++ [.row sz []]⟩ a ∧ bornAt (s.bx ++ [.row sz []]) s.bx.length := by
  have hinv : ∀ {i : Nat} {b : Box}, (s.bx ++ [Box.row sz []])[i]? = some b → b.live = true → s.bx[i]? = some b := by
    intro i b h hl
    rcases get_append_inv h with ⟨h1, _⟩ | ⟨h1, h2⟩
    · exact h1
    · subst h2; simp [Box.live] at hl
  have hok : ∀ blk, okp β s.bx w X blk → okp β (s.bx ++ [.row sz []]) w X blk := by
    rintro blk ⟨k1, k2, k3⟩
    exact ⟨k1, k2, fun i b hi hl => k3 i b (hinv hi hl) hl⟩
  have hborn : ∀ i, bornAt s.bx i → bornAt (s.bx ++ [.row sz []]) i := by
    rintro i ⟨b, h1, h2⟩
    exact ⟨b, get_append_lt h1, h2⟩
  have hkeep : Keeps w w (okp β s.bx w X) (okp β (s.bx ++ [.row sz []]) w X) := fun blk hb => ⟨hok blk hb, rfl⟩
  have hlast : Lasts β s.bx w (okp β s.bx w X) β (s.bx ++ [.row sz []]) w (okp β (s.bx ++ [.row sz []]) w X) := by
    refine ⟨hkeep, ?_, fun _ c _ _ h => ⟨c, h, rfl⟩⟩
    intro i hi
    exact ⟨rfl, hborn i hi⟩
  refine ⟨β, ⟨fun i _ hi => ⟨rfl, hborn i hi⟩, fun i b hi hl => ⟨i, b, hinv hi hl, hl, rfl⟩⟩, ⟨⟨hF.cx.xs, ?_, ?_, ?_, ?_⟩, hF.defers, hF.size, ?_⟩, ?_⟩
  · intro g ds hg
    obtain ⟨k1, k2⟩ := hF.cx.glob g ds hg
    exact ⟨hok g k1, RepRow.mono hkeep g (fun _ => rfl) _ _ k2⟩
  · intro i j bi bj hi hj hli hlj he
    exact hF.cx.inj i j bi bj (hinv hi hli) (hinv hj hlj) hli hlj he
  · intro i b hi
    rcases get_append_inv hi with ⟨h1, _⟩ | ⟨h1, h2⟩
    · have h := hF.cx.box i b h1
      cases b with
      | var cs =>
        obtain ⟨c, e, g1, g2⟩ := h
        exact ⟨c, e, g1, RepAs.mono hlast _ _ g2⟩
      | row sz es =>
        refine h.imp id ?_
        rintro ⟨c, e, g1, g2⟩
        exact ⟨c, e, g1, RepRows.mono hkeep _ _ (fun _ => rfl) _ _ g2⟩
      | imm sz es =>
        refine h.imp id ?_
        rintro ⟨g1, g2⟩
        exact ⟨hok _ g1, RepRows.mono hkeep _ _ (fun _ => rfl) _ _ g2⟩
      | it s p => exact h
      | mp ag es => obtain ⟨ms, clock, h1, h2, h3⟩ := h; exact ⟨ms, clock, h1, h2, RepEnts.mono hkeep _ _ _ h3⟩
      | dead => trivial
      | unborn => trivial
    · subst h2; exact .inl rfl
  · intro i b hi hl
    exact hF.cx.apart i b (hinv hi hl) hl
  · intro t; exact RepA.mono hlast _ _ (hF.rep t)
  · exact ⟨.row sz [], by simp, rfl⟩


theorem cl_ow {ok : Nat → Prop} {n sz : Nat} {u : Value} (hb : bornAt bx n) (h : RepA β bx w ok (.cl []) u) : RepA β bx w ok (.ow n sz 0) u := by
  simp only [RepA, List.length_nil] at h ⊢
  obtain ⟨base, h1, _⟩ := h
  exact ⟨hb, .inl ⟨trivial, base, h1⟩⟩

theorem ownS_sound (K : Nat) {a : Act} : ∀ (l : List (Nat × Nat)) (s : St) (β : Nat → Nat), Fr G N ds β w X s a → ∃ β', ExtK K β s.bx β' (ownS s l).bx ∧ Fr G N ds β' w X (ownS s l) a
  | [], s, β, hF => ⟨β, ExtK.refl _ _ _, hF⟩
  | (i, sz) :: r, s, β, hF => by
    unfold ownS
    split
    · rename_i hl
      obtain ⟨β1, e1, hF1, hb⟩ := row_none (sz := sz) K hF
      have hF2 : Fr G N ds β1 w X ⟨put i (.ow s.bx.length sz 0) s.sl, s.bx ++ [.row sz []]⟩ a := by
        refine ⟨hF1.cx, hF1.defers, hF1.size, ?_⟩
        intro t
        have h1 := hF1.rep t
        simp only [lok_put]
        by_cases ht : t = i
        · subst ht
          rw [if_pos rfl]
          have h1' : RepA β1 (s.bx ++ [.row sz []]) w (okp β1 (s.bx ++ [.row sz []]) w X) (lok t s.sl) (a.tmps.getD t undef) := h1
          rw [hl] at h1'
          exact cl_ow hb h1'
        · rw [if_neg ht]; exact h1
      obtain ⟨β2, e2, hF3⟩ := ownS_sound K r _ β1 hF2
      exact ⟨β2, e1.trans e2, hF3⟩
    · exact ownS_sound K r s β hF

theorem RepAs_set {ok : Nat → Prop} {x y : AV} (hxy : ∀ u, RepA β bx w ok x u → RepA β bx w ok y u) : ∀ (cs : List AV) (c : Nat) (vs : List Value), cs[c]? = some x → RepAs β bx w ok cs vs → RepAs β bx w ok (cs.set c y) vs
  | [], _, _, h, _ => by simp at h
  | z :: cs, 0, vs, h, hv => by
    simp only [List.getElem?_cons_zero, Option.some.injEq] at h; subst h
    simp only [List.set_cons_zero, RepAs] at hv ⊢
    obtain ⟨u, us, h1, h2, h3⟩ := hv
    exact ⟨u, us, h1, hxy u h2, h3⟩
  | z :: cs, c + 1, vs, h, hv => by
    simp only [List.getElem?_cons_succ] at h
    simp only [List.set_cons_succ, RepAs] at hv ⊢
    obtain ⟨u, us, h1, h2, h3⟩ := hv
    exact ⟨u, us, h1, h2, RepAs_set hxy cs c us h h3⟩

theorem retell {s : St} {a : Act} (hF : Fr G N ds β w X s a) {b c : Nat} {cs : List AV} {x y : AV} (hb : s.bx[b]? = some (.var cs)) (hc : cs[c]? = some x)
    (hxy : ∀ u, RepA β s.bx w (okp β s.bx w X) x u → RepA β s.bx w (okp β s.bx w X) y u) (K : Nat) :
    ExtK K β s.bx β (s.bx.set b (.var (cs.set c y))) ∧ Fr G N ds β w X ⟨s.sl, s.bx.set b (.var (cs.set c y))⟩ a := by
  have hinv : ∀ {i : Nat} {B : Box}, (s.bx.set b (.var (cs.set c y)))[i]? = some B → (i = b ∧ B = .var (cs.set c y)) ∨ (i ≠ b ∧ s.bx[i]? = some B) := by
    intro i B h
    rcases get_set_inv h with ⟨h1, h2, _⟩ | ⟨h1, h2⟩
    · exact .inl ⟨h1, h2⟩
    · exact .inr ⟨h1, h2⟩
  have hlive : ∀ {i : Nat} {B : Box}, (s.bx.set b (.var (cs.set c y)))[i]? = some B → B.live = true → ∃ B', s.bx[i]? = some B' ∧ B'.live = true := by
    intro i B h hl
    rcases hinv h with ⟨rfl, rfl⟩ | ⟨_, h1⟩
    · exact ⟨_, hb, rfl⟩
    · exact ⟨B, h1, hl⟩
  have hok : ∀ blk, okp β s.bx w X blk → okp β (s.bx.set b (.var (cs.set c y))) w X blk := by
    rintro blk ⟨k1, k2, k3⟩
    refine ⟨k1, k2, fun i B hi hl => ?_⟩
    obtain ⟨B', h1, h2⟩ := hlive hi hl
    exact k3 i B' h1 h2
  have hborn : ∀ i, bornAt s.bx i → bornAt (s.bx.set b (.var (cs.set c y))) i := fun i hi => bornAt_set rfl hi
  have hkeep : Keeps w w (okp β s.bx w X) (okp β (s.bx.set b (.var (cs.set c y))) w X) := fun blk hb => ⟨hok blk hb, rfl⟩
  have hlast : Lasts β s.bx w (okp β s.bx w X) β (s.bx.set b (.var (cs.set c y))) w (okp β (s.bx.set b (.var (cs.set c y))) w X) :=
    ⟨hkeep, fun i hi => ⟨rfl, hborn i hi⟩, fun _ c _ _ h => ⟨c, h, rfl⟩⟩
  refine ⟨⟨fun i _ hi => ⟨rfl, hborn i hi⟩, fun i B hi hl => ?_⟩, ⟨⟨hF.cx.xs, ?_, ?_, ?_, ?_⟩, hF.defers, hF.size, ?_⟩⟩
  · obtain ⟨B', h1, h2⟩ := hlive hi hl
    exact ⟨i, B', h1, h2, rfl⟩
  · intro g ds hg
    obtain ⟨k1, k2⟩ := hF.cx.glob g ds hg
    exact ⟨hok g k1, RepRow.mono hkeep g (fun _ => rfl) _ _ k2⟩
  · intro i j bi bj hi hj hli hlj he
    obtain ⟨B1, h1, h2⟩ := hlive hi hli
    obtain ⟨B2, h3, h4⟩ := hlive hj hlj
    exact hF.cx.inj i j B1 B2 h1 h3 h2 h4 he
  · intro i B hi
    rcases hinv hi with ⟨rfl, rfl⟩ | ⟨_, h1⟩
    · have h := hF.cx.box _ _ hb
      simp only [BoxOk] at h ⊢
      obtain ⟨cc, e, g1, g2⟩ := h
      exact ⟨cc, e, g1, RepAs.mono hlast _ _ (RepAs_set hxy cs c _ hc g2)⟩
    · have h := hF.cx.box i B h1
      cases B with
      | var cs =>
        obtain ⟨c, e, g1, g2⟩ := h
        exact ⟨c, e, g1, RepAs.mono hlast _ _ g2⟩
      | row sz es =>
        refine h.imp id ?_
        rintro ⟨c, e, g1, g2⟩
        exact ⟨c, e, g1, RepRows.mono hkeep _ _ (fun _ => rfl) _ _ g2⟩
      | imm sz es =>
        refine h.imp id ?_
        rintro ⟨g1, g2⟩
        exact ⟨hok _ g1, RepRows.mono hkeep _ _ (fun _ => rfl) _ _ g2⟩
      | it s p => exact h
      | mp ag es => obtain ⟨ms, clock, h1, h2, h3⟩ := h; exact ⟨ms, clock, h1, h2, RepEnts.mono hkeep _ _ _ h3⟩
      | dead => trivial
      | unborn => trivial
  · intro i B hi hl
    obtain ⟨B', h1, h2⟩ := hlive hi hl
    exact hF.cx.apart i B' h1 h2
  · intro t; exact RepA.mono hlast _ _ (hF.rep t)

theorem ownB_sound (K : Nat) {a : Act} : ∀ (l : List (Nat × Nat × Nat)) (s : St) (β : Nat → Nat), Fr G N ds β w X s a → ∃ β', ExtK K β s.bx β' (ownB s l).bx ∧ Fr G N ds β' w X (ownB s l) a
  | [], s, β, hF => ⟨β, ExtK.refl _ _ _, hF⟩
  | (b, c, sz) :: r, s, β, hF => by
    unfold ownB
    split
    · rename_i cs hb
      split
      · rename_i hc
        cases hz : Nat.beq sz 0 with
        | true =>
          simp only [cond_true]
          obtain ⟨e2, hF2⟩ := retell hF (b := b) hb hc (y := .d (.sl [])) (fun u hu => by
            simp only [RepA, RepD] at hu ⊢
            obtain ⟨base, h1, h2⟩ := hu
            exact ⟨base, _, h1, Nat.le_refl _, h2⟩) K
          obtain ⟨β2, e3, hF3⟩ := ownB_sound K r _ β hF2
          exact ⟨β2, e2.trans e3, hF3⟩
        | false =>
        simp only [cond_false]
        obtain ⟨β1, e1, hF1, hbn⟩ := row_none (sz := sz) K hF
        have hb1 : (s.bx ++ [Box.row sz []])[b]? = some (.var cs) := get_append_lt hb
        obtain ⟨e2, hF2⟩ := retell (s := ⟨s.sl, s.bx ++ [.row sz []]⟩) hF1 (b := b) hb1 hc (y := .ow s.bx.length sz 0) (fun u hu => cl_ow hbn hu) K
        obtain ⟨β2, e3, hF3⟩ := ownB_sound K r _ β1 hF2
        exact ⟨β2, (e1.trans e2).trans e3, hF3⟩
      · exact ownB_sound K r s β hF
    · exact ownB_sound K r s β hF

theorem normS_sound {K : Nat} {nf : Nf} {s s' : St} {a : Act} (h : normS K nf s = some s') (hF : Fr G N ds β w X s a) : ∃ β', ExtK K β s.bx β' s'.bx ∧ Fr G N ds β' w X s' a := by
  unfold normS at h
  obtain ⟨β1, e1, hF1⟩ := ownS_sound K nf.os s β hF
  obtain ⟨β2, e2, hF2⟩ := ownB_sound K nf.ob _ β1 hF1
  obtain ⟨β3, e3, hF3⟩ := trimS_sound h hF2
  exact ⟨β3, (e1.trans e2).trans e3, hF3⟩
end

/- code -/
structure LoopIn (o : Option St) (P : St → Prop) : Prop where
  ok : match o with
    | some s => P s
    | none => False

structure LoopT (K : Nat) (A : (Ex → St → Prop) → St → Prop) (Q : Ex → St → Prop) (s : St) : Prop where
  ok : ∃ (nf : Nf) (I : Nat → St → Prop) (n : Nat), LoopIn (normS K nf s) (I n) ∧ ∀ n s1, I n s1 → A (fun e s2 => thenQ (fun s2 => LoopIn (normS K nf s2) (fun s3 => ∃ m, m < n ∧ I m s3)) Q e s2) s1

mutual
/-- a map that is told as data from now on -/
def AV.mpS (b : Nat) (x : D) : AV → AV
  | .mpb c => bif Nat.beq c b then .d x else .mpb c
  | .agg cs => .agg (AV.mpSs b x cs)
  | .tup cs => .tup (AV.mpSs b x cs)
  | .fn f cs => .fn f (AV.mpSs b x cs)
  | .ifc t y => .ifc t (AV.mpS b x y)
  | .cond p y => .cond p (AV.mpS b x y)
  | v => v
def AV.mpSs (b : Nat) (x : D) : List AV → List AV
  | [] => []
  | y :: ys => AV.mpS b x y :: AV.mpSs b x ys
end
def Box.mpS (b : Nat) (x : D) : Box → Box
  | .var cs => .var (AV.mpSs b x cs)
  | B => B
def sealSl (b : Nat) (x : D) : List (Nat × AV) → List (Nat × AV)
  | [] => []
  | (i, v) :: r => (i, AV.mpS b x v) :: sealSl b x r
def sealBx (b : Nat) (x : D) : List Box → Nat → List Box
  | [], _ => []
  | B :: r, i => (bif Nat.beq i b then .dead else Box.mpS b x B) :: sealBx b x r (i + 1)
def sealSt (b : Nat) (x : D) (s : St) : St := ⟨sealSl b x s.sl, sealBx b x s.bx 0⟩
def hasMp : List Box → Bool
  | [] => false
  | .mp _ _ :: _ => true
  | _ :: r => hasMp r
/-- ahead of a region whose order is open a map may be told as data -/
structure SealT (s : St) (A : St → Prop) : Prop where
  ok : A s ∨ ∃ b ag es, s.bx[b]? = some (.mp ag es) ∧ A (sealSt b (.mp ag es) s)

section
variable {P : Program} {T : Nat → Option TI} {G : Nat → Option (List D)} {N : Nat} {ds : List Deferred} {β : Nat → Nat} {w : World} {X : Nat → Prop} {s : St}
theorem sealBx_get (b : Nat) (x : D) : ∀ (l : List Box) (k i : Nat), (sealBx b x l k)[i]? = (l[i]?).map fun B => bif Nat.beq (k + i) b then .dead else Box.mpS b x B
  | [], _, _ => by simp [sealBx]
  | B :: r, k, 0 => by simp [sealBx]
  | B :: r, k, i + 1 => by simp only [sealBx, List.getElem?_cons_succ]; rw [sealBx_get b x r (k + 1) i, show k + 1 + i = k + (i + 1) by omega]
theorem mpS_live (b : Nat) (x : D) (B : Box) : (Box.mpS b x B).live = B.live ∧ (Box.mpS b x B).born = B.born := by cases B <;> simp [Box.mpS, Box.live, Box.born]
theorem lok_seal (b : Nat) (x : D) (t : Nat) : ∀ sl : List (Nat × AV), lok t (sealSl b x sl) = AV.mpS b x (lok t sl)
  | [] => by simp [sealSl, lok, AV.mpS]
  | (u, v) :: r => by
    simp only [sealSl, lok]
    cases Nat.beq t u with
    | true => rfl
    | false => simpa using lok_seal b x t r
mutual
theorem mpS_rep {bx bx' : List Box} {ok ok' : Nat → Prop} {b : Nat} {x : D} (hl : Lasts β bx w ok β bx' w ok') (hb : ∀ v, v = .map (some (β b)) → RepD w ok' x v) : ∀ (y : AV) (v : Value), RepA β bx w ok y v → RepA β bx' w ok' (AV.mpS b x y) v
  | .mpb c, v, h => by
    unfold AV.mpS
    cases hc : Nat.beq c b with
    | true =>
      obtain rfl := Nat.eq_of_beq_eq_true hc
      simp only [cond_true, RepA] at h ⊢
      exact hb v h.1
    | false => simpa using RepA.mono hl _ _ h
  | .agg cs, v, h => by simp only [AV.mpS, RepA] at h ⊢; obtain ⟨vs, h1, h2⟩ := h; exact ⟨vs, h1, mpSs_rep hl hb cs vs h2⟩
  | .tup cs, v, h => by simp only [AV.mpS, RepA] at h ⊢; obtain ⟨vs, h1, h2⟩ := h; exact ⟨vs, h1, mpSs_rep hl hb cs vs h2⟩
  | .fn f cs, v, h => by simp only [AV.mpS, RepA] at h ⊢; obtain ⟨vs, h1, h2⟩ := h; exact ⟨vs, h1, mpSs_rep hl hb cs vs h2⟩
  | .ifc t y, v, h => by simp only [AV.mpS, RepA] at h ⊢; obtain ⟨u, h1, h2⟩ := h; exact ⟨u, h1, mpS_rep hl hb y u h2⟩
  | .cond p y, v, h => by simp only [AV.mpS, RepA] at h ⊢; exact ⟨fun hp => mpS_rep hl hb y v (h.1 hp), h.2⟩
  | .any, v, h => RepA.mono hl _ _ h
  | .d _, v, h => RepA.mono hl _ _ h
  | .k _, v, h => RepA.mono hl _ _ h
  | .ptr _ _, v, h => RepA.mono hl _ _ h
  | .rp _ _ _ _, v, h => RepA.mono hl _ _ h
  | .ep _, v, h => RepA.mono hl _ _ h
  | .ow _ _ _, v, h => RepA.mono hl _ _ h
  | .cl _, v, h => RepA.mono hl _ _ h
  | .vw _ _ _ _ _ _, v, h => RepA.mono hl _ _ h
theorem mpSs_rep {bx bx' : List Box} {ok ok' : Nat → Prop} {b : Nat} {x : D} (hl : Lasts β bx w ok β bx' w ok') (hb : ∀ v, v = .map (some (β b)) → RepD w ok' x v) : ∀ (ys : List AV) (vs : List Value), RepAs β bx w ok ys vs → RepAs β bx' w ok' (AV.mpSs b x ys) vs
  | [], vs, h => by simpa [AV.mpSs, RepAs] using h
  | y :: ys, vs, h => by
    simp only [AV.mpSs, RepAs] at h ⊢
    obtain ⟨u, us, h1, h2, h3⟩ := h
    exact ⟨u, us, h1, mpS_rep hl hb y u h2, mpSs_rep hl hb ys us h3⟩
end
theorem seal_fr {a : Act} (hF : Fr G N ds β w X s a) {b : Nat} {ag : Bool} {es : List (List D)} (hb : s.bx[b]? = some (.mp ag es)) :
    Ext β s.bx w β (sealSt b (.mp ag es) s).bx w ∧ Fr G N ds β w X (sealSt b (.mp ag es) s) a := by
  have hget : ∀ {i : Nat} {B : Box}, (sealSt b (.mp ag es) s).bx[i]? = some B → (i = b ∧ B = .dead) ∨ (i ≠ b ∧ ∃ B', s.bx[i]? = some B' ∧ B = Box.mpS b (.mp ag es) B') := by
    intro i B h
    simp only [sealSt, sealBx_get, Nat.zero_add, Option.map_eq_some_iff] at h
    obtain ⟨B', h1, h2⟩ := h
    cases hi : Nat.beq i b with
    | true => simp only [hi, cond_true] at h2; exact .inl ⟨Nat.eq_of_beq_eq_true hi, h2.symm⟩
    | false => simp only [hi, cond_false] at h2; exact .inr ⟨Nat.ne_of_beq_eq_false hi, B', h1, h2.symm⟩
  have hlive : ∀ {i : Nat} {B : Box}, (sealSt b (.mp ag es) s).bx[i]? = some B → B.live = true → i ≠ b ∧ ∃ B', s.bx[i]? = some B' ∧ B'.live = true := by
    intro i B h hl
    rcases hget h with ⟨_, rfl⟩ | ⟨h1, B', h2, rfl⟩
    · cases hl
    · exact ⟨h1, B', h2, (mpS_live _ _ _).1 ▸ hl⟩
  have hborn : ∀ i, bornAt s.bx i → bornAt (sealSt b (.mp ag es) s).bx i := by
    rintro i ⟨B, h1, h2⟩
    cases hi : Nat.beq i b with
    | true => exact ⟨.dead, by simp [sealSt, sealBx_get, h1, hi], rfl⟩
    | false => exact ⟨Box.mpS b (.mp ag es) B, by simp [sealSt, sealBx_get, h1, hi], (mpS_live _ _ _).2.trans h2⟩
  have hok : ∀ blk, okp β s.bx w X blk → okp β (sealSt b (.mp ag es) s).bx w X blk := by
    rintro blk ⟨k1, k2, k3⟩
    refine ⟨k1, k2, fun i B hi hl => ?_⟩
    obtain ⟨_, B', h1, h2⟩ := hlive hi hl
    exact k3 i B' h1 h2
  have hkeep : Keeps w w (okp β s.bx w X) (okp β (sealSt b (.mp ag es) s).bx w X) := fun blk hb => ⟨hok blk hb, rfl⟩
  have hlast : Lasts β s.bx w (okp β s.bx w X) β (sealSt b (.mp ag es) s).bx w (okp β (sealSt b (.mp ag es) s).bx w X) := ⟨hkeep, fun i hi => ⟨rfl, hborn i hi⟩, fun _ c _ _ h => ⟨c, h, rfl⟩⟩
  have hbb := hF.cx.box b _ hb
  have hmp : ∀ v, v = .map (some (β b)) → RepD w (okp β (sealSt b (.mp ag es) s).bx w X) (.mp ag es) v := by
    rintro v rfl
    obtain ⟨ms, clock, h1, h2, h3⟩ := hbb
    simp only [RepD]
    refine ⟨β b, ms, clock, rfl, ⟨heap_lt h1, hF.cx.apart b _ hb rfl, ?_⟩, h1, h2, RepEnts.mono hkeep _ _ _ h3⟩
    intro i B hi hl he
    obtain ⟨g1, B', g2, g3⟩ := hlive hi hl
    exact g1 (hF.cx.inj i b B' _ g2 hb g3 rfl he)
  refine ⟨⟨rfl, rfl, rfl, Nat.le_refl _, fun _ _ _ => rfl, fun _ c _ _ h => ⟨c, h, rfl⟩, fun i hi => ⟨rfl, hborn i hi⟩, ?_⟩, ⟨⟨hF.cx.xs, ?_, ?_, ?_, ?_⟩, hF.defers, hF.size, ?_⟩⟩
  · intro i B hi hl
    obtain ⟨_, B', g2, g3⟩ := hlive hi hl
    exact .inr ⟨i, B', g2, g3, rfl⟩
  · intro g ds hg
    obtain ⟨k1, k2⟩ := hF.cx.glob g ds hg
    exact ⟨hok g k1, RepRow.mono hkeep g (fun _ => rfl) _ _ k2⟩
  · intro i j bi bj hi hj hli hlj he
    obtain ⟨_, Bi, g2, g3⟩ := hlive hi hli
    obtain ⟨_, Bj, g4, g5⟩ := hlive hj hlj
    exact hF.cx.inj i j Bi Bj g2 g4 g3 g5 he
  · intro i B hi
    rcases hget hi with ⟨_, rfl⟩ | ⟨_, B', h2, rfl⟩
    · trivial
    · have h := hF.cx.box i B' h2
      cases B' with
      | var cs =>
        obtain ⟨c, e, g1, g2⟩ := h
        exact ⟨c, e, g1, mpSs_rep hlast hmp _ _ g2⟩
      | row sz es =>
        refine h.imp id ?_
        rintro ⟨c, e, g1, g2⟩
        exact ⟨c, e, g1, RepRows.mono hkeep _ _ (fun _ => rfl) _ _ g2⟩
      | imm sz es =>
        refine h.imp id ?_
        rintro ⟨g1, g2⟩
        exact ⟨hok _ g1, RepRows.mono hkeep _ _ (fun _ => rfl) _ _ g2⟩
      | it s p => exact h
      | mp ag es => obtain ⟨ms, clock, h1, h2, h3⟩ := h; exact ⟨ms, clock, h1, h2, RepEnts.mono hkeep _ _ _ h3⟩
      | dead => trivial
      | unborn => trivial
  · intro i B hi hl
    obtain ⟨_, B', g2, g3⟩ := hlive hi hl
    exact hF.cx.apart i B' g2 g3
  · intro t
    show RepA β _ w _ (lok t (sealSl b (.mp ag es) s.sl)) _
    rw [lok_seal]
    exact mpS_rep hlast hmp _ _ (hF.rep t)
end

section
variable (t : Th) (FC : Nat → List AV → List Box → Res → List Box → Prop) (T : Nat → Option TI) (G : Nat → Option (List D)) (N K : Nat)

def awpT : Code → (Ex → St → Prop) → St → Prop
  | .skip, Q, s => Q .normal s
  | .region _ ops draw, Q, s => bif draw then (bif hasMp s.bx then SealT s (fun s => drawT t FC T G N ops.toList Q s) else drawT t FC T G N ops.toList Q s) else opsT t FC T G N ops.toList ops.toList Q s
  | .seq a b, Q, s => awpT a (fun e s1 => thenQ (fun s1 => awpT b Q s1) Q e s1) s
  | .cond c a b, Q, s => (opd G s.sl c).ok ∧ CondWp (opd G s.sl c).strip (fun _ => awpT a Q s) (fun _ => awpT b Q s)
  | .block id c, Q, s => awpT c (fun e s1 => match e with | .exit j => bif Nat.beq j id then Q .normal s1 else Q (.exit j) s1 | e => Q e s1) s
  | .loop c, Q, s => LoopT K (fun Q1 s1 => awpT c Q1 s1) Q s
  | .exit id, Q, s => Q (.exit id) s
  | .label _, Q, s => Q .normal s
  | .ret, Q, s => Q .ret s
  | _, _, _ => False

/-- a body's end, for evaluation -/
structure RetT (n : Nat) (c : Prop) (v : AV) (bx : List Box) (fz : Option (Prop × AV)) (res : Res) (bx' : List Box) : Prop where
  ok : c ∧ ((res = .ret v ∧ bx' = bx) ∨
    (∃ ks d u, fz = some (d, u) ∧ d ∧ u.within n = true ∧ bx' = (kill ks (sealT bx v)).take n ∧ boxesWithin n bx' = true ∧ res = .ret u) ∨
    (∃ k sz m es, v = .ow k sz m ∧ bx[k]? = some (.row sz es) ∧ n ≤ k ∧ n ≤ bx.length ∧ boxesWithin n (bx.take n) = true ∧ res = .ret (.ow n sz m) ∧ bx' = bx.take n ++ [.row sz es]) ∨
    (∃ sz, v = .cl [] ∧ n ≤ bx.length ∧ boxesWithin n (bx.take n) = true ∧ res = .ret (.ow n sz 0) ∧ bx' = bx.take n ++ [.row sz []]))

def bodyT (results : List ResultVar) (n : Nat) (res : Res) (bx' : List Box) : Ex → St → Prop
  | .exit _, _ => False
  | .panic v, s => PanWp v s.bx res bx'
  | _, s => match resR T s.sl s.bx results with
    | some (c, vs) => RetT n c (tupOf vs) s.bx (frzTT t s.bx (tupOf vs)) res bx'
    | none => False
end

section
variable {P : Program} {T : Nat → Option TI} {G : Nat → Option (List D)} {N K : Nat} {ds : List Deferred} {X : Nat → Prop} {β0 : Nat → Nat} {bx0 : List Box} {w0 : World}

theorem sealO_fr {β : Nat → Nat} {w : World} {s s1 : St} {a : Act} {i : Nat} {c : Prop} (hF : Fr G N ds β w X s a) (h : sealOT t0 i s = some (c, s1)) (hc : c) : Ext β s.bx w β s1.bx w ∧ Fr G N ds β w X s1 a := by
  unfold sealOT at h
  split at h
  · rename_i c' y hy
    simp only [Option.some.injEq, Prod.mk.injEq] at h
    obtain ⟨rfl, rfl⟩ := h
    obtain ⟨g1, g2, g3⟩ := fz_seal hF.cx (fzT_fz hy hc) (hF.rep i)
    refine ⟨g1, g2, hF.defers, hF.size, fun t => ?_⟩
    simp only [lok_put]
    by_cases h : t = i
    · subst h; rw [if_pos rfl]; exact g3
    · rw [if_neg h]; exact RepA.mono (g1.lasts X) _ _ (hF.rep t)
  · cases h
theorem drawT_sound (hD : DrawOk P T G) {id : Nat} {ops : Array Oper} {Q : Ex → St → Prop} {β : Nat → Nat} {w : World} {s : St} {a : Act} (ex : Ext β0 bx0 w0 β s.bx w) (hF : Fr G N ds β w X s a)
    (h : drawT t0 (FCalls P G) T G N ops.toList Q s) : (Code.region id ops true).wp P (Lift G N ds X β0 bx0 w0 Q) a w := by
  rcases drawT_W h with h | ⟨i, c, s1, h1, hc, h⟩
  · exact hD _ _ _ _ _ _ id ops Q β w s a ex hF h
  · obtain ⟨e1, hF1⟩ := sealO_fr hF h1 hc
    exact hD _ _ _ _ _ _ id ops Q β w s1 a (ex.trans e1) hF1 h

theorem awpT_sound (hT : TOk P T) (hD : DrawOk P T G) (hK : bx0.length ≤ K) : ∀ (c : Code) (Q : Ex → St → Prop) (β : Nat → Nat) (w : World) (s : St) (a : Act), Ext β0 bx0 w0 β s.bx w → Fr G N ds β w X s a →
    awpT t0 (FCalls P G) T G N K c Q s → c.wp P (Lift G N ds X β0 bx0 w0 Q) a w
  | .skip, Q, β, w, s, a, ex, hF, h => wp_skip ⟨β, s, ex, hF, h⟩
  | .region id ops draw, Q, β, w, s, a, ex, hF, h => by
    cases draw with
    | true =>
      simp only [awpT, cond_true] at h
      cases hm : hasMp s.bx with
      | false => simp only [hm, cond_false] at h; exact drawT_sound hD ex hF h
      | true =>
        simp only [hm, cond_true] at h
        rcases h with ⟨h | ⟨b, ag, es, hb, h⟩⟩
        · exact drawT_sound hD ex hF h
        · obtain ⟨e1, hF1⟩ := seal_fr hF hb
          exact drawT_sound hD (ex.trans e1) hF1 h
    | false => exact wp_region_list (opsW_sound hT ops.toList β w s a ex hF (opsT_W _ _ h))
  | .seq x y, Q, β, w, s, a, ex, hF, h => by
    refine wp_seq (wp_mono (awpT_sound hT hD hK x _ β w s a ex hF h) ?_)
    intro e a' w' hl
    cases e <;> simp only [Lift, thenQ] at hl
    · obtain ⟨β', s', h1, h2, h3⟩ := hl
      exact awpT_sound hT hD hK y Q β' w' s' a' h1 h2 h3
    · exact hl
    · exact hl
    · exact hl
  | .cond c x y, Q, β, w, s, a, ex, hF, h => by
    obtain ⟨h1, ⟨h2⟩⟩ := h
    split at h2
    · rename_i p hc
      have hv := strip_rep (hF.eval c) h1
      rw [hc] at hv
      simp only [RepA, RepD] at hv
      exact wp_cond_split hv (fun hp => awpT_sound hT hD hK x Q β w s a ex hF (h2.1 hp)) (fun hp => awpT_sound hT hD hK y Q β w s a ex hF (h2.2 hp))
    · exact h2.elim
  | .block id c, Q, β, w, s, a, ex, hF, h => by
    refine wp_block (wp_mono (awpT_sound hT hD hK c _ β w s a ex hF h) ?_)
    intro e a' w' hl
    cases e <;> simp only [Lift, Exit.inBlock] at hl ⊢
    · exact hl
    · rename_i j
      by_cases hj : j = id
      · subst hj
        simpa [Lift] using hl
      · have hb : Nat.beq j id = false := nbf hj
        simpa [Lift, hb, hj] using hl
    · exact hl
    · exact hl
  | .loop c, Q, β, w, s, a, ex, hF, h => by
    obtain ⟨nf, I, n, ⟨hI⟩, hround⟩ := h
    refine wp_loop_ghost (fun n a w => ∃ β s, Ext β0 bx0 w0 β s.bx w ∧ Fr G N ds β w X s a ∧ I n s) n ?_ ?_
    · split at hI
      · rename_i s' hn
        obtain ⟨β', e1, hF'⟩ := normS_sound hn hF
        exact ⟨β', s', ex.turned hK e1, hF', hI⟩
      · exact hI.elim
    rintro n a w ⟨β, s, ex, hF, hI⟩
    refine wp_mono (awpT_sound hT hD hK c _ β w s a ex hF (hround n s hI)) ?_
    intro e a' w' hl
    cases e <;> simp only [Lift, thenQ] at hl
    · obtain ⟨β', s', h1, h2, ⟨h3⟩⟩ := hl
      split at h3
      · rename_i s'' hn
        obtain ⟨m, h4, h5⟩ := h3
        obtain ⟨β'', e1, hF'⟩ := normS_sound hn h2
        exact ⟨m, h4, β'', s'', h1.turned hK e1, hF', h5⟩
      · exact h3.elim
    · exact hl
    · exact hl
    · exact hl
  | .exit id, Q, β, w, s, a, ex, hF, h => wp_exit ⟨β, s, ex, hF, h⟩
  | .label l, Q, β, w, s, a, ex, hF, h => wp_label ⟨β, s, ex, hF, h⟩
  | .ret, Q, β, w, s, a, ex, hF, h => wp_ret ⟨β, s, ex, hF, h⟩

theorem bodyT_Q {results : List ResultVar} {n : Nat} {res : Res} {bx' : List Box} {e : Ex} {s : St} (h : bodyT t0 T results n res bx' e s) : bodyQ T results n res bx' e s := by
  unfold bodyT at h
  split at h
  · exact h.elim
  · exact h
  · rename_i h1 h2
    unfold bodyQ
    split
    · exact absurd rfl (h1 _)
    · exact absurd rfl (h2 _)
    · split at h
      · rename_i c vs hr
        simp only [hr]
        obtain ⟨hc, h⟩ := h
        refine ⟨hc, ?_⟩
        rcases h with h | ⟨ks, d, u, k1, k2, k3⟩ | h | h
        · exact .inl h
        · exact .inr (.inl ⟨ks, u, frzTT_frzT k1 k2, k3⟩)
        · exact .inr (.inr (.inl h))
        · exact .inr (.inr (.inr h))
      · exact h.elim

theorem Lift.mono {Q Q' : Ex → St → Prop} {e : Exit} {a : Act} {w : World} (h : ∀ e s, Q e s → Q' e s) (hl : Lift G N ds X β0 bx0 w0 Q e a w) : Lift G N ds X β0 bx0 w0 Q' e a w := Lift.imp h hl

theorem fcalls_of_bodyT (hT : TOk P T) (hD : DrawOk P T G) {f N : Nat} {fn : Func} {c : Code} {args : List AV} {bx0 bx' : List Box} {res : Res} (hf : P.funcs[f]? = some fn) (hb : fn.body = some c)
    (hname : (fn.name == "runtime.NumGoroutine") = false) (hN : fn.ntmps = N) (hlen : Nat.ble args.length N = true)
    (h : awpT t0 (FCalls P G) T G N bx0.length c (bodyT t0 T fn.results.toList bx0.length res bx') ⟨argSl 0 args, bx0⟩) : FCalls P G f args bx0 res bx' :=
  fcalls_of_wp hT hf hb hname hN hlen fun β w X a hF => wp_mono (awpT_sound (X := X) (β0 := β) (bx0 := bx0) (w0 := w) hT hD (Nat.le_refl _) c _ β w ⟨argSl 0 args, bx0⟩ a (Ext.refl _ _ _) hF h)
    fun _ _ _ hl => Lift.imp (fun _ _ hq => bodyT_Q hq) hl
end
end Dem
