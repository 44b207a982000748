/- JOINED TEXTS: AbsL, AbsM. -/
import Derived.Test.YtegnablmooijmaaDoorJ09
set_option linter.unusedSimpArgs false
set_option linter.unusedVariables false
section
/- THE CALCULUS: QUIET CALLS (own rows are lent; boxes of loose values are handed). -/
open Go
namespace Dem
section
variable {P : Program} {G : Nat → Option (List D)} {β β' : Nat → Nat} {bx bx' : List Box} {w w' : World} {X : Nat → Prop}

theorem bornB_at {i : Nat} (h : bornB bx i = true) : bornAt bx i := by
  unfold bornB at h
  split at h
  · rename_i b hb; exact ⟨b, hb, h⟩
  · cases h

mutual
theorem loose_rep {ok ok' : Nat → Prop} {bxV : List Box} (h : ∀ b, bornAt bxV b → β' b = β b ∧ bornAt bx' b) : ∀ (x : AV) (v : Value), x.loose = true → x.namesIn bxV = true → RepA β bx w ok x v → RepA β' bx' w' ok' x v
  | .any, _, _, _, _ => by simp [RepA]
  | .d y, v, hs, _, hv => by cases y <;> simp [AV.loose] at hs <;> simpa [RepA, RepD] using hv
  | .k c, v, _, _, hv => by simpa [RepA] using hv
  | .agg cs, v, hs, hn, hv => by
    simp only [RepA] at hv ⊢; obtain ⟨vs, h1, h2⟩ := hv
    exact ⟨vs, h1, looses_rep h cs vs (by simpa [AV.loose] using hs) (by simpa [AV.namesIn] using hn) h2⟩
  | .tup cs, v, hs, _, hv => by simp [AV.loose] at hs
  | .ptr b off, v, _, hn, hv => by
    have g := bornB_at (by simpa [AV.namesIn] using hn)
    simp only [RepA] at hv ⊢; obtain ⟨e, _⟩ := hv; exact ⟨by rw [(h b g).1]; exact e, (h b g).2⟩
  | .rp b sz i j, v, _, hn, hv => by
    have g := bornB_at (by simpa [AV.namesIn] using hn)
    simp only [RepA] at hv ⊢; obtain ⟨e, _⟩ := hv; exact ⟨by rw [(h b g).1]; exact e, (h b g).2⟩
  | .ow _ _ _, _, hs, _, _ => by simp [AV.loose] at hs
  | .mpb _, _, hs, _, _ => by simp [AV.loose] at hs
  | .vw _ _ _ _ _ _, _, hs, _, _ => by simp [AV.loose] at hs
  | .ep _, _, hs, _, _ => by simp [AV.loose] at hs
  | .cl _, _, hs, _, _ => by simp [AV.loose] at hs
  | .fn f cs, v, hs, hn, hv => by
    simp only [RepA] at hv ⊢; obtain ⟨vs, h1, h2⟩ := hv
    exact ⟨vs, h1, looses_rep h cs vs (by simpa [AV.loose] using hs) (by simpa [AV.namesIn] using hn) h2⟩
  | .ifc t x, v, hs, hn, hv => by
    simp only [RepA] at hv ⊢; obtain ⟨u, h1, h2⟩ := hv
    exact ⟨u, h1, loose_rep h x u (by simpa [AV.loose] using hs) (by simpa [AV.namesIn] using hn) h2⟩
  | .cond _ _, _, hs, _, _ => by simp [AV.loose] at hs
theorem looses_rep {ok ok' : Nat → Prop} {bxV : List Box} (h : ∀ b, bornAt bxV b → β' b = β b ∧ bornAt bx' b) : ∀ (xs : List AV) (vs : List Value), AV.looses xs = true → AV.namesIn.namesIns bxV xs = true → RepAs β bx w ok xs vs → RepAs β' bx' w' ok' xs vs
  | [], vs, _, _, hv => by simpa [RepAs] using hv
  | x :: xs, vs, hs, hn, hv => by
    simp only [RepAs] at hv ⊢
    obtain ⟨u, us, h1, h2, h3⟩ := hv
    simp only [AV.looses] at hs
    simp only [AV.namesIn.namesIns, Bool.and_eq_true] at hn
    cases hx : x.loose with
    | false => simp [hx] at hs
    | true =>
      simp only [hx, cond_true] at hs
      exact ⟨u, us, h1, loose_rep h x u hx hn.1 h2, looses_rep h xs us hs hn.2 h3⟩
end

mutual
theorem names_rep {ok ok' : Nat → Prop} {bxV : List Box} (h : ∀ blk, ok blk → ok' blk) : ∀ (x : AV) (v : Value), x.namesIn bxV = true → RepA β bx w ok x v → RepA β bxV w ok' x v
  | .any, _, _, _ => by simp [RepA]
  | .d x, v, _, hv => by simp only [RepA] at hv ⊢; exact RepD.mono (fun blk hb => ⟨h blk hb, rfl⟩) _ _ hv
  | .k c, v, _, hv => by simpa [RepA] using hv
  | .agg cs, v, hs, hv => by
    simp only [RepA] at hv ⊢; obtain ⟨vs, h1, h2⟩ := hv
    exact ⟨vs, h1, namess_rep h cs vs (by simpa [AV.namesIn] using hs) h2⟩
  | .tup cs, v, hs, hv => by
    simp only [RepA] at hv ⊢; obtain ⟨vs, h1, h2⟩ := hv
    exact ⟨vs, h1, namess_rep h cs vs (by simpa [AV.namesIn] using hs) h2⟩
  | .ptr b off, v, hs, hv => by
    have g := bornB_at (by simpa [AV.namesIn] using hs)
    simp only [RepA] at hv ⊢; exact ⟨hv.1, g⟩
  | .rp b sz i j, v, hs, hv => by
    have g := bornB_at (by simpa [AV.namesIn] using hs)
    simp only [RepA] at hv ⊢; exact ⟨hv.1, g⟩
  | .mpb b, v, hs, hv => by
    have g := bornB_at (by simpa [AV.namesIn] using hs)
    simp only [RepA] at hv ⊢; exact ⟨hv.1, g⟩
  | .ow b sz m, v, hs, hv => by
    have g := bornB_at (by simpa [AV.namesIn] using hs)
    simp only [RepA] at hv ⊢; exact ⟨g, hv.2⟩
  | .vw b sz off m c ex, v, hs, hv => by
    have g := bornB_at (by simpa [AV.namesIn] using hs)
    simp only [RepA] at hv ⊢; exact ⟨g, hv.2⟩
  | .ep ds, v, _, hv => by
    simp only [RepA] at hv ⊢; obtain ⟨blk, off, h1, h2, h3⟩ := hv
    exact ⟨blk, off, h1, h blk h2, RepRow.mono (fun blk hb => ⟨h blk hb, rfl⟩) blk (fun _ => rfl) _ _ h3⟩
  | .cl es, v, _, hv => by
    simp only [RepA] at hv ⊢; obtain ⟨base, h1, h2⟩ := hv
    refine ⟨base, h1, h2.imp id ?_⟩
    rintro ⟨blk, off, sz, e1, e2, e3⟩
    exact ⟨blk, off, sz, e1, h blk e2, RepRows.mono (fun blk hb => ⟨h blk hb, rfl⟩) blk sz (fun _ => rfl) _ _ e3⟩
  | .fn f cs, v, hs, hv => by
    simp only [RepA] at hv ⊢; obtain ⟨vs, h1, h2⟩ := hv
    exact ⟨vs, h1, namess_rep h cs vs (by simpa [AV.namesIn] using hs) h2⟩
  | .ifc t x, v, hs, hv => by
    simp only [RepA] at hv ⊢; obtain ⟨u, h1, h2⟩ := hv
    exact ⟨u, h1, names_rep h x u (by simpa [AV.namesIn] using hs) h2⟩
  | .cond p x, v, hs, hv => by
    simp only [RepA] at hv ⊢
    exact ⟨fun hp => names_rep h x v (by simpa [AV.namesIn] using hs) (hv.1 hp), hv.2⟩
theorem namess_rep {ok ok' : Nat → Prop} {bxV : List Box} (h : ∀ blk, ok blk → ok' blk) : ∀ (xs : List AV) (vs : List Value), AV.namesIn.namesIns bxV xs = true → RepAs β bx w ok xs vs → RepAs β bxV w ok' xs vs
  | [], vs, _, hv => by simpa [RepAs] using hv
  | x :: xs, vs, hs, hv => by
    simp only [RepAs] at hv ⊢
    obtain ⟨u, us, h1, h2, h3⟩ := hv
    simp only [AV.namesIn.namesIns, Bool.and_eq_true] at hs
    exact ⟨u, us, h1, names_rep h x u hs.1 h2, namess_rep h xs us hs.2 h3⟩
end

theorem looseBoxes_get {bxV : List Box} : ∀ {bs : List Box} {i : Nat} {b : Box}, looseBoxes bxV bs = true → bs[i]? = some b → (∃ cs, b = .var cs ∧ AV.looses cs = true ∧ AV.namesIn.namesIns bxV cs = true) ∨ b = .dead ∨ b = .unborn
  | [], i, b, _, hi => by simp at hi
  | b0 :: bs, i, b, h, hi => by
    have hr : looseBoxes bxV bs = true ∧ ((∃ cs, b0 = .var cs ∧ AV.looses cs = true ∧ AV.namesIn.namesIns bxV cs = true) ∨ b0 = .dead ∨ b0 = .unborn) := by
      cases b0 with
      | var cs =>
        simp only [looseBoxes] at h
        cases hc : (AV.looses cs && AV.namesIn.namesIns bxV cs) with
        | false => simp [hc] at h
        | true => simp only [hc, cond_true] at h; simp at hc; exact ⟨h, .inl ⟨cs, rfl, hc.1, hc.2⟩⟩
      | dead => exact ⟨h, .inr (.inl rfl)⟩
      | unborn => exact ⟨h, .inr (.inr rfl)⟩
      | _ => simp [looseBoxes] at h
    cases i with
    | zero => simp only [List.getElem?_cons_zero, Option.some.injEq] at hi; subst hi; exact hr.2
    | succ i => simp only [List.getElem?_cons_succ] at hi; exact looseBoxes_get hr.1 hi

theorem seal_inv {x : AV} {i : Nat} {b : Box} (h : (x.sealB bx)[i]? = some b) : bx[i]? = some b ∨ ∃ s es, bx[i]? = some (.row s es) ∧ b = .imm s es := by
  have go : ∀ k : Nat, (match bx[k]? with | some (.row s es) => bx.set k (.imm s es) | _ => bx)[i]? = some b → bx[i]? = some b ∨ ∃ s es, bx[i]? = some (.row s es) ∧ b = .imm s es := by
    intro k h
    split at h
    · rename_i s es hk
      rcases get_set_inv h with ⟨rfl, rfl, _⟩ | ⟨_, h2⟩
      · exact .inr ⟨s, es, hk, rfl⟩
      · exact .inl h2
    · exact .inl h
  cases x with
  | ow k _ _ => exact go k h
  | vw k _ _ _ _ _ => exact go k h
  | _ => exact .inl h

theorem seals_inv : ∀ {xs : List AV} {bx : List Box} {i : Nat} {b : Box}, (seals bx xs)[i]? = some b → bx[i]? = some b ∨ ∃ s es, bx[i]? = some (.row s es) ∧ b = .imm s es
  | [], _, _, _, h => .inl h
  | x :: xs, bx, i, b, h => by
    rcases seals_inv (xs := xs) (bx := x.sealB bx) h with h1 | ⟨s, es, h1, rfl⟩
    · exact seal_inv h1
    · rcases seal_inv h1 with h2 | ⟨_, _, _, h3⟩
      · exact .inr ⟨s, es, h2, rfl⟩
      · cases h3

theorem seals1_inv : ∀ {xs : List AV} {bx : List Box} {i : Nat} {b : Box}, (seals1 bx xs)[i]? = some b → bx[i]? = some b ∨ ∃ s es, bx[i]? = some (.row s es) ∧ b = .imm s es
  | [], _, _, _, h => .inl h
  | x :: xs, bx, i, b, h => by
    have one : ∀ {b : Box}, (seal1 bx x)[i]? = some b → bx[i]? = some b ∨ ∃ s es, bx[i]? = some (.row s es) ∧ b = .imm s es := by
      intro b h
      cases x with
      | agg cs => exact seals_inv h
      | _ => simp only [seal1] at h; exact seal_inv h
    rcases seals1_inv (xs := xs) (bx := seal1 bx x) h with h1 | ⟨s, es, h1, rfl⟩
    · exact one h1
    · rcases one h1 with h2 | ⟨_, _, _, h3⟩
      · exact .inr ⟨s, es, h2, rfl⟩
      · cases h3

/-- A QUIET CALL: the rest is hidden; nothing that was there turns. -/
theorem calls_quiet {f : Nat} {args : List AV} {vs : List Value} {v : AV} (cx : Ctx G β bx w X) (hx : RepAs β bx w (okp β bx w X) args vs) (h : QuietFC (FCalls P G) f args bx v) :
    CallF P f ⟨vs⟩ w fun e w' => ∃ u, e = .returned u ∧ Ext β bx w β bx w' ∧ Ctx G β bx w' X ∧ RepA β bx w' (okp β bx w' X) v u := by
  obtain ⟨args1, bxV, hz, hnm, hl, hin, hf, hv⟩ := h
  obtain ⟨e1, cxS, hargs⟩ := frzs_seal args bx args1 vs cx hz hx
  have hlive : ∀ (i : Nat) (b : Box), bxV[i]? = some b → b.live = true → bx[i]? = some b := by
    intro i b hi hb
    obtain ⟨b', h1, h2, h3⟩ := hin i b hi (live_born hb)
    rw [h3 hb] at h1; exact h1
  have hborn : ∀ i, bornAt bxV i → bornAt bx i := by
    rintro i ⟨b, h1, h2⟩
    obtain ⟨b', h3, h4, _⟩ := hin i b h1 h2
    exact ⟨b', h3, h4⟩
  have hsl : ∀ (i : Nat) (b : Box), (seals1 bx args)[i]? = some b → b.live = true → bx[i]? = some b := by
    intro i b hi hb
    rcases seals1_inv hi with h1 | ⟨s, es, _, rfl⟩
    · exact h1
    · simp [Box.live] at hb
  have hlvar : ∀ (i : Nat) (b : Box), bxV[i]? = some b → b.live = true → ∃ cs, b = .var cs ∧ AV.looses cs = true ∧ AV.namesIn.namesIns bxV cs = true := by
    intro i b hi hb
    rcases looseBoxes_get hl hi with h1 | rfl | rfl
    · exact h1
    · simp [Box.live] at hb
    · simp [Box.live] at hb
  let XV : Nat → Prop := fun blk => X blk ∨ ∃ (i : Nat) (b : Box), (seals1 bx args)[i]? = some b ∧ b.live = true ∧ (∀ b', bxV[i]? = some b' → b'.live = false) ∧ β i = blk
  have hok : ∀ blk, okp β (seals1 bx args) w X blk → okp β bxV w XV blk := by
    rintro blk ⟨k1, k2, k3⟩
    refine ⟨k1, ?_, ?_⟩
    · rintro (hX | ⟨i, b, h1, h2, _, h3⟩)
      · exact k2 hX
      · exact k3 i b h1 h2 h3
    · intro i b hi hb he
      obtain ⟨cs, rfl, _⟩ := hlvar i b hi hb
      have hbx := hlive i _ hi hb
      obtain ⟨_, b', hb', _⟩ := e1.born i ⟨_, hbx, rfl⟩
      rcases seals1_inv hb' with h4 | ⟨s, es, h4, _⟩
      · rw [hbx] at h4; cases h4
        exact k3 i _ hb' rfl he
      · rw [hbx] at h4; cases h4
  have cxV : Ctx G β bxV w XV := by
    refine ⟨?_, ?_, ?_, ?_, ?_⟩
    · rintro blk (hX | ⟨i, b, h1, h2, _, rfl⟩)
      · exact cx.xs blk hX
      · exact BoxOk.live_lt (cx.box i b (hsl i b h1 h2)) h2
    · intro g ds hg
      obtain ⟨k1, k2⟩ := cxS.glob g ds hg
      exact ⟨hok g k1, RepRow.mono (fun blk hb => ⟨hok blk hb, rfl⟩) g (fun _ => rfl) _ _ k2⟩
    · intro i j bi bj hi hj li lj
      exact cx.inj i j bi bj (hlive i bi hi li) (hlive j bj hj lj) li lj
    · intro i b hi
      rcases looseBoxes_get hl hi with ⟨cs, rfl, hcs, hns⟩ | rfl | rfl
      · have hb := cx.box i _ (hlive i _ hi rfl)
        simp only [BoxOk] at hb ⊢
        obtain ⟨c, e, g1, g2⟩ := hb
        exact ⟨c, e, g1, looses_rep (bxV := bxV) (fun b hb => ⟨rfl, hb⟩) cs _ hcs hns g2⟩
      · trivial
      · trivial
    · intro i b hi hb
      rintro (hX | ⟨j, b2, h1, h2, h3, h4⟩)
      · exact cx.apart i b (hlive i b hi hb) hb hX
      · have : j = i := cx.inj j i b2 b (hsl j b2 h1 h2) (hlive i b hi hb) h2 hb h4
        subst this
        rw [h3 b hi] at hb; cases hb
  have hargsV : RepAs β bxV w (okp β bxV w XV) args1 vs := namess_rep hok _ _ hnm hargs
  refine CallF.mono (hf β w vs XV cxV hargsV) ?_
  rintro e w' ⟨β1, ex1, cx1, hres⟩
  have ex : Ext β bx w β bx w' := ⟨ex1.os, ex1.tape, ex1.output, ex1.size, fun k hk hn => ex1.block k hk (fun i b hi hb => hn i b (hlive i b hi hb) hb), ex1.shape, fun i hi => ⟨rfl, hi⟩, fun i b h1 h2 => .inr ⟨i, b, h1, h2, rfl⟩⟩
  cases e with
  | returned u =>
    refine ⟨u, rfl, ex, cx.step ex ?_ cx.inj, ?_⟩
    · intro i b hi
      by_cases hk : ∃ b', bxV[i]? = some b' ∧ b'.live = true
      · obtain ⟨b', h1, h2⟩ := hk
        have h3 := hlive i b' h1 h2
        rw [hi] at h3; cases h3
        obtain ⟨cs, rfl, hcs, hns⟩ := hlvar i b h1 h2
        refine .inr ?_
        have hb := cx1.box i _ h1
        simp only [BoxOk] at hb ⊢
        obtain ⟨c, e, g1, g2⟩ := hb
        have hbi : bornAt bxV i := ⟨_, h1, rfl⟩
        rw [(ex1.born i hbi).1] at g1
        exact ⟨c, e, g1, looses_rep (bxV := bxV) (fun b hb => ⟨((ex1.born b hb).1).symm, hborn b hb⟩) cs _ hcs hns g2⟩
      · refine .inl ⟨hi, fun hlv => ex1.block _ (BoxOk.live_lt (cx.box i b hi) hlv) ?_⟩
        intro j b2 hj hb2 he
        have := cx.inj j i b2 b (hlive j b2 hj hb2) hi hb2 hlv he
        subst this
        exact hk ⟨b2, hj, hb2⟩
    · rcases hv with hfl | ⟨hnl, hsh⟩
      · exact flat_rep v u hfl hres
      · refine shut_rep ?_ v u hsh hres
        rintro blk ⟨k1, k2, k3⟩
        refine ⟨k1, fun hX => k2 (.inl hX), ?_⟩
        intro i b hi hb he
        by_cases hk : ∃ b', bxV[i]? = some b' ∧ b'.live = true
        · obtain ⟨b', h1, h2⟩ := hk
          refine k3 i b' h1 h2 ?_
          rw [(ex1.born i ⟨b', h1, live_born h2⟩).1]; exact he
        · refine k2 (.inr ⟨i, b, by rw [frzs_none bx hnl]; exact hi, hb, ?_, he⟩)
          intro b' hb'
          cases hq : b'.live with
          | false => rfl
          | true => exact absurd ⟨b', hb', hq⟩ hk
  | panicked ch => exact hres.elim
  | outgrown => exact hres.elim

theorem calls_quietK {f : Nat} {args : List AV} {vs : List Value} {v : AV} {K : AV → List Box → Prop} (cx : Ctx G β bx w X) (hx : RepAs β bx w (okp β bx w X) args vs) (h : QuietFC (FCalls P G) f args bx v) (hK : K v bx) :
    CallF P f ⟨vs⟩ w fun e w' => ∃ β' bx' v u, e = .returned u ∧ Ext β bx w β' bx' w' ∧ Ctx G β' bx' w' X ∧ RepA β' bx' w' (okp β' bx' w' X) v u ∧ K v bx' :=
  CallF.mono (calls_quiet cx hx h) fun _ _ ⟨u, h1, h2, h3, h4⟩ => ⟨β, bx, v, u, h1, h2, h3, h4, hK⟩
end
end Dem
end
section
/- THE CALCULUS: MAPS. -/
open Go
namespace Dem
section
variable {P : Program} {T : Nat → Option TI} {G : Nat → Option (List D)} {β : Nat → Nat} {bx : List Box} {w : World} {X : Nat → Prop}

theorem keyEq_eq {a b : D} (h : keyEq a b = true) : a = b := by
  cases a <;> cases b <;> simp [keyEq] at h
  · rw [h.1, h.2]
  · rw [h]
theorem keyEq_refl {kd : Kd} {a : D} (h : keyKd kd a = true) : keyEq a a = true := by
  cases a <;> cases kd <;> simp_all [keyKd, keyEq]

theorem sameNow_rep {d : TypeDesc} {a b : D} {u v : Value} {ok : Nat → Prop} (ha : keyKd (kdOf d) a = true) (hb : keyKd (kdOf d) b = true) (hu : RepD w ok a u) (hv : RepD w ok b v) : Instr.sameNow d u v = some (keyEq a b) := by
  cases d <;> cases a <;> simp [kdOf, keyKd] at ha <;> cases b <;> simp [kdOf, keyKd] at hb <;> simp only [RepD] at hu hv <;> subst hu hv
  · subst ha hb; simp only [Instr.sameNow, keyEq, if_true, beq_self_eq_true, Bool.true_and]; congr 1
  · rename_i a b
    have : (⟨a.toArray⟩ : ByteArray) = ⟨b.toArray⟩ ↔ a = b := by
      constructor
      · intro h; simpa using h
      · rintro rfl; rfl
    by_cases h : a = b
    · subst h; simp only [Instr.sameNow, keyEq]; congr 1; show (a.toArray == a.toArray) = decide True; simp
    · have h2 : ¬ ((⟨a.toArray⟩ : ByteArray) = ⟨b.toArray⟩) := fun e => h (this.1 e)
      simp only [Instr.sameNow, keyEq]; congr 1; show (a.toArray == b.toArray) = decide (a = b); rw [show decide (a = b) = false by simp [h]]; exact beq_eq_false_iff_ne.2 (fun e => h (by simpa using e))

theorem keyVal_eq {kd : Kd} {a : D} {u v : Value} {ok : Nat → Prop} (ha : keyKd kd a = true) (hu : RepD w ok a u) (hv : RepD w ok a v) : u = v := by
  cases a <;> cases kd <;> simp [keyKd] at ha <;> simp only [RepD] at hu hv <;> rw [hu, hv]

/-- what is found among the entries -/
theorem findNow_rep {d : TypeDesc} {ag : Bool} {n : Nat} {k : D} {kv : Value} {ok : Nat → Prop} (hk : keyKd (kdOf d) k = true) (hkv : RepD w ok k kv) :
    ∀ (es : List (List D)) (ms : List MapEntry) (i : Nat), RepEnts w ok ag es ms → (∀ r ∈ es, rowIs (kdOf d) n r) →
      (mget es k = none ∧ Instr.findNow d kv ms i = some none ∧ ∀ v, mput es k v = es ++ [k :: v]) ∨
      (∃ (j : Nat) (m : MapEntry) (ds : List D), Instr.findNow d kv ms i = some (some (i + j, m.val)) ∧ ms[j]? = some m ∧ mget es k = some ds ∧ ds.length = n ∧ m.key = kv ∧ RepEnt w ok ag (k :: ds) m ∧ ∀ v, mput es k v = es.set j (k :: v))
  | [], ms, i, h, _ => by
    simp only [RepEnts] at h; subst h
    exact .inl ⟨rfl, rfl, fun _ => rfl⟩
  | r :: rs, ms, i, h, hr => by
    simp only [RepEnts] at h
    obtain ⟨m, ms', rfl, h1, h2⟩ := h
    obtain ⟨x, ds, rfl, hx, hl⟩ := hr r (by simp)
    have h1' := h1
    simp only [RepEnt] at h1
    obtain ⟨g1, g2⟩ := h1
    have hs := sameNow_rep hk hx hkv g1
    simp only [mget, mput, Instr.findNow, hs]
    cases he : keyEq k x with
    | true =>
      obtain rfl := keyEq_eq he
      refine .inr ⟨0, m, ds, by simp, by simp, by simp, hl, keyVal_eq hk g1 hkv, h1', fun v => by simp⟩
    | false =>
      simp only [cond_false]
      rcases findNow_rep hk hkv rs ms' (i + 1) h2 (fun r hr' => hr r (by simp [hr'])) with ⟨k1, k2, k3⟩ | ⟨j, m', ds', k1, k2, k3, k4, k5, k6, k7⟩
      · exact .inl ⟨k1, k2, fun v => by rw [k3]; rfl⟩
      · refine .inr ⟨j + 1, m', ds', ?_, by simpa using k2, k3, k4, k5, k6, fun v => by rw [k7]; rfl⟩
        rw [k1, show i + 1 + j = i + (j + 1) by omega]

theorem run_checkKey {e : Bool} {t : Nat} {d : TypeDesc} {k : D} {kv : Value} {ok : Nat → Prop} (ht : P.underlying t = some d) (hk : keyKd (kdOf d) k = true) (hkv : RepD w ok k kv) : (Instr.checkKey e 10000 t kv).run P w = .ok () w := by
  show (Instr.checkKey e (9999 + 1) t kv).run P w = .ok () w
  unfold Instr.checkKey
  cases d <;> cases k <;> simp [kdOf, keyKd] at hk <;> simp only [RepD] at hkv <;> subst hkv <;> simp [run_und ht, Sem.run]

theorem run_findKey {t : Nat} {d : TypeDesc} {kv : Value} {ms : List MapEntry} {r : Option (Nat × Value)} (ht : P.underlying t = some d) (h : Instr.findNow d kv ms 0 = some r) : (Instr.findKey t kv ms).run P w = .ok r w := by
  unfold Instr.findKey
  simp [run_und ht, h, Sem.run]

theorem RepEnts.append {ag : Bool} {ok : Nat → Prop} : ∀ {es : List (List D)} {ms : List MapEntry} {fs : List (List D)} {ns : List MapEntry}, RepEnts w ok ag es ms → RepEnts w ok ag fs ns → RepEnts w ok ag (es ++ fs) (ms ++ ns)
  | [], ms, fs, ns, h, g => by simp only [RepEnts] at h; subst h; exact g
  | r :: rs, ms, fs, ns, h, g => by
    simp only [RepEnts] at h
    obtain ⟨m, ms', rfl, h1, h2⟩ := h
    simp only [List.cons_append, RepEnts]
    exact ⟨m, _, rfl, h1, h2.append g⟩
theorem RepEnts.set {ag : Bool} {ok : Nat → Prop} {r : List D} {m : MapEntry} (hm : RepEnt w ok ag r m) : ∀ {es : List (List D)} {ms : List MapEntry} (j : Nat), RepEnts w ok ag es ms → RepEnts w ok ag (es.set j r) (ms.set j m)
  | [], ms, j, h => by simp only [RepEnts] at h; subst h; simp [RepEnts]
  | x :: xs, ms, 0, h => by
    simp only [RepEnts] at h
    obtain ⟨m', ms', rfl, h1, h2⟩ := h
    simp only [List.set_cons_zero, RepEnts]
    exact ⟨m, ms', rfl, hm, h2⟩
  | x :: xs, ms, j + 1, h => by
    simp only [RepEnts] at h
    obtain ⟨m', ms', rfl, h1, h2⟩ := h
    simp only [List.set_cons_succ, RepEnts]
    exact ⟨m', _, rfl, h1, RepEnts.set hm j h2⟩
theorem RepDs.toAs {ok : Nat → Prop} : ∀ {ds : List D} {vs : List Value}, RepDs w ok ds vs → RepAs β bx w ok (ds.map .d) vs
  | [], vs, h => by simp only [RepDs] at h; subst h; simp [RepAs]
  | d :: ds, vs, h => by
    simp only [RepDs] at h
    obtain ⟨v, r, rfl, h1, h2⟩ := h
    simp only [List.map_cons, RepAs]
    exact ⟨v, r, rfl, by simpa [RepA] using h1, h2.toAs⟩
theorem RepDs.length {ok : Nat → Prop} : ∀ {ds : List D} {vs : List Value}, RepDs w ok ds vs → vs.length = ds.length
  | [], vs, h => by simp only [RepDs] at h; subst h; rfl
  | d :: ds, vs, h => by
    simp only [RepDs] at h
    obtain ⟨v, r, rfl, _, h2⟩ := h
    simp [RepDs.length h2]
/-- an entry's value -/
theorem RepEnt.val {ag : Bool} {ok : Nat → Prop} {k : D} {ds : List D} {m : MapEntry} (h : RepEnt w ok ag (k :: ds) m) {n : Nat} (hn : ds.length = n) {v : AV} (hv : splitA ag n (ds.map .d) = some v) : RepA β bx w ok v m.val := by
  simp only [RepEnt] at h
  obtain ⟨_, cs, h2, h3, h4⟩ := h
  have hl := h4.length
  have ha := h4.toAs (β := β) (bx := bx)
  cases ag with
  | true =>
    simp only [splitA, cond_true] at hv
    rw [cond_true] at h2
    have hle : Nat.ble n (ds.map AV.d).length = true := by simp [hn]
    simp only [hle, cond_true, Option.some.injEq] at hv
    subst hv
    rw [h2]; simp only [RepA]
    refine ⟨cs, rfl, ?_⟩
    rw [List.take_of_length_le (by simp [hn])]; exact ha
  | false =>
    simp only [splitA, cond_false] at hv
    rw [cond_false] at h2
    have h1 := h3 rfl
    obtain ⟨c, rfl⟩ : ∃ c, cs = [c] := by
      match cs, h1 with
      | [c], _ => exact ⟨c, rfl⟩
    cases ds with
    | nil => simp at hl
    | cons d ds =>
      simp at hv; subst hv
      rw [h2]
      simp only [List.map_cons, RepAs] at ha
      obtain ⟨u, us, e, g, _⟩ := ha
      simp at e; obtain ⟨rfl, rfl⟩ := e
      simpa [RepA] using g

theorem run_obj {r c : Nat} {es : Array MapEntry} (h : w.heap[r]? = some (.map es c)) : (getObj r).run P w = .ok (.map es c) w := by simp [getObj, Sem.run, h]
theorem run_setObj_map {r c : Nat} {es : Array MapEntry} (o : Obj) (h : w.heap[r]? = some (.map es c)) : (setObj r o).run P w = .ok () { w with heap := w.heap.setIfInBounds r o } := by simp [setObj, Sem.run, h]
theorem zero_rep {t : Nat} {ti : TI} (ht : tiOf P t = some ti) {z : List AV} (hz : ti.zero.cells? = some z) {ok : Nat → Prop} : ∃ v, (zeroValue t).run P w = .ok v w ∧ RepA β bx w ok ti.zero v := by
  obtain ⟨i, d, h1, h2, h3, h4, h5, h6⟩ := tiOf_inv ht
  cases hzz : i.zero with
  | none => rw [h6, hzz] at hz; simp [AV.cells?] at hz
  | some v => rw [h6, hzz]; exact ⟨v, run_zero h1 hzz, absZ_rep v⟩

/-- a map that is read -/
theorem mapAt_rep (hT : TOk P T) (cx : Ctx G β bx w X) {ty : Nat} {m : AV} {u : Value} {tk te : TI} {ag : Bool} {es : List (List D)} (h : mapAt T ty m bx = some (tk, te, ag, es)) (hu : RepA β bx w (okp β bx w X) m u) :
    ∃ (kt et : Nat) (dk : TypeDesc), P.underlying ty = some (.map kt et) ∧ P.underlying kt = some dk ∧ tk.kd = kdOf dk ∧ tiOf P et = some te ∧
      ((u = .map none ∧ es = []) ∨ ∃ r ms clock, u = .map (some r) ∧ w.heap[r]? = some (.map ms clock) ∧ stampsOk ms clock ∧ RepEnts w (okp β bx w X) ag es ms.toList) := by
  unfold mapAt at h
  split at h
  · rename_i ti ht
    obtain ⟨i, d, h1, h2, h3, h4, h5, h6⟩ := tiOf_inv (hT.ti _ _ ht)
    split at h
    · rename_i k e hk
      rw [h5] at hk
      cases d <;> simp [kdOf] at hk
      obtain ⟨hk1, hk2⟩ := hk
      rw [hk1, hk2] at h2
      have fin : ∀ {tk' te' : TI} {ag' : Bool} {es' : List (List D)}, T k = some tk' → T e = some te' → (tk', te', ag', es') = (tk, te, ag, es) →
          ((u = .map none ∧ es = []) ∨ ∃ r ms clock, u = .map (some r) ∧ w.heap[r]? = some (.map ms clock) ∧ stampsOk ms clock ∧ RepEnts w (okp β bx w X) ag es ms.toList) → ∃ (kt et : Nat) (dk : TypeDesc), P.underlying ty = some (.map kt et) ∧ P.underlying kt = some dk ∧ tk.kd = kdOf dk ∧ tiOf P et = some te ∧
          ((u = .map none ∧ es = []) ∨ ∃ r ms clock, u = .map (some r) ∧ w.heap[r]? = some (.map ms clock) ∧ stampsOk ms clock ∧ RepEnts w (okp β bx w X) ag es ms.toList) := by
        intro tk' te' ag' es' a1 a2 a3 a4
        simp only [Prod.mk.injEq] at a3
        obtain ⟨rfl, rfl, rfl, rfl⟩ := a3
        obtain ⟨_, dk, _, b2, _, _, b5, _⟩ := tiOf_inv (hT.ti _ _ a1)
        exact ⟨k, e, dk, h2, b2, b5, hT.ti _ _ a2, a4⟩
      split at h
      · rename_i tk' te' ag' es' a1 a2
        simp only [Option.some.injEq] at h
        refine fin a1 a2 h ?_
        simp only [Prod.mk.injEq] at h
        obtain ⟨rfl, rfl, rfl, rfl⟩ := h
        simp only [RepA, RepD] at hu
        obtain ⟨r, ms, clock, g1, _, g2, g3, g4⟩ := hu
        exact .inr ⟨r, ms, clock, g1, g2, g3, g4⟩
      · rename_i tk' te' a1 a2
        simp only [Option.some.injEq] at h
        refine fin a1 a2 h ?_
        simp only [Prod.mk.injEq] at h
        obtain ⟨rfl, rfl, rfl, rfl⟩ := h
        simp only [RepA, KC.val] at hu
        exact .inl ⟨hu, rfl⟩
      · rename_i tk' te' b a1 a2
        split at h
        · rename_i ag' es' hb
          simp only [Option.some.injEq] at h
          refine fin a1 a2 h ?_
          simp only [Prod.mk.injEq] at h
          obtain ⟨rfl, rfl, rfl, rfl⟩ := h
          simp only [RepA] at hu
          obtain ⟨ms, clock, g2, g3, g4⟩ := cx.box b _ hb
          exact .inr ⟨β b, ms, clock, hu.1, g2, g3, g4⟩
        · cases h
      · cases h
    · cases h
  · cases h

theorem lookup_rep (hT : TOk P T) (cx : Ctx G β bx w X) {ty : Nat} {m : AV} {u kv : Value} {k : D} {tk te : TI} {ag cok : Bool} {es : List (List D)} (h : mapAt T ty m bx = some (tk, te, ag, es)) (hu : RepA β bx w (okp β bx w X) m u)
    (hkv : RepD w (okp β bx w X) k kv) (hf : mapFit tk te ag es k) {K : AV → Prop} (hK : foundK te cok K (mget es k)) :
    ∃ v x, (Instr.lookup ty u kv cok).run P w = .ok x w ∧ RepA β bx w (okp β bx w X) v x ∧ K v := by
  obtain ⟨kt, et, dk, u1, u2, u3, u4, hu⟩ := mapAt_rep hT cx h hu
  obtain ⟨f1, f2, f3⟩ := hf
  rw [u3] at f2 f3
  have none_ : ∀ ms : Array MapEntry, (∃ e : Bool, Instr.findNow dk kv ms.toList 0 = some none) → mget es k = none → (u = .map none ∧ ms = #[] ∨ ∃ r clock, u = .map (some r) ∧ w.heap[r]? = some (.map ms clock)) →
      ∃ v x, (Instr.lookup ty u kv cok).run P w = .ok x w ∧ RepA β bx w (okp β bx w X) v x ∧ K v := by
    rintro ms ⟨_, hfn⟩ hg hms
    rw [hg] at hK
    simp only [foundK] at hK
    split at hK
    · rename_i z hz
      obtain ⟨zv, z1, z2⟩ := zero_rep (β := β) (bx := bx) (w := w) (ok := okp β bx w X) u4 hz
      refine ⟨_, bif cok then .tuple #[zv, .bool false] else zv, ?_, ?_, hK⟩
      · rcases hms with ⟨rfl, rfl⟩ | ⟨r, clock, rfl, hh⟩
        · unfold Instr.lookup
          cases cok <;> simp [run_und u1, run_checkKey u2 f2 hkv, run_findKey (w := w) u2 hfn, z1]
        · unfold Instr.lookup
          cases cok <;> simp [run_und u1, run_obj hh, run_checkKey u2 f2 hkv, run_findKey (w := w) u2 hfn, z1]
      · cases cok with
        | true => simp only [cond_true, RepA, RepAs, RepD]; exact ⟨_, rfl, _, _, rfl, z2, _, _, rfl, rfl, rfl⟩
        | false => exact z2
    · exact hK.elim
  rcases hu with ⟨rfl, rfl⟩ | ⟨r, ms, clock, rfl, hh, hst, hre⟩
  · exact none_ #[] ⟨true, rfl⟩ rfl (.inl ⟨rfl, rfl⟩)
  · rcases findNow_rep f2 hkv es ms.toList 0 hre f3 with ⟨k1, k2, _⟩ | ⟨j, e, ds, k1, k2, k3, k4, k5, k6, _⟩
    · exact none_ ms ⟨true, k2⟩ k1 (.inr ⟨r, clock, rfl, hh⟩)
    · rw [k3] at hK
      simp only [foundK] at hK
      split at hK
      · rename_i v hv
        have hvv := k6.val (β := β) (bx := bx) k4 (by rw [← f1] at hv; exact hv)
        refine ⟨_, bif cok then .tuple #[e.val, .bool true] else e.val, ?_, ?_, hK⟩
        · unfold Instr.lookup
          cases cok <;> simp [run_und u1, run_obj hh, run_checkKey u2 f2 hkv, run_findKey (w := w) u2 k1]
        · cases cok with
          | true => simp only [cond_true, RepA, RepAs, RepD]; exact ⟨_, rfl, _, _, rfl, hvv, _, _, rfl, rfl, rfl⟩
          | false => exact hvv
      · exact hK.elim

/-- a box that is no cells is turned -/
theorem ext_setobj {b : Nat} {B B' : Box} {o o' : Obj} (hb : bx[b]? = some B) (hl : B.live = true) (hl' : B'.live = true) (hh : w.heap[β b]? = some o) (ho : ∀ c e f, o ≠ .cells c e f) :
    Ext β bx w β (bx.set b B') { w with heap := w.heap.setIfInBounds (β b) o' } := by
  refine ⟨rfl, rfl, rfl, by simp, ?_, ?_, fun i hi => ⟨rfl, bornAt_set (live_born hl') hi⟩, ?_⟩
  · intro k hk hlk
    have hne : β b ≠ k := hlk b _ hb hl
    simp [Array.getElem?_setIfInBounds_ne hne]
  · intro k c e f hk
    have hne : β b ≠ k := by rintro rfl; rw [hh] at hk; cases hk; exact ho c e f rfl
    exact ⟨c, by simp [Array.getElem?_setIfInBounds_ne hne, hk], rfl⟩
  · intro i Bi hi hli
    rcases get_set_inv hi with ⟨rfl, _, _⟩ | ⟨_, h⟩
    · exact .inr ⟨i, _, hb, hl, rfl⟩
    · exact .inr ⟨i, Bi, h, hli, rfl⟩

theorem ctx_setobj (cx : Ctx G β bx w X) {b : Nat} {B B' : Box} {o o' : Obj} (hb : bx[b]? = some B) (hl : B.live = true) (hl' : B'.live = true) (hh : w.heap[β b]? = some o) (ho : ∀ c e f, o ≠ .cells c e f)
    (hB : BoxOk β (bx.set b B') { w with heap := w.heap.setIfInBounds (β b) o' } (okp β (bx.set b B') { w with heap := w.heap.setIfInBounds (β b) o' } X) B' (β b)) :
    Ctx G β (bx.set b B') { w with heap := w.heap.setIfInBounds (β b) o' } X := by
  refine cx.step (ext_setobj hb hl hl' hh ho) ?_ ?_
  · intro i Bi hi
    rcases get_set_inv hi with ⟨rfl, rfl, _⟩ | ⟨hne, h⟩
    · exact .inr hB
    · refine .inl ⟨h, fun hli => ?_⟩
      have hne' : β b ≠ β i := fun he => hne (cx.inj b i _ Bi hb h hl hli he).symm
      simp [Array.getElem?_setIfInBounds_ne hne']
  · intro i j bi bj hi hj hli hlj he
    rcases get_set_inv hi with ⟨rfl, rfl, _⟩ | ⟨h1, h2⟩ <;> rcases get_set_inv hj with ⟨rfl, rfl, _⟩ | ⟨h3, h4⟩
    · rfl
    · exact cx.inj _ _ _ _ hb h4 hl hlj he
    · exact cx.inj _ _ _ _ h2 hb hli hl he
    · exact cx.inj _ _ _ _ h2 h4 hli hlj he

theorem toD_out {ok : Nat → Prop} {x : AV} {y : D} {u : Value} (hn : ownless [x] = true) (h : x.toD bx = some y) (hx : RepA β bx w ok x u) : RepD w ok y u := by
  cases x with
  | d x => simp only [AV.toD, Option.some.injEq] at h; subst h; simpa [RepA] using hx
  | cl es =>
    simp only [AV.toD, Option.some.injEq] at h; subst h
    simp only [RepA] at hx
    obtain ⟨base, rfl, g⟩ := hx
    simp only [RepD]; exact ⟨base, _, rfl, Nat.le_refl _, g⟩
  | ow b sz n => simp [ownless] at hn
  | fn f cs =>
    cases cs with
    | nil =>
      simp only [AV.toD, Option.some.injEq] at h; subst h
      simp only [RepA, RepAs] at hx
      obtain ⟨vs, rfl, rfl⟩ := hx
      simp [RepD]
    | cons c cs => simp [AV.toD] at h
  | _ => simp [AV.toD] at h
theorem ownless_cons {x : AV} {xs : List AV} (h : ownless (x :: xs) = true) : ownless [x] = true ∧ ownless xs = true := by
  cases x <;> simp_all [ownless]
theorem toDs_out {ok : Nat → Prop} : ∀ {xs : List AV} {ys : List D} {us : List Value}, ownless xs = true → toDs bx xs = some ys → RepAs β bx w ok xs us → RepDs w ok ys us
  | [], ys, us, _, h, hx => by simp [toDs] at h; subst h; simp only [RepAs] at hx; subst hx; simp [RepDs]
  | x :: xs, ys, us, hn, h, hx => by
    simp only [toDs] at h
    split at h
    · rename_i y ys' h1 h2
      simp only [Option.some.injEq] at h; subst h
      simp only [RepAs] at hx
      obtain ⟨u, us', rfl, g1, g2⟩ := hx
      obtain ⟨n1, n2⟩ := ownless_cons hn
      simp only [RepDs]
      exact ⟨u, us', rfl, toD_out n1 h1 g1, toDs_out n2 h2 g2⟩
    · simp at h

theorem sameBits_key {kd : Kd} {k : D} {kv : Value} {ok : Nat → Prop} (hk : keyKd kd k = true) (h : RepD w ok k kv) : Instr.sameBits 10000 kv kv = true := by
  cases k <;> cases kd <;> simp [keyKd] at hk <;> simp only [RepD] at h <;> subst h
  · simp [Instr.sameBits]
  · rename_i s
    show (s.toArray == s.toArray) = true
    simp

theorem modify_set {ms : Array MapEntry} {j : Nat} {m : MapEntry} (h : ms.toList[j]? = some m) (f : MapEntry → MapEntry) : (ms.modify j f).toList = ms.toList.set j (f m) := by
  rw [Array.toList_modify]
  obtain ⟨hj, rfl⟩ := List.getElem?_eq_some_iff.1 h
  apply List.ext_getElem?
  intro i
  rw [List.getElem?_modify, List.getElem?_set]
  by_cases hi : j = i
  · subst hi
    have hj2 : j < ms.size := by simpa using hj
    simp [hj2]
  · simp [hi]
/-- an entry's new value -/
theorem ent_of {ok : Nat → Prop} {x : AV} {xv : Value} {vs : List AV} {ds : List D} {k : D} {e : MapEntry} {ag : Bool} (hc : x.cells? = some vs) (hx : RepA β bx w ok x xv) (hn : ownless vs = true) (hd : toDs bx vs = some ds) (ha : x.isAgg = ag)
    (hk : RepD w ok k e.key) (he : e.val = xv) : RepEnt w ok ag (k :: ds) e := by
  simp only [RepEnt]
  refine ⟨hk, ?_⟩
  rw [he]
  cases x with
  | agg cs =>
    simp only [AV.cells?] at hc
    cases hs : allSc cs with
    | false => simp [hs] at hc
    | true =>
      simp only [hs, cond_true, Option.some.injEq] at hc
      subst hc
      simp only [AV.isAgg] at ha; subst ha
      simp only [RepA] at hx
      obtain ⟨us, rfl, g⟩ := hx
      exact ⟨us, rfl, fun h => (by cases h), toDs_out hn hd g⟩
  | any => simp [AV.cells?] at hc
  | vw _ _ _ _ _ _ => simp [AV.cells?] at hc
  | tup _ => simp [AV.cells?] at hc
  | cond _ _ => simp [AV.cells?] at hc
  | _ =>
    simp only [AV.cells?, Option.some.injEq] at hc
    subst hc
    simp only [AV.isAgg] at ha; subst ha
    exact ⟨[xv], rfl, fun _ => rfl, toDs_out hn hd (by simp only [RepAs]; exact ⟨xv, [], rfl, hx, rfl⟩)⟩

theorem update_done (hT : TOk P T) (cx : Ctx G β bx w X) {ty b : Nat} {m x : AV} {u kv xv : Value} {k : D} {tk te : TI} {ag : Bool} {es : List (List D)} {vs : List AV} {ds : List D} (h : mapBox T ty m bx = some (b, tk, te, ag, es)) (hu : RepA β bx w (okp β bx w X) m u)
    (hkv : RepD w (okp β bx w X) k kv) (hxv : RepA β bx w (okp β bx w X) x xv) (hc : x.cells? = some vs) (hn : ownless vs = true) (hd : toDs bx vs = some ds) (hf : mapFit tk te ag es k) (ha : x.isAgg = ag) :
    ∃ w', (Instr.mapUpdate ty u kv xv).run P w = .ok () w' ∧ Ext β bx w β (bx.set b (.mp ag (mput es k ds))) w' ∧ Ctx G β (bx.set b (.mp ag (mput es k ds))) w' X := by
  unfold mapBox at h
  split at h
  case h_2 => cases h
  rename_i b' tk' te' ag' es' hm
  simp only [Option.some.injEq, Prod.mk.injEq] at h
  obtain ⟨rfl, rfl, rfl, rfl, rfl⟩ := h
  obtain ⟨kt, et, dk, u1, u2, u3, u4, _⟩ := mapAt_rep hT cx hm hu
  obtain ⟨f1, f2, f3⟩ := hf
  rw [u3] at f2 f3
  have hb : bx[b']? = some (.mp ag' es') := by
    unfold mapAt at hm
    split at hm
    · split at hm
      · split at hm
        · rename_i _ _ h0; cases h0
        · rename_i _ _ h0; cases h0
        · rename_i _ _ h0
          cases h0
          split at hm
          · rename_i hb
            simp only [Option.some.injEq, Prod.mk.injEq] at hm
            obtain ⟨_, _, rfl, rfl⟩ := hm
            exact hb
          · cases hm
        · cases hm
      · cases hm
    · cases hm
  simp only [RepA] at hu
  obtain ⟨rfl, _⟩ := hu
  obtain ⟨ms, clock, hh, ⟨st1, st2⟩, hre⟩ := cx.box b' _ hb
  have main : ∀ (ms' : Array MapEntry) (clock' : Nat), stampsOk ms' clock' → RepEnts w (okp β bx w X) ag' (mput es' k ds) ms'.toList →
      (Instr.mapUpdate ty (.map (some (β b'))) kv xv).run P w = .ok () { w with heap := w.heap.setIfInBounds (β b') (.map ms' clock') } →
      ∃ w', (Instr.mapUpdate ty (.map (some (β b'))) kv xv).run P w = .ok () w' ∧ Ext β bx w β (bx.set b' (.mp ag' (mput es' k ds))) w' ∧ Ctx G β (bx.set b' (.mp ag' (mput es' k ds))) w' X := by
    intro ms' clock' g1 g2 g3
    have ex : Ext β bx w β (bx.set b' (.mp ag' (mput es' k ds))) { w with heap := w.heap.setIfInBounds (β b') (.map ms' clock') } := ext_setobj hb rfl rfl hh (fun c e f => by simp)
    refine ⟨_, g3, ex, ctx_setobj cx hb rfl rfl hh (fun c e f => by simp) ?_⟩
    exact ⟨ms', clock', by simp [heap_lt hh], g1, RepEnts.mono (ex.keeps X) _ _ _ g2⟩
  rcases findNow_rep f2 hkv es' ms.toList 0 hre f3 with ⟨k1, k2, k3⟩ | ⟨j, e, ds', k1, k2, k3, k4, k5, k6, k7⟩
  · refine main (ms.push { key := kv, val := xv, born := clock }) (clock + 1) ⟨?_, ?_⟩ ?_ ?_
    · rw [Array.all_push]
      simp only [Bool.and_eq_true, decide_eq_true_eq]
      refine ⟨?_, by omega⟩
      rw [Array.all_eq_true] at st1 ⊢
      intro i hi
      have := st1 i hi
      simp only [decide_eq_true_eq] at this ⊢
      omega
    · rw [Array.toList_push, List.map_append, List.nodup_append]
      refine ⟨st2, by simp, ?_⟩
      intro a ha1 c hc1
      simp at hc1
      obtain ⟨m', hm', rfl⟩ := List.mem_map.1 ha1
      have : m'.born < clock := by
        rw [Array.all_eq_true_iff_forall_mem] at st1
        simpa using st1 m' (by simpa using hm')
      omega
    · rw [k3, Array.toList_push]
      refine hre.append ?_
      simp only [RepEnts]
      exact ⟨_, [], rfl, ent_of hc hxv hn hd ha hkv rfl, rfl⟩
    · unfold Instr.mapUpdate
      simp [run_und u1, run_obj hh, run_checkKey u2 f2 hkv, run_findKey (w := w) u2 k2, run_setObj_map _ hh]
  · have hbit := sameBits_key f2 hkv
    refine main (ms.modify j fun e => { e with key := kv, val := xv }) clock ⟨?_, ?_⟩ ?_ ?_
    · rw [Array.all_eq_true_iff_forall_mem] at st1 ⊢
      intro y hy
      have hy2 : y ∈ (ms.modify j fun e => { e with key := kv, val := xv }).toList := Array.mem_def.1 hy
      rw [modify_set k2] at hy2
      rcases List.mem_or_eq_of_mem_set hy2 with h1 | h1
      · exact st1 y (by simpa using h1)
      · subst h1
        exact st1 e (by simpa using List.mem_of_getElem? k2)
    · rw [modify_set k2, List.map_set]
      have : (ms.toList.map (·.born)).set j ({ e with key := kv, val := xv } : MapEntry).born = ms.toList.map (·.born) := by
        apply List.ext_getElem?
        intro i
        rw [List.getElem?_set]
        by_cases hi : j = i
        · subst hi
          have := (List.getElem?_eq_some_iff.1 k2).1
          simp [k2] at this ⊢
          simp [this]
        · simp [hi]
      rw [this]; exact st2
    · rw [k7, modify_set k2]
      exact RepEnts.set (ent_of hc hxv hn hd ha hkv rfl) j hre
    · unfold Instr.mapUpdate
      simp only [Nat.zero_add] at k1
      have k2' : ms[j]? = some e := by simpa using k2
      simp [run_und u1, run_obj hh, run_checkKey u2 f2 hkv, run_findKey (w := w) u2 k1, run_setObj_map _ hh, Instr.keyThatStays, k2', k5, hbit]
end
end Dem
end
