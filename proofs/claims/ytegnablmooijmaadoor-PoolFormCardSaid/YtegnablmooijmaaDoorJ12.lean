/- JOINED TEXTS: Abs15, Abs16. -/
import Derived.Test.YtegnablmooijmaaDoorJ11
import Derived.Defers
import Derived.Orders
set_option linter.unusedSimpArgs false
set_option linter.unusedVariables false
section
/- THE CALCULUS: A FUNCTION'S BODY, AND ITS CONTRACT. -/
open Go
namespace Dem
section
variable {P : Program} {T : Nat → Option TI} {G : Nat → Option (List D)} {β : Nat → Nat} {bx : List Box} {w : World} {X : Nat → Prop}

/- the first boxes alone -/
theorem get_take {n i : Nat} {b : Box} (h : (bx.take n)[i]? = some b) : bx[i]? = some b ∧ i < n := by
  rw [List.getElem?_take] at h
  split at h
  · exact ⟨h, by assumption⟩
  · simp at h

theorem okp_take (n : Nat) (blk : Nat) (h : okp β bx w X blk) : okp β (bx.take n) w X blk :=
  ⟨h.1, h.2.1, fun i b hb hl => h.2.2 i b (get_take hb).1 hl⟩

mutual
theorem within_rep {n : Nat} {ok ok' : Nat → Prop} (h : ∀ blk, ok blk → ok' blk) : ∀ (x : AV) (v : Value), x.within n = true → RepA β bx w ok x v → RepA β (bx.take n) w ok' x v
  | .any, _, _, _ => by simp [RepA]
  | .d x, v, _, hv => by simp only [RepA] at hv ⊢; exact RepD.mono (fun blk hb => ⟨h blk hb, rfl⟩) _ _ hv
  | .k c, v, _, hv => by simpa [RepA] using hv
  | .agg cs, v, hs, hv => by
    simp only [RepA] at hv ⊢; obtain ⟨vs, h1, h2⟩ := hv
    exact ⟨vs, h1, withins_rep h cs vs (by simpa [AV.within] using hs) h2⟩
  | .tup cs, v, hs, hv => by
    simp only [RepA] at hv ⊢; obtain ⟨vs, h1, h2⟩ := hv
    exact ⟨vs, h1, withins_rep h cs vs (by simpa [AV.within] using hs) h2⟩
  | .ptr b off, v, hs, hv => by
    simp only [RepA] at hv ⊢
    have hb : b < n := by simpa [AV.within, Nat.blt_eq] using hs
    obtain ⟨h1, B, h2, h3⟩ := hv
    exact ⟨h1, B, by rw [List.getElem?_take, if_pos hb]; exact h2, h3⟩
  | .mpb b, v, hs, hv => by
    simp only [RepA] at hv ⊢
    have hb : b < n := by simpa [AV.within, Nat.blt_eq] using hs
    obtain ⟨h1, B, h2, h3⟩ := hv
    exact ⟨h1, B, by rw [List.getElem?_take, if_pos hb]; exact h2, h3⟩
  | .rp b sz i j, v, hs, hv => by
    simp only [RepA] at hv ⊢
    have hb : b < n := by simpa [AV.within, Nat.blt_eq] using hs
    obtain ⟨h1, B, h2, h3⟩ := hv
    exact ⟨h1, B, by rw [List.getElem?_take, if_pos hb]; exact h2, h3⟩
  | .ow b sz m, v, hs, hv => by
    simp only [RepA] at hv ⊢
    have hb : b < n := by simpa [AV.within, Nat.blt_eq] using hs
    obtain ⟨⟨B, h2, h3⟩, h1⟩ := hv
    exact ⟨⟨B, by rw [List.getElem?_take, if_pos hb]; exact h2, h3⟩, h1⟩
  | .vw b sz off m c ex, v, hs, hv => by
    simp only [RepA] at hv ⊢
    have hb : b < n := by simpa [AV.within, Nat.blt_eq] using hs
    obtain ⟨⟨B, h2, h3⟩, h1⟩ := hv
    exact ⟨⟨B, by rw [List.getElem?_take, if_pos hb]; exact h2, h3⟩, h1⟩
  | .ep ds, v, _, hv => by
    simp only [RepA] at hv ⊢; obtain ⟨blk, off, h1, h2, h3⟩ := hv
    exact ⟨blk, off, h1, h blk h2, RepRow.mono (fun blk hb => ⟨h blk hb, rfl⟩) blk (fun _ => rfl) _ _ h3⟩
  | .cl es, v, _, hv => by
    simp only [RepA] at hv ⊢; obtain ⟨base, h1, h2⟩ := hv
    refine ⟨base, h1, h2.imp id ?_⟩
    rintro ⟨blk, off, sz, e1, e2, e3⟩
    exact ⟨blk, off, sz, e1, h blk e2, RepRows.mono (fun blk hb => ⟨h blk hb, rfl⟩) blk sz (fun _ => rfl) _ _ e3⟩
  | .fn f cs, v, hs, hv => by
    simp only [RepA] at hv ⊢; obtain ⟨vs, h1, h2⟩ := hv
    exact ⟨vs, h1, withins_rep h cs vs (by simpa [AV.within] using hs) h2⟩
  | .ifc t x, v, hs, hv => by
    simp only [RepA] at hv ⊢; obtain ⟨u, h1, h2⟩ := hv
    exact ⟨u, h1, within_rep h x u (by simpa [AV.within] using hs) h2⟩
  | .cond p x, v, hs, hv => by
    simp only [RepA] at hv ⊢
    exact ⟨fun hp => within_rep h x v (by simpa [AV.within] using hs) (hv.1 hp), hv.2⟩
theorem withins_rep {n : Nat} {ok ok' : Nat → Prop} (h : ∀ blk, ok blk → ok' blk) : ∀ (xs : List AV) (vs : List Value), AV.within.withins n xs = true → RepAs β bx w ok xs vs → RepAs β (bx.take n) w ok' xs vs
  | [], vs, _, hv => by simpa [RepAs] using hv
  | x :: xs, vs, hs, hv => by
    simp only [RepAs] at hv ⊢
    obtain ⟨u, us, h1, h2, h3⟩ := hv
    simp only [AV.within.withins, Bool.and_eq_true] at hs
    exact ⟨u, us, h1, within_rep h x u hs.1 h2, withins_rep h xs us hs.2 h3⟩
end

theorem boxesWithin_get {n : Nat} : ∀ {bs : List Box} {i : Nat} {cs : List AV}, boxesWithin n bs = true → bs[i]? = some (.var cs) → AV.within.withins n cs = true
  | [], i, cs, _, hi => by simp at hi
  | b :: bs, 0, cs, h, hi => by
    simp at hi; subst hi
    simp only [boxesWithin, Bool.and_eq_true] at h
    exact h.1
  | b :: bs, i + 1, cs, h, hi => by
    simp at hi
    refine boxesWithin_get (i := i) ?_ hi
    cases b <;> simp [boxesWithin] at h <;> first | exact h | exact h.2

theorem ctx_take (cx : Ctx G β bx w X) {n : Nat} (hw : boxesWithin n (bx.take n) = true) : Ctx G β (bx.take n) w X := by
  have hk : ∀ blk, okp β bx w X blk → okp β (bx.take n) w X blk := fun blk h => okp_take n blk h
  have hkeep : Keeps w w (okp β bx w X) (okp β (bx.take n) w X) := fun blk hb => ⟨hk blk hb, rfl⟩
  refine ⟨cx.xs, ?_, ?_, ?_, ?_⟩
  · intro g ds hg
    obtain ⟨h1, h2⟩ := cx.glob g ds hg
    exact ⟨hk g h1, RepRow.mono hkeep g (fun _ => rfl) _ _ h2⟩
  · intro i j bi bj hi hj
    exact cx.inj i j bi bj (get_take hi).1 (get_take hj).1
  · intro i b hb
    have h := cx.box i b (get_take hb).1
    cases b with
    | var cs =>
      obtain ⟨c, e, h1, h2⟩ := h
      exact ⟨c, e, h1, withins_rep hk cs _ (boxesWithin_get hw hb) h2⟩
    | row sz es =>
      refine h.imp id ?_
      rintro ⟨c, e, h1, h2⟩
      exact ⟨c, e, h1, RepRows.mono hkeep _ _ (fun _ => rfl) _ _ h2⟩
    | imm sz es =>
      refine h.imp id ?_
      rintro ⟨h1, h2⟩
      exact ⟨hk _ h1, RepRows.mono hkeep _ _ (fun _ => rfl) _ _ h2⟩
    | it s p => exact h
    | mp ag es => obtain ⟨ms, clock, h1, h2, h3⟩ := h; exact ⟨ms, clock, h1, h2, RepEnts.mono hkeep _ _ _ h3⟩
    | dead => trivial
    | unborn => trivial
  · intro i b hb hl
    exact cx.apart i b (get_take hb).1 hl

theorem ext_take {β0 : Nat → Nat} {bx0 : List Box} {w0 : World} (ex : Ext β0 bx0 w0 β bx w) : Ext β0 bx0 w0 β (bx.take bx0.length) w := by
  refine ⟨ex.os, ex.tape, ex.output, ex.size, ex.block, ex.shape, ?_, ?_⟩
  · rintro i ⟨b, hb, hborn⟩
    obtain ⟨h1, B, h2, h3⟩ := ex.born i ⟨b, hb, hborn⟩
    exact ⟨h1, B, by rw [List.getElem?_take, if_pos (get_lt hb)]; exact h2, h3⟩
  · intro i b hb hl
    exact ex.live i b (get_take hb).1 hl

theorem frzT_seal (cx : Ctx G β bx w X) {x y : AV} {u : Value} (hd : frzT bx x = some y) (h : RepA β bx w (okp β bx w X) x u) :
    Ext β bx w β (sealT bx x) w ∧ Ctx G β (sealT bx x) w X ∧ RepA β (sealT bx x) w (okp β (sealT bx x) w X) y u := by
  cases x with
  | tup cs =>
    simp only [frzT, Option.map_eq_some_iff] at hd
    obtain ⟨ys, h1, rfl⟩ := hd
    simp only [RepA] at h
    obtain ⟨vs, rfl, hvs⟩ := h
    obtain ⟨g1, g2, g3⟩ := frzs_seal cs bx ys vs cx h1 hvs
    exact ⟨g1, g2, by simp only [RepA]; exact ⟨vs, rfl, g3⟩⟩
  | _ => simp only [frzT] at hd; simp only [sealT]; exact frz1_seal cx hd h

/-- an own row that goes on as the next box behind the first ones -/
theorem own_out {β0 : Nat → Nat} {bx0 : List Box} {w0 : World} (cx : Ctx G β bx w X) (ex : Ext β0 bx0 w0 β bx w) {k sz m : Nat} {es : List (List D)} (hn : bx0.length ≤ bx.length) (hw : boxesWithin bx0.length (bx.take bx0.length) = true)
    (hk : (es = [] ∧ m = 0) ∨ (bx0.length ≤ k ∧ bx[k]? = some (.row sz es))) {u : Value} (hu : es = [] ∧ m = 0 ∧ (∃ base, u = .slice base 0 0) ∨ RepA β bx w (okp β bx w X) (.ow k sz m) u) :
    ∃ β', Ext β0 bx0 w0 β' (bx.take bx0.length ++ [.row sz es]) w ∧ Ctx G β' (bx.take bx0.length ++ [.row sz es]) w X ∧
      RepA β' (bx.take bx0.length ++ [.row sz es]) w (okp β' (bx.take bx0.length ++ [.row sz es]) w X) (.ow bx0.length sz m) u := by
  have hlen : (bx.take bx0.length).length = bx0.length := by simp; omega
  have e1 := ext_take ex
  have c1 := ctx_take cx hw
  have hrow : es ≠ [] → bx0.length ≤ k ∧ bx[k]? = some (.row sz es) := fun hne => hk.resolve_left (fun h => hne h.1)
  have hlive : Box.live (.row sz es) = true → es ≠ [] := by intro hl; cases es <;> simp [Box.live] at hl ⊢
  have hold : ∀ i b, (bx.take bx0.length)[i]? = some b → upd β bx0.length (β k) i = β i := by
    intro i b h
    exact upd_ne _ _ (by have := (get_take h).2; omega)
  have hinv : ∀ {i b}, (bx.take bx0.length ++ [.row sz es])[i]? = some b → ((bx.take bx0.length)[i]? = some b) ∨ (i = bx0.length ∧ b = .row sz es) := by
    intro i b h
    rcases get_append_inv h with ⟨h1, _⟩ | ⟨h1, h2⟩
    · exact .inl h1
    · exact .inr ⟨by omega, h2⟩
  have e2 : Ext β0 bx0 w0 (upd β bx0.length (β k)) (bx.take bx0.length ++ [.row sz es]) w := by
    refine ⟨ex.os, ex.tape, ex.output, ex.size, ex.block, ex.shape, ?_, ?_⟩
    · intro i hi
      obtain ⟨h1, b, h2, h3⟩ := e1.born i hi
      exact ⟨by rw [hold i b h2]; exact h1, b, get_append_lt h2, h3⟩
    · intro i b h hl
      rcases hinv h with h1 | ⟨rfl, rfl⟩
      · rw [hold i b h1]; exact e1.live i b h1 hl
      · rw [upd_same]; exact ex.live k _ (hrow (hlive hl)).2 hl
  have hok : ∀ blk, okp β bx w X blk → okp (upd β bx0.length (β k)) (bx.take bx0.length ++ [.row sz es]) w X blk := by
    rintro blk ⟨k1, k2, k3⟩
    refine ⟨k1, k2, ?_⟩
    intro i b h hl
    rcases hinv h with h1 | ⟨rfl, rfl⟩
    · rw [hold i b h1]; exact k3 i b (get_take h1).1 hl
    · rw [upd_same]; exact k3 k _ (hrow (hlive hl)).2 hl
  have hkeep : Keeps w w (okp β bx w X) (okp (upd β bx0.length (β k)) (bx.take bx0.length ++ [.row sz es]) w X) := fun blk hb => ⟨hok blk hb, rfl⟩
  have hlast : Lasts β (bx.take bx0.length) w (okp β bx w X) (upd β bx0.length (β k)) (bx.take bx0.length ++ [.row sz es]) w (okp (upd β bx0.length (β k)) (bx.take bx0.length ++ [.row sz es]) w X) := by
    refine ⟨hkeep, ?_, fun _ c _ _ h => ⟨c, h, rfl⟩⟩
    rintro i ⟨b, hb, h3⟩
    exact ⟨hold i b hb, b, get_append_lt hb, h3⟩
  refine ⟨_, e2, ⟨cx.xs, ?_, ?_, ?_, ?_⟩, ?_⟩
  · intro g ds hg
    obtain ⟨h1, h2⟩ := cx.glob g ds hg
    exact ⟨hok g h1, RepRow.mono hkeep g (fun _ => rfl) _ _ h2⟩
  · intro i j bi bj hi hj hli hlj he
    rcases hinv hi with h1 | ⟨rfl, rfl⟩ <;> rcases hinv hj with h2 | ⟨rfl, rfl⟩
    · rw [hold i bi h1, hold j bj h2] at he
      exact c1.inj i j bi bj h1 h2 hli hlj he
    · rw [hold i bi h1, upd_same] at he
      obtain ⟨r1, r2⟩ := hrow (hlive hlj)
      have := cx.inj i k bi _ (get_take h1).1 r2 hli hlj he
      have := (get_take h1).2; omega
    · rw [hold j bj h2, upd_same] at he
      obtain ⟨r1, r2⟩ := hrow (hlive hli)
      have := cx.inj k j _ bj r2 (get_take h2).1 hli hlj he
      have := (get_take h2).2; omega
    · rfl
  · intro i b hb
    rcases hinv hb with h1 | ⟨rfl, rfl⟩
    · rw [hold i b h1]
      have h := cx.box i b (get_take h1).1
      cases b with
      | var cs =>
        obtain ⟨c, e, g1, g2⟩ := h
        exact ⟨c, e, g1, RepAs.mono hlast _ _ (withins_rep (fun _ hb => hb) cs _ (boxesWithin_get hw h1) g2)⟩
      | row sz es =>
        refine h.imp id ?_
        rintro ⟨c, e, g1, g2⟩
        exact ⟨c, e, g1, RepRows.mono hkeep _ _ (fun _ => rfl) _ _ g2⟩
      | imm sz es =>
        refine h.imp id ?_
        rintro ⟨g1, g2⟩
        exact ⟨hok _ g1, RepRows.mono hkeep _ _ (fun _ => rfl) _ _ g2⟩
      | it s p => exact h
      | mp ag es => obtain ⟨ms, clock, h1, h2, h3⟩ := h; exact ⟨ms, clock, h1, h2, RepEnts.mono hkeep _ _ _ h3⟩
      | dead => trivial
      | unborn => trivial
    · rw [upd_same]
      by_cases hne : es = []
      · exact .inl hne
      · have h := cx.box k _ (hrow hne).2
        refine h.imp id ?_
        rintro ⟨c, e, g1, g2⟩
        exact ⟨c, e, g1, RepRows.mono hkeep _ _ (fun _ => rfl) _ _ g2⟩
  · intro i b hb hl
    rcases hinv hb with h1 | ⟨rfl, rfl⟩
    · rw [hold i b h1]; exact cx.apart i b (get_take h1).1 hl
    · rw [upd_same]; exact cx.apart k _ (hrow (hlive hl)).2 hl
  · simp only [RepA]
    refine ⟨⟨.row sz es, by rw [List.getElem?_append_right (by omega)]; simp [hlen], rfl⟩, ?_⟩
    rw [upd_same]
    rcases hu with ⟨_, rfl, base, rfl⟩ | hu
    · exact .inl ⟨rfl, base, rfl⟩
    · simp only [RepA] at hu
      exact hu.2

theorem kill_get : ∀ (ks : List Bool) (bs : List Box) (i : Nat) (b' : Box), (kill ks bs)[i]? = some b' → ∃ b, bs[i]? = some b ∧ (b' = b ∨ (b' = .dead ∧ b.born = true))
  | [], bs, i, b', h => ⟨b', by simpa [kill] using h, .inl rfl⟩
  | _ :: _, [], i, b', h => by simp [kill] at h
  | k :: ks, b :: bs, 0, b', h => by
    simp only [kill, List.getElem?_cons_zero, Option.some.injEq] at h
    refine ⟨b, rfl, ?_⟩
    cases hk : (k && b.born) with
    | false => rw [hk] at h; exact .inl h.symm
    | true => rw [hk] at h; simp at hk; exact .inr ⟨h.symm, hk.2⟩
  | k :: ks, b :: bs, i + 1, b', h => by
    simp only [kill, List.getElem?_cons_succ] at h
    obtain ⟨b0, h1, h2⟩ := kill_get ks bs i b' h
    exact ⟨b0, by simpa using h1, h2⟩

theorem kill_has : ∀ (ks : List Bool) (bs : List Box) (i : Nat) (b : Box), bs[i]? = some b → ∃ b', (kill ks bs)[i]? = some b' ∧ (b' = b ∨ (b' = .dead ∧ b.born = true))
  | [], bs, i, b, h => ⟨b, by simpa [kill] using h, .inl rfl⟩
  | _ :: _, [], i, b, h => by simp at h
  | k :: ks, b0 :: bs, 0, b, h => by
    simp only [List.getElem?_cons_zero, Option.some.injEq] at h
    subst h
    refine ⟨_, by simp only [kill, List.getElem?_cons_zero]; rfl, ?_⟩
    cases hk : (k && b0.born) with
    | false => exact .inl rfl
    | true => simp at hk; exact .inr ⟨rfl, hk.2⟩
  | k :: ks, b0 :: bs, i + 1, b, h => by
    simp only [List.getElem?_cons_succ] at h
    obtain ⟨b', h1, h2⟩ := kill_has ks bs i b h
    exact ⟨b', by simpa only [kill, List.getElem?_cons_succ] using h1, h2⟩

theorem kill_ok (ks : List Bool) (cx : Ctx G β bx w X) : Ext β bx w β (kill ks bx) w ∧ Ctx G β (kill ks bx) w X := by
  have ex : Ext β bx w β (kill ks bx) w := by
    refine ⟨rfl, rfl, rfl, Nat.le_refl _, fun _ _ _ => rfl, fun k c e f h => ⟨c, h, rfl⟩, ?_, ?_⟩
    · rintro i ⟨b, h1, h2⟩
      obtain ⟨b', h3, h4⟩ := kill_has ks bx i b h1
      refine ⟨rfl, b', h3, ?_⟩
      rcases h4 with rfl | ⟨rfl, _⟩
      · exact h2
      · rfl
    · intro i b h1 h2
      obtain ⟨b0, h3, h4⟩ := kill_get ks bx i b h1
      rcases h4 with rfl | ⟨rfl, _⟩
      · exact .inr ⟨i, b, h3, h2, rfl⟩
      · simp [Box.live] at h2
  refine ⟨ex, cx.step ex ?_ ?_⟩
  · intro i b h1
    obtain ⟨b0, h3, h4⟩ := kill_get ks bx i b h1
    rcases h4 with rfl | ⟨rfl, _⟩
    · exact .inl ⟨h3, fun _ => rfl⟩
    · exact .inr trivial
  · intro i j bi bj h1 h2 l1 l2 he
    obtain ⟨b1, h3, h4⟩ := kill_get ks bx i bi h1
    obtain ⟨b2, h5, h6⟩ := kill_get ks bx j bj h2
    rcases h4 with rfl | ⟨rfl, _⟩
    · rcases h6 with rfl | ⟨rfl, _⟩
      · exact cx.inj i j _ _ h3 h5 l1 l2 he
      · simp [Box.live] at l2
    · simp [Box.live] at l1

/- the results -/
def resOne (tmps : Array Value) (r : ResultVar) : Sem Value :=
  match r with
  | .tmp t => pure (tmps.getD t undef)
  | .cell a t => do loadVar t (← asAddr (tmps.getD a undef))

theorem results_eq (fn : Func) (tmps : Array Value) : results fn tmps = (do let vs ← fn.results.mapM (resOne tmps); pure (if h : vs.size = 1 then vs[0] else .tuple vs)) := rfl

theorem resR_run (hT : TOk P T) {N : Nat} {ds : List Deferred} {s : St} {a : Act} (hF : Fr G N ds β w X s a) : ∀ (rs : List ResultVar) {c : Prop} {vs : List AV}, resR T s.sl s.bx rs = some (c, vs) → c →
    ∃ us : List Value, (rs.mapM (resOne a.tmps)).run P w = .ok us w ∧ RepAs β s.bx w (okp β s.bx w X) vs us
  | [], c, vs, h, _ => by
    simp [resR] at h
    obtain ⟨_, rfl⟩ := h
    exact ⟨[], by simp, by simp [RepAs]⟩
  | .tmp t :: r, c, vs, h, hc => by
    simp only [resR] at h
    split at h
    · rename_i c' vs' h'
      simp only [Option.some.injEq, Prod.mk.injEq] at h
      obtain ⟨rfl, rfl⟩ := h
      obtain ⟨us, g1, g2⟩ := resR_run hT hF r h' hc.2
      refine ⟨a.tmps.getD t undef :: us, ?_, ?_⟩
      · rw [List.mapM_cons]
        simp only [Sem.run_bind, g1, resOne, Sem.run_pure, Result.andThen_ok]
      · simp only [RepAs]; exact ⟨_, _, rfl, strip_rep (hF.rep t) hc.1, g2⟩
    · simp at h
  | .cell t ty :: r, c, vs, h, hc => by
    simp only [resR] at h
    split at h
    · rename_i ti c' vs' hty h'
      split at h
      · rename_i b o hl
        split at h
        · rename_i c2 v b2 hld
          simp only [Option.some.injEq, Prod.mk.injEq] at h
          obtain ⟨rfl, rfl⟩ := h
          obtain ⟨us, g1, g2⟩ := resR_run hT hF r h' hc.2
          have hp := hF.rep t
          rw [hl] at hp
          obtain ⟨_, x, k1, k2⟩ := loadR_done (P := P) hT hF.cx hty hp hld hc.1
          simp only [RepA] at hp
          rw [hp.1] at k1
          refine ⟨x :: us, ?_, ?_⟩
          · rw [List.mapM_cons]
            have : (loadVar ty ⟨β b, o, none⟩).run P w = .ok x w := by simpa [Instr.loadAt, Instr.sureAddr] using k1
            simp only [Sem.run_bind, resOne, hp.1, asAddr, Sem.run_pure, Result.andThen_ok, this, g1]
          · simp only [RepAs]; exact ⟨_, _, rfl, k2, g2⟩
        · simp at h
      · simp at h
    · simp at h

theorem results_run (hT : TOk P T) {N : Nat} {ds : List Deferred} {s : St} {a : Act} (hF : Fr G N ds β w X s a) {fn : Func} {c : Prop} {vs : List AV} (h : resR T s.sl s.bx fn.results.toList = some (c, vs)) (hc : c) :
    ∃ u, (results fn a.tmps).run P w = .ok u w ∧ RepA β s.bx w (okp β s.bx w X) (tupOf vs) u := by
  obtain ⟨us, g1, g2⟩ := resR_run hT hF _ h hc
  have hlen := RepAs.length g2
  rw [results_eq, Array.mapM_eq_mapM_toList]
  simp [g1]
  split
  · rename_i h1
    match us, vs, h1, hlen, g2 with
    | [u], [v], _, _, g2 =>
      simp only [RepAs, List.cons.injEq] at g2
      obtain ⟨_, _, ⟨rfl, rfl⟩, h, _⟩ := g2
      exact h
  · rename_i h1
    have : tupOf vs = .tup vs := by
      match vs, hlen with
      | [], _ => rfl
      | [v], hl => exact absurd hl h1
      | _ :: _ :: _, _ => rfl
    rw [this]; simp only [RepA]; exact ⟨us, rfl, g2⟩

theorem lok_args : ∀ (args : List AV) (i t : Nat), lok t (argSl i args) = if i ≤ t then args.getD (t - i) .any else .any
  | [], i, t => by simp [argSl, lok]
  | x :: xs, i, t => by
    simp only [argSl, lok, lok_args xs (i + 1) t]
    by_cases h : t = i
    · subst h; simp
    · rw [nbf h]
      simp only [cond_false]
      by_cases h2 : i ≤ t
      · rw [if_pos (by omega), if_pos h2, show t - i = (t - (i + 1)) + 1 by omega]; simp
      · rw [if_neg (by omega), if_neg h2]

/-- a body, upon what its caller hands it -/
theorem wp_of_body (hT : TOk P T) {f N : Nat} {fn : Func} {c : Code} {args : List AV} {bx0 bx' : List Box} {res : Res}
    (hN : fn.ntmps = N) (hlen : Nat.ble args.length N = true)
    (h : ∀ (β : Nat → Nat) (w : World) (X : Nat → Prop) (a : Act), Fr G N [] β w X ⟨argSl 0 args, bx0⟩ a → c.wp P (Lift G N [] X β bx0 w (bodyQ T fn.results.toList bx0.length res bx')) a w)
    (β : Nat → Nat) (w : World) (vs : List Value) (X : Nat → Prop) (cx : Ctx G β bx0 w X) (hx : RepAs β bx0 w (okp β bx0 w X) args vs) :
    c.wp P (bodyPost P fn fun e w' => ∃ β', Ext β bx0 w β' bx' w' ∧ Ctx G β' bx' w' X ∧ RepRes β' bx' w' (okp β' bx' w' X) res e) { tmps := (⟨vs⟩ : Array Value) ++ Array.replicate (fn.ntmps - (⟨vs⟩ : Array Value).size) undef, defers := [] } w := by
  have hl := RepAs.length hx
  have hle : args.length ≤ N := Nat.le_of_ble_eq_true hlen
  refine wp_mono (h β w X _ ⟨cx, rfl, ?_, ?_⟩) ?_
  · simp [hN, hl]; omega
  · intro t
    rw [lok_args]
    simp only [Nat.zero_le, if_true, Nat.sub_zero]
    by_cases ht : t < args.length
    · obtain ⟨v, k1, k2⟩ := RepAs.get t args[t] hx (by simp [ht])
      have e1 : args.getD t .any = args[t] := by simp [List.getD_eq_getElem?_getD, ht]
      rw [e1]
      have hv : t < vs.length := by omega
      have e2 : vs[t] = v := by rw [List.getElem?_eq_getElem hv] at k1; simpa using k1
      have e3 : (({ toList := vs } : Array Value) ++ Array.replicate (fn.ntmps - (⟨vs⟩ : Array Value).size) undef).getD t undef = v := by
        simp [Array.getD_eq_getD_getElem?, Array.getElem?_append, hv, e2]
      rw [e3]; exact k2
    · simp [List.getD_eq_getElem?_getD, List.getElem?_eq_none (Nat.le_of_not_lt ht), RepA]
  · intro e a' w' hl2
    have fin : ∀ β' s, Ext β bx0 w β' s.bx w' → Fr G N [] β' w' X s a' → (match resR T s.sl s.bx fn.results.toList with
        | some (c, vs) => RetWp bx0.length c (tupOf vs) s.bx res bx'
        | none => False) → a'.defers = [] ∧ ∃ v, (results fn a'.tmps).run P w' = .ok v w' ∧ ∃ β', Ext β bx0 w β' bx' w' ∧ Ctx G β' bx' w' X ∧ RepRes β' bx' w' (okp β' bx' w' X) res (.returned v) := by
      intro β' s ex hF hq
      split at hq
      · rename_i c vs' hres
        obtain ⟨hc, hq⟩ := hq
        obtain ⟨u, k1, k2⟩ := results_run hT hF hres hc
        refine ⟨hF.defers, u, k1, ?_⟩
        rcases hq with ⟨rfl, rfl⟩ | ⟨ks, y, q1, q2, rfl, q3, rfl⟩ | ⟨k, sz, m, es, q0, q1, q2, q3, q4, rfl, rfl⟩ | ⟨sz, q0, q1, q2, rfl, rfl⟩
        · exact ⟨β', ex, hF.cx, k2⟩
        · obtain ⟨e1, c1, r1⟩ := frzT_seal hF.cx q1 k2
          obtain ⟨e2, c2⟩ := kill_ok ks c1
          exact ⟨β', ext_take ((ex.trans e1).trans e2), ctx_take c2 q3, within_rep (fun blk hb => okp_take _ blk hb) y u q2 (RepA.mono (e2.lasts X) _ _ r1)⟩
        · rw [q0] at k2
          exact own_out hF.cx ex q3 q4 (.inr ⟨q2, q1⟩) (.inr k2)
        · rw [q0] at k2
          simp only [RepA, List.length_nil] at k2
          obtain ⟨base, k2, _⟩ := k2
          exact own_out (k := 0) hF.cx ex q1 q2 (.inl ⟨rfl, rfl⟩) (.inl ⟨rfl, rfl, base, k2⟩)
      · exact hq.elim
    cases e <;> simp only [Lift, bodyPost] at hl2 ⊢
    · obtain ⟨β', s, h1, h2, h3⟩ := hl2; exact fin β' s h1 h2 h3
    · obtain ⟨β', s, h1, h2, h3⟩ := hl2; exact h3.elim
    · obtain ⟨β', s, h1, h2, h3⟩ := hl2; exact fin β' s h1 h2 h3
    · obtain ⟨β', bx2, v, u, h1, h2, h3, h4, h5, h6⟩ := hl2
      obtain ⟨rfl, rfl⟩ := h6.ok
      exact ⟨h5, β', h2, h3, u, h1, h4⟩

theorem fcalls_of_wp (hT : TOk P T) {f N : Nat} {fn : Func} {c : Code} {args : List AV} {bx0 bx' : List Box} {res : Res} (hf : P.funcs[f]? = some fn) (hb : fn.body = some c)
    (hname : (fn.name == "runtime.NumGoroutine") = false) (hN : fn.ntmps = N) (hlen : Nat.ble args.length N = true)
    (h : ∀ (β : Nat → Nat) (w : World) (X : Nat → Prop) (a : Act), Fr G N [] β w X ⟨argSl 0 args, bx0⟩ a → c.wp P (Lift G N [] X β bx0 w (bodyQ T fn.results.toList bx0.length res bx')) a w) : FCalls P G f args bx0 res bx' := by
  intro β w vs X cx hx
  refine .inl ⟨?_, calls_of_wp hf hb (wp_of_body (f := f) hT hN hlen h β w vs X cx hx)⟩
  simp [callFunc, run_program, hf, hb]
  simpa using hname

/-- A CALL THAT WAS DEFERRED, of one who recovers nothing. -/
def FDefer (P : Program) (G : Nat → Option (List D)) (f : Nat) (args : List AV) (bx : List Box) (res : Res) (bx' : List Box) : Prop :=
  ∀ (β : Nat → Nat) (w : World) (vs : List Value) (X : Nat → Prop), Ctx G β bx w X → RepAs β bx w (okp β bx w X) args vs → (callFunc f ⟨vs⟩).run P w = .ok (.enter f ⟨vs⟩) w ∧
    ∀ u, CallsD P f ⟨vs⟩ u w fun e u' w' => u' = u ∧ ∃ β', Ext β bx w β' bx' w' ∧ Ctx G β' bx' w' X ∧ RepRes β' bx' w' (okp β' bx' w' X) res e
theorem fdefer_of_wp (hT : TOk P T) {f N : Nat} {fn : Func} {c : Code} {args : List AV} {bx0 bx' : List Box} {res : Res} (hf : P.funcs[f]? = some fn) (hb : fn.body = some c)
    (hname : (fn.name == "runtime.NumGoroutine") = false) (hN : fn.ntmps = N) (hlen : Nat.ble args.length N = true)
    (h : ∀ (β : Nat → Nat) (w : World) (X : Nat → Prop) (a : Act), Fr G N [] β w X ⟨argSl 0 args, bx0⟩ a → c.wp P (Lift G N [] X β bx0 w (bodyQ T fn.results.toList bx0.length res bx')) a w) : FDefer P G f args bx0 res bx' := by
  intro β w vs X cx hx
  refine ⟨?_, fun u => callsD_of_wp hf hb (wp_of_body (f := f) hT hN hlen h β w vs X cx hx)⟩
  simp [callFunc, run_program, hf, hb]
  simpa using hname

theorem fcalls_of_body (hT : TOk P T) (hD : DrawOk P T G) {f N : Nat} {fn : Func} {c : Code} {args : List AV} {bx0 bx' : List Box} {res : Res} (hf : P.funcs[f]? = some fn) (hb : fn.body = some c)
    (hname : (fn.name == "runtime.NumGoroutine") = false) (hN : fn.ntmps = N) (hlen : Nat.ble args.length N = true)
    (h : awp (FCalls P G) T G N c (bodyQ T fn.results.toList bx0.length res bx') ⟨argSl 0 args, bx0⟩) : FCalls P G f args bx0 res bx' :=
  fcalls_of_wp hT hf hb hname hN hlen fun β w _ a hF => awp_sound hT hD c _ β w ⟨argSl 0 args, bx0⟩ a (Ext.refl _ _ _) hF h
end
end Dem
end
section
/- THE CALCULUS: A STEP LOOKS AT ITS OPERANDS ALONE, AND AT BOXES THAT ARE THERE. -/
open Go
namespace Dem
section
variable {T : Nat → Option TI} {G : Nat → Option (List D)} {bx bx' : List Box}

/-- boxes that are there are there still -/
def BxLe (bx bx' : List Box) : Prop := ∀ (i : Nat) (b : Box), bx[i]? = some b → b.born = true → bx'[i]? = some b

theorem BxLe.refl (bx : List Box) : BxLe bx bx := fun _ _ h _ => h
theorem BxLe.trans {a b c : List Box} (h : BxLe a b) (g : BxLe b c) : BxLe a c := fun i x hx hb => g i x (h i x hx hb) hb

theorem toD_le (h : BxLe bx bx') {x : AV} {y : D} (hx : x.toD bx = some y) : x.toD bx' = some y := by
  cases x with
  | ow b sz n =>
    simp only [AV.toD] at hx ⊢
    split at hx
    · rename_i s es hb
      rw [h _ _ hb rfl]; exact hx
    · rename_i s es hb
      rw [h _ _ hb rfl]; exact hx
    · simp at hx
  | fn f cs => cases cs with
    | nil => exact hx
    | cons c cs => exact hx
  | _ => exact hx

theorem toDs_le (h : BxLe bx bx') : ∀ {xs : List AV} {ys : List D}, toDs bx xs = some ys → toDs bx' xs = some ys
  | [], ys, hx => hx
  | x :: xs, ys, hx => by
    simp only [toDs] at hx ⊢
    split at hx
    · rename_i y ys' hy hys
      rw [toD_le h hy, toDs_le h hys]; exact hx
    · simp at hx

theorem rows_le (h : BxLe bx bx') {x : AV} {es : List (List D)} (hx : x.rows bx = some es) : x.rows bx' = some es := by
  cases x with
  | d y => cases y <;> exact hx
  | ow b sz n =>
    simp only [AV.rows] at hx ⊢
    split at hx
    · rename_i s es hb
      rw [h _ _ hb rfl]; exact hx
    · rename_i s es hb
      rw [h _ _ hb rfl]; exact hx
    · simp at hx
  | vw b sz off n c ex =>
    simp only [AV.rows] at hx ⊢
    split at hx
    · rename_i s es hb
      rw [h _ _ hb rfl]; exact hx
    · rename_i s es hb
      rw [h _ _ hb rfl]; exact hx
    · simp at hx
  | _ => exact hx

theorem fz_le (h : BxLe bx bx') {x y : AV} (hx : fz bx x = some y) : fz bx' x = some y := by
  cases x with
  | ow b sz n =>
    simp only [fz, Option.map_eq_some_iff] at hx ⊢
    obtain ⟨q, h1, h2⟩ := hx
    exact ⟨q, toD_le h h1, h2⟩
  | vw b sz off n c ex =>
    simp only [fz, Option.map_eq_some_iff] at hx ⊢
    obtain ⟨q, h1, h2⟩ := hx
    exact ⟨q, rows_le h h1, h2⟩
  | _ => exact hx

theorem fzs_le (h : BxLe bx bx') : ∀ {xs ys : List AV}, fzs bx xs = some ys → fzs bx' xs = some ys
  | [], ys, hx => hx
  | x :: xs, ys, hx => by
    simp only [fzs] at hx ⊢
    split at hx
    · rename_i y ys' hy hys
      rw [fz_le h hy, fzs_le h hys]; exact hx
    · simp at hx

theorem frzs_le (h : BxLe bx bx') : ∀ {xs ys : List AV}, frzs bx xs = some ys → frzs bx' xs = some ys
  | [], ys, hx => hx
  | x :: xs, ys, hx => by
    simp only [frzs] at hx ⊢
    split at hx
    · rename_i y ys' hy hys
      have : frz1 bx' x = some y := by
        cases x with
        | agg cs =>
          simp only [frz1, Option.map_eq_some_iff] at hy ⊢
          obtain ⟨q, h1, h2⟩ := hy
          exact ⟨q, fzs_le h h1, h2⟩
        | _ => simp only [frz1] at hy ⊢; exact fz_le h hy
      rw [this, frzs_le h hys]; exact hx
    · simp at hx

theorem loadR_le (h : BxLe bx bx') {ti : TI} {a : AV} {r : R} (hx : loadR ti a bx = some r) : loadR ti a bx' = some r := by
  cases a with
  | ptr b off =>
    simp only [loadR] at hx ⊢
    split at hx
    · rename_i cs hb
      rw [h _ _ hb rfl]; exact hx
    · simp at hx
  | rp b sz i j =>
    simp only [loadR] at hx ⊢
    split at hx
    · rename_i s es hb
      rw [h _ _ hb rfl]; exact hx
    · rename_i s es hb
      rw [h _ _ hb rfl]; exact hx
    · simp at hx
  | _ => exact hx

theorem lenR_le (h : BxLe bx bx') {x v : AV} (hx : lenR x bx = some v) : lenR x bx' = some v := by
  cases x with
  | d y => cases y <;> exact hx
  | ow b sz n =>
    simp only [lenR] at hx ⊢
    split at hx
    · rename_i es hr
      rw [rows_le h hr]; exact hx
    · simp at hx
  | vw b sz off n c ex =>
    simp only [lenR] at hx ⊢
    split at hx
    · rename_i es hr
      rw [rows_le h hr]; exact hx
    · simp at hx
  | _ => exact hx

theorem rowsOf_le (h : BxLe bx bx') {size : Nat} : ∀ {ps : List (Nat × AV)} {rs : List (List D)}, rowsOf bx size ps = some rs → rowsOf bx' size ps = some rs
  | [], rs, hx => hx
  | (i, v) :: r, rs, hx => by
    simp only [rowsOf] at hx ⊢
    split at hx
    · rename_i vs hv
      split at hx
      · rename_i ds rs' hd hr
        simp only [toDs_le h hd, rowsOf_le h hr]; exact hx
      · simp at hx
    · simp at hx

theorem sliceR_le (h : BxLe bx bx') {t : Nat} {x : AV} {lo hi mx : Option Int} {c : Prop} {v : AV} (hx : sliceR T t x lo hi mx bx = some ⟨c, v, none⟩) : sliceR T t x lo hi mx bx' = some ⟨c, v, none⟩ := by
  unfold sliceR at hx ⊢
  split at hx
  · split at hx
    · exact hx
    · split at hx
      · rename_i es te hr hte
        simp only [rows_le h hr, hte]
        simp only [Option.some.injEq, R.mk.injEq] at hx ⊢
        refine ⟨hx.1, hx.2.1, ?_⟩
        have h3 := hx.2.2
        generalize ownless _ = q at h3 ⊢
        cases q <;> simp at h3 ⊢
      · simp at hx
    · split at hx
      · have hr := ‹AV.rows bx _ = some _›
        have hte := ‹T _ = some _›
        simp only [rows_le h hr, hte]
        simp only [Option.some.injEq, R.mk.injEq] at hx ⊢
        refine ⟨hx.1, hx.2.1, ?_⟩
        have h3 := hx.2.2
        generalize ownless _ = q at h3 ⊢
        cases q <;> simp at h3 ⊢
      · simp at hx
    · exact hx
    · simp at hx
  · simp at hx

theorem buildSliceR_le (h : BxLe bx bx') {t n : Nat} {ps : List (Nat × AV)} {c : Prop} {v : AV} (hx : buildSliceR T t n ps bx = some ⟨c, v, none⟩) : buildSliceR T t n ps bx' = some ⟨c, v, none⟩ := by
  unfold buildSliceR at hx ⊢
  split at hx
  · split at hx
    · split at hx
      · rename_i te hte
        generalize (Nat.beq ps.length n && inOrder 0 ps && Nat.ble (n * te.size) 16777216 && te.zero.cells?.isSome) = q at hx ⊢
        cases q with
        | false => simp at hx
        | true =>
          simp only [cond_true] at hx ⊢
          split at hx
          · rename_i rs hr
            simp only [rowsOf_le h hr]
            simp only [Option.some.injEq, R.mk.injEq] at hx ⊢
            refine ⟨hx.1, hx.2.1, ?_⟩
            have h3 := hx.2.2
            generalize noOw _ = q at h3 ⊢
            cases q <;> simp at h3 ⊢
          · simp at hx
      · simp at hx
    · simp at hx
  · simp at hx

theorem convR_le (h : BxLe bx bx') {s d : Nat} {x : AV} {r : R} (hx : convR T s d x bx = some r) : convR T s d x bx' = some r := by
  unfold convR at hx ⊢
  split at hx
  · split at hx
    · exact hx
    · split at hx
      · rename_i te es hte hr
        simp only [rows_le h hr, hte]; exact hx
      · simp at hx
    · exact hx
    · simp at hx
  · simp at hx

theorem appendR_some {t : Nat} {s x : AV} {r : R} (hx : appendR T t s x bx = some r) : r.bx ≠ none := by
  unfold appendR at hx
  split at hx
  · split at hx
    · split at hx
      · rename_i te hte
        cases hz : zeroOk te with
        | false => simp [hz] at hx
        | true =>
        simp only [hz, cond_true] at hx
        split at hx
        · split at hx
          · simp only [Option.some.injEq] at hx; subst hx; simp
          · split at hx
            · simp at hx
            · simp only [Option.some.injEq] at hx; subst hx; simp
          · split at hx
            · rename_i b _ _ _ _ _ _
              generalize sameBox _ x = q at hx
              cases q with
              | true => simp at hx
              | false => simp only [cond_false, Option.some.injEq] at hx; subst hx; simp
            · simp at hx
          · simp at hx
        · simp at hx
      · simp at hx
    · simp at hx
  · simp at hx

theorem storeR_some {ti : TI} {a v : AV} {r : R} (hx : storeR ti a v bx = some r) : r.bx ≠ none := by
  unfold storeR at hx
  split at hx
  · simp at hx
  · generalize Nat.beq _ _ = q at hx
    cases q with
    | false => simp at hx
    | true =>
    simp only [cond_true] at hx
    split at hx
    · split at hx
      · generalize Nat.ble _ _ = q at hx
        cases q with
        | false => simp at hx
        | true => simp only [cond_true, Option.some.injEq] at hx; subst hx; simp
      · simp at hx
    · split at hx
      · split at hx
        · simp only [Option.some.injEq] at hx; subst hx; simp
        · simp at hx
      · simp at hx
    · simp at hx

theorem builtinR_le (h : BxLe bx bx') {b : Builtin} {args : List AV} {ats : List Nat} {c : Prop} {v : AV} (hx : builtinR T b args ats bx = some ⟨c, v, none⟩) : builtinR T b args ats bx' = some ⟨c, v, none⟩ := by
  unfold builtinR at hx ⊢
  split at hx
  · split at hx
    · split at hx
      · exact hx
      · exact hx
      · split at hx
        · rename_i v' hl
          simp only [lenR_le h hl]; exact hx
        · simp at hx
      · simp at hx
    · simp at hx
  · exact hx
  · exact hx
  · split at hx
    · split at hx
      · simp at hx
      · exact absurd rfl (appendR_some hx)
    · simp at hx
  · simp at hx

theorem viewR_le (h : BxLe bx bx') {ev : Operand → AV} {op : Op} {c : Prop} {v : AV} (hx : viewR T ev op bx = some ⟨c, v, none⟩) : viewR T ev op bx' = some ⟨c, v, none⟩ := by
  unfold viewR at hx ⊢
  split at hx
  · exact hx
  · exact hx
  · split at hx
    · exact hx
    · exact hx
    · split at hx
      · simp only [copyR] at hx
        split at hx
        · split at hx
          · generalize (Nat.beq _ _ && Nat.beq _ _) = q at hx
            cases q <;> simp at hx
          · simp at hx
        · simp at hx
      · simp at hx
    · split at hx
      · simp only [clearR] at hx
        split at hx
        · split at hx
          · rename_i te _ _ _ _ _ _ _ _ _ _ _ _ _ _ _
            cases hq : (Nat.beq _ _ && Nat.beq _ _ && zeroOk _ : Bool) <;> rw [hq] at hx <;> simp at hx
          · simp at hx
        · simp at hx
      · simp at hx
    · split at hx
      · split at hx
        · simp only [growR] at hx
          split at hx
          · generalize (Nat.beq _ _ && Nat.beq _ _ && zeroOk _ && _) = q at hx
            cases q <;> simp at hx
          · simp at hx
        · simp at hx
      · generalize sameBox _ _ = q at hx
        cases q with
        | true =>
          simp only [cond_true, insideR] at hx
          split at hx
          · generalize (Nat.beq _ _ && Nat.beq _ _) = q at hx
            cases q <;> simp at hx
          · simp at hx
        | false =>
          simp only [cond_false] at hx
          split at hx
          · rename_i hap
            simp only [Option.some.injEq, R.mk.injEq] at hx
            obtain ⟨_, _, rfl⟩ := hx
            exact absurd rfl (appendR_some hap)
          · simp at hx
      · simp at hx
    · simp at hx
  · simp at hx

theorem opR0_le (h : BxLe bx bx') {ev : Operand → AV} {op : Op} {c : Prop} {v : AV} (hx : opR0 T ev op bx = some ⟨c, v, none⟩) : opR0 T ev op bx' = some ⟨c, v, none⟩ := by
  unfold opR0 at hx ⊢
  split at hx
  · exact hx
  · exact hx
  · split at hx
    · split at hx <;> simp at hx
    · simp at hx
  · split at hx <;> simp at hx
  · split at hx
    · exact loadR_le h hx
    · simp at hx
  · split at hx
    · exact absurd rfl (storeR_some hx)
    · simp at hx
  · exact hx
  · exact buildSliceR_le h hx
  · exact hx
  · exact hx
  · exact hx
  · exact hx
  · exact hx
  · exact hx
  · exact hx
  · exact convR_le h hx
  · split at hx
    · exact sliceR_le h hx
    · simp at hx
  · exact hx
  · exact hx
  · exact builtinR_le h hx
  · exact hx

theorem opR_le (h : BxLe bx bx') {ev : Operand → AV} {op : Op} {c : Prop} {v : AV} (hx : opR T ev op bx = some ⟨c, v, none⟩) : opR T ev op bx' = some ⟨c, v, none⟩ := by
  unfold opR at hx ⊢
  cases hv : isView ev op with
  | true => rw [hv, cond_true] at hx; rw [cond_true]; exact viewR_le h hx
  | false => rw [hv, cond_false] at hx; rw [cond_false]; exact opR0_le h hx

theorem bnd_congr {ev ev' : Operand → AV} {x : Option Operand} (h : ∀ y, x = some y → ev y = ev' y) : bnd ev x = bnd ev' x := by
  cases x with
  | none => rfl
  | some y => simp only [bnd, h y rfl]

theorem opR0_congr {ev ev' : Operand → AV} {op : Op} (h : ∀ x ∈ op.operands.toList, ev x = ev' x) : opR0 T ev op bx = opR0 T ev' op bx := by
  have pairs : ∀ ps : Array (Nat × Operand), (∀ x ∈ (ps.toList.map (·.2)).toArray.toList, ev x = ev' x) → (ps.toList.map fun p => (p.1, ev p.2)) = (ps.toList.map fun p => (p.1, ev' p.2)) := by
    intro ps hp
    refine List.map_congr_left fun p hm => ?_
    rw [hp p.2 (by simp only [List.mem_map]; exact ⟨p, hm, rfl⟩)]
  cases op <;> simp only [Op.operands] at h
  case build t ps => simp only [opR0, pairs ps h]
  case buildSlice t n ps => simp only [opR0, pairs ps h]
  case makeFunc fn first captured =>
    cases fn <;> simp only [opR0]
    rw [List.map_congr_left (f := ev) (g := ev') fun x hx => h x (by simp; exact .inr (by simpa using hx))]
  case slice t x lo hi mx =>
    simp only [opR0, h x (by simp), bnd_congr (x := lo) (fun y hy => h y (by simp [hy])), bnd_congr (x := hi) (fun y hy => h y (by simp [hy])), bnd_congr (x := mx) (fun y hy => h y (by simp [hy]))]
  case call c =>
    obtain ⟨callee, args, ats⟩ := c
    cases callee <;> simp only [opR0]
    rw [List.map_congr_left (f := ev) (g := ev') fun x hx => h x (by simp [Call.operands]; exact by simpa using hx)]
  all_goals (first | rfl | (simp only [opR0]; simp_all; done) | (simp_all [opR0]; done))

theorem viewR_congr {ev ev' : Operand → AV} {op : Op} (h : ∀ x ∈ op.operands.toList, ev x = ev' x) : isView ev op = isView ev' op ∧ viewR T ev op bx = viewR T ev' op bx := by
  cases op <;> simp only [Op.operands] at h
  case slice t x lo hi mx =>
    simp only [isView, viewR, h x (by simp), bnd_congr (x := lo) (fun y hy => h y (by simp [hy])), bnd_congr (x := hi) (fun y hy => h y (by simp [hy])), bnd_congr (x := mx) (fun y hy => h y (by simp [hy])), and_self]
  case indexAddr t x i => simp only [isView, viewR, h x (by simp), h i (by simp), and_self]
  case call c =>
    obtain ⟨callee, args, ats⟩ := c
    cases callee
    case builtin b =>
      have hm : args.toList.map ev = args.toList.map ev' := List.map_congr_left (f := ev) (g := ev') fun x hx => h x (by simp [Call.operands]; exact by simpa using hx)
      have hs : ∀ x ∈ args.toList, ev x = ev' x := fun x hx => h x (by simp [Call.operands]; exact by simpa using hx)
      refine ⟨?_, by simp only [viewR, hm]⟩
      simp only [isView]
      generalize args.toList = l at hs
      split <;> first | rfl | (rw [hs _ (by simp)])
    all_goals exact ⟨rfl, rfl⟩
  all_goals exact ⟨rfl, rfl⟩

theorem opR_congr {ev ev' : Operand → AV} {op : Op} (h : ∀ x ∈ op.operands.toList, ev x = ev' x) : opR T ev op bx = opR T ev' op bx := by
  unfold opR
  rw [(viewR_congr (T := T) (bx := bx) h).1, (viewR_congr (T := T) (bx := bx) h).2, opR0_congr h]

end
end Dem
end
