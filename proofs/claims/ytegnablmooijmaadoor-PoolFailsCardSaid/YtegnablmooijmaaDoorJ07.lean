/- JOINED TEXTS: Abs11. -/
import Derived.Test.YtegnablmooijmaaDoorJ06
import Derived.ChangeKeysEq
import Derived.Laws.StructEq
set_option linter.unusedSimpArgs false
set_option linter.unusedVariables false
open Go
namespace Dem
section
variable {P : Program} {T : Nat → Option TI} {G : Nat → Option (List D)} {β : Nat → Nat} {bx : List Box} {w : World} {X : Nat → Prop}

theorem execv (s : Sem Value) {x : Value} {w' : World} (h : s.run P w = .ok x w') : (do pure (Next.value (← s)) : Sem Next).run P w = .ok (.value x) w' := by
  simp [h]

theorem offOf_inv {k : Kd} {f o ft : Nat} (h : offOf k f = some (o, ft)) : ∃ fs, k = .struct fs ∧ fs[f]? = some (o, ft) := by
  cases k <;> simp [offOf] at h
  exact ⟨_, rfl, h⟩

theorem lenR_run {x : AV} {u : Value} {v : AV} {t : Nat} {e : Nat} (cx : Ctx G β bx w X) (ht : P.underlying t = some (.slice e)) (hx : RepA β bx w (okp β bx w X) x u) (hr : lenR x bx = some v) (ty : Nat) :
    ∃ r, (Builtin.len_ #[t] ty #[u]).run P w = .ok r w ∧ RepA β bx w (okp β bx w X) v r := by
  have fin : ∀ n base cap, u = .slice base n cap → v = .d (.int .i64 n) → ∃ r, (Builtin.len_ #[t] ty #[u]).run P w = .ok r w ∧ RepA β bx w (okp β bx w X) v r := by
    rintro n base cap rfl rfl
    exact ⟨.int .i64 n, by simp [Builtin.len_, run_und ht, goInt], by simp [RepA, RepD]⟩
  unfold lenR at hr
  split at hr
  · simp only [Option.some.injEq] at hr; subst hr
    simp only [RepA, RepD] at hx
    obtain ⟨base, cap, rfl, _⟩ := hx
    exact fin _ _ _ rfl rfl
  · simp only [Option.some.injEq] at hr; subst hr
    simp only [RepA] at hx
    obtain ⟨base, rfl, _⟩ := hx
    exact fin _ _ _ rfl rfl
  · split at hr
    · rename_i es hes
      simp only [Option.some.injEq] at hr; subst hr
      obtain ⟨_, base, cap, rfl, _⟩ := ow_rows cx hes hx
      exact fin _ _ _ rfl rfl
    · simp at hr
  · split at hr
    · rename_i es hes
      simp only [Option.some.injEq] at hr; subst hr
      obtain ⟨_, _, base, cap, rfl, _⟩ := rows_seal cx hes hx
      exact fin _ _ _ rfl rfl
    · simp at hr
  · simp at hr

theorem builtinR_done (hT : TOk P T) (cx : Ctx G β bx w X) {bn : Builtin} {args : List AV} {vs : List Value} {ats : List Nat} (hx : RepAs β bx w (okp β bx w X) args vs)
    {c : Prop} {v : AV} {b : Option (List Box)} (hr : builtinR T bn args ats bx = some ⟨c, v, b⟩) (hc : c) (ty : Nat) (cs : Array Bool) :
    ∃ r w' β', (Go.builtin bn ⟨ats⟩ ty cs ⟨vs⟩).run P w = .ok (.value r) w' ∧ Ext β bx w β' (orBx bx b) w' ∧ Ctx G β' (orBx bx b) w' X ∧ RepA β' (orBx bx b) w' (okp β' (orBx bx b) w' X) v r := by
  unfold builtinR at hr
  split at hr
  · rename_i x t
    simp only [RepAs] at hx
    obtain ⟨u, us, rfl, hx, rfl⟩ := hx
    cases ht : T t with
    | none => simp [ht] at hr
    | some ti =>
    obtain ⟨i, d, h1, h2, h3, h4, h5, h6⟩ := tiOf_inv (hT.ti _ _ ht)
    simp only [ht] at hr
    cases hk : ti.kd with
    | array n e =>
      rw [hk] at hr h5
      cases d <;> simp [kdOf] at h5
      obtain ⟨rfl, rfl⟩ := h5
      simp only [R.pure, Option.some.injEq, R.mk.injEq] at hr
      obtain ⟨_, rfl, rfl⟩ := hr
      refine ⟨_, w, β, execv _ (x := .int .i64 n) ?_, Ext.refl _ _ _, cx, by simp only [RepA, RepD]⟩
      cases u <;> simp [Builtin.len_, run_und h2, goInt]
    | str =>
      rw [hk] at hr h5
      cases d <;> simp [kdOf] at h5
      cases x with
      | d y =>
        cases y with
        | str s =>
          simp only [R.pure, Option.some.injEq, R.mk.injEq] at hr
          obtain ⟨_, rfl, rfl⟩ := hr
          simp only [RepA, RepD] at hx; subst hx
          refine ⟨_, w, β, execv _ (x := .int .i64 s.length) ?_, Ext.refl _ _ _, cx, by simp only [RepA, RepD]⟩
          have hsz : (⟨s.toArray⟩ : ByteArray).size = s.length := by show s.toArray.size = _; simp
          simp [Builtin.len_, run_und h2, goInt, hsz]
        | _ => simp at hr
      | _ => simp at hr
    | slice e =>
      rw [hk] at hr h5
      cases d <;> simp [kdOf] at h5
      subst h5
      have hr2 : (match lenR x bx with | some v => R.pure v | none => none) = some ⟨c, v, b⟩ := by
        cases x <;> first | exact hr | (rename_i y; cases y <;> exact hr)
      split at hr2
      · rename_i v' hl
        simp only [R.pure, Option.some.injEq, R.mk.injEq] at hr2
        obtain ⟨_, rfl, rfl⟩ := hr2
        obtain ⟨r, k1, k2⟩ := lenR_run (t := t) cx h2 hx hl ty
        exact ⟨r, w, β, execv _ k1, Ext.refl _ _ _, cx, k2⟩
      · simp at hr2
    | _ => rw [hk] at hr; simp at hr
  · rename_i k x k' y
    simp only [R.pure, Option.some.injEq, R.mk.injEq] at hr
    obtain ⟨_, rfl, rfl⟩ := hr
    simp only [RepAs, RepA, RepD] at hx
    obtain ⟨u, us, rfl, rfl, u2, us2, rfl, rfl, rfl⟩ := hx
    refine ⟨_, w, β, execv _ (x := .int k (min x y)) ?_, Ext.refl _ _ _, cx, by simp only [RepA, RepD]⟩
    simp [Builtin.min_, Builtin.min2]
    omega
  · rename_i k x k' y
    simp only [R.pure, Option.some.injEq, R.mk.injEq] at hr
    obtain ⟨_, rfl, rfl⟩ := hr
    simp only [RepAs, RepA, RepD] at hx
    obtain ⟨u, us, rfl, rfl, u2, us2, rfl, rfl, rfl⟩ := hx
    refine ⟨_, w, β, execv _ (x := .int k (max x y)) ?_, Ext.refl _ _ _, cx, by simp only [RepA, RepD]⟩
    simp [Builtin.max_, Builtin.max2]
    omega
  · rename_i s x t u
    simp only [RepAs] at hx
    obtain ⟨v1, us, rfl, hs, v2, us2, rfl, hx, rfl⟩ := hx
    cases hu : T u with
    | none => simp [hu] at hr
    | some tu =>
    simp only [hu] at hr
    have hud : ∀ k, tu.kd ≠ .int k := by intro k hk; rw [hk] at hr; simp at hr
    have hr2 : appendR T t s x bx = some ⟨c, v, b⟩ := by
      split at hr
      · simp at hr
      · exact hr
    obtain ⟨r, w', β', bx', rfl, k1, k2, k3, k4⟩ := appendR_done hT cx hu hud hs hx hr2 hc ty
    exact ⟨r, w', β', execv _ k1, k2, k3, k4⟩
  · simp at hr


theorem eqItems_run {n e : Nat} {te : TI} {i : TypeInfo} (d : Nat) (ht : tiOf P e = some te) (hs : te.size = i.size) {ok : Nat → Prop}
    (IH : ∀ a b r x y, eqA T n e a b = some r → RepA β bx w ok a x → RepA β bx w ok b y → (Op.equalIn d e x y).run P w = .ok r w)
    {xs ys : List AV} {us vs : List Value} (hx : RepAs β bx w ok xs us) (hy : RepAs β bx w ok ys vs) : ∀ (is : List Nat) (r : Bool),
    is.foldr (fun i acc => match splitA te.kd.isAgg te.size (xs.drop (i * te.size)), splitA te.kd.isAgg te.size (ys.drop (i * te.size)) with
          | some a, some b => match eqA T n e a b, acc with
            | some p, some q => some (p && q)
            | _, _ => none
          | _, _ => none) (some true) = some r → (Op.eqItems d e i.size ⟨us⟩ ⟨vs⟩ is).run P w = .ok r w
  | [], r, h => by simp at h; subst h; simp [Op.eqItems]
  | j :: is, r, h => by
    rw [List.foldr_cons] at h
    split at h
    · rename_i a b ha hb
      split at h
      · rename_i p q hp hq
        simp only [Option.some.injEq] at h; subst h
        obtain ⟨x, k1, k2⟩ := part_run (P := P) (w := w) ht ha hx
        obtain ⟨y, k3, k4⟩ := part_run (P := P) (w := w) ht hb hy
        rw [hs] at k1 k3
        have k5 := IH a b p x y hp k2 k4
        have k6 := eqItems_run d ht hs IH hx hy is q hq
        simp only [Op.eqItems, Sem.run_bind, k1, k3, k5, Result.andThen_ok]
        cases p <;> simp [k6]
      · simp at h
    · simp at h

theorem eqFields_run (hT : TOk P T) {n : Nat} (d : Nat) {ok : Nat → Prop}
    (IH : ∀ t a b r x y, eqA T n t a b = some r → RepA β bx w ok a x → RepA β bx w ok b y → (Op.equalIn d t x y).run P w = .ok r w)
    {xs ys : List AV} {us vs : List Value} (hx : RepAs β bx w ok xs us) (hy : RepAs β bx w ok ys vs) : ∀ (fs : List Field) (r : Bool), (∀ f ∈ fs, f.name ≠ "_") →
    (fs.map fun f => (f.offset, f.type)).foldr (fun f acc => match T f.2 with
          | some tf => match splitA tf.kd.isAgg tf.size (xs.drop f.1), splitA tf.kd.isAgg tf.size (ys.drop f.1) with
            | some a, some b => match eqA T n f.2 a b, acc with
              | some p, some q => some (p && q)
              | _, _ => none
            | _, _ => none
          | none => none) (some true) = some r → (Op.eqFields d ⟨us⟩ ⟨vs⟩ fs).run P w = .ok r w
  | [], r, _, h => by simp at h; subst h; simp [Op.eqFields]
  | f :: fs, r, hn, h => by
    rw [List.map_cons, List.foldr_cons] at h
    split at h
    · rename_i tf htf
      split at h
      · rename_i a b ha hb
        split at h
        · rename_i p q hp hq
          simp only [Option.some.injEq] at h; subst h
          obtain ⟨x, k1, k2⟩ := part_run (P := P) (w := w) (hT.ti _ _ htf) ha hx
          obtain ⟨y, k3, k4⟩ := part_run (P := P) (w := w) (hT.ti _ _ htf) hb hy
          have k5 := IH f.type a b p x y hp k2 k4
          have k6 := eqFields_run hT d IH hx hy fs q (fun g hg => hn g (by simp [hg])) hq
          simp only [Op.eqFields, hn f (by simp), ne_eq, not_false_eq_true, if_true, Sem.run_bind, k1, k3, k5, Result.andThen_ok]
          cases p <;> simp [k6]
        · simp at h
      · simp at h
    · simp at h

theorem eqA_run (hT : TOk P T) {ok : Nat → Prop} (d : Nat) : ∀ (n t : Nat) (a b : AV) (r : Bool) (x y : Value), eqA T n t a b = some r → RepA β bx w ok a x → RepA β bx w ok b y →
    (Op.equalIn (d + n) t x y).run P w = .ok r w
  | 0, t, a, b, r, x, y, h, _, _ => by simp [eqA] at h
  | n + 1, t, a, b, r, x, y, h, hx, hy => by
    unfold eqA at h
    split at h
    · simp at h
    rename_i ti ht
    obtain ⟨i, ds, h1, h2, h3, h4, h5, h6⟩ := tiOf_inv (hT.ti _ _ ht)
    rw [h5] at h
    split at h
    · rename_i q j a k b hk
      cases hjk : j == k with
      | false => simp [hjk] at h
      | true =>
      have hjk' : j = k := by simpa using hjk
      subst hjk'
      cases ds <;> simp [kdOf] at hk
      simp only [RepA, RepD] at hx hy
      subst hx; subst hy
      simp only [hjk, cond_true, Option.some.injEq] at h; subst h
      rw [show d + (n + 1) = (d + n) + 1 from rfl]
      simp [run_equalIn_int _ (d + n) t j _ a b h2]
      rfl
    · rename_i a b hk
      cases ds <;> simp [kdOf] at hk
      simp only [RepA, RepD] at hx hy
      subst hx; subst hy
      simp only [Option.some.injEq] at h; subst h
      rw [show d + (n + 1) = (d + n) + 1 from rfl]
      simp [run_equalIn_bool' _ (d + n) t a b h2]
    · rename_i a b hk
      cases ds <;> simp [kdOf] at hk
      simp only [RepA, RepD] at hx hy
      subst hx; subst hy
      simp only [Option.some.injEq] at h; subst h
      rw [show d + (n + 1) = (d + n) + 1 from rfl]
      rw [run_equalIn_string _ (d + n) t _ _ h2, ByteArray.toList_eq, ByteArray.toList_eq]
      by_cases hab : a = b <;> simp [hab]
    · rename_i len e xs ys hk
      have hd : ds = .array len e := by cases ds <;> simp [kdOf] at hk; obtain ⟨rfl, rfl⟩ := hk; rfl
      subst hd
      simp only [RepA] at hx hy
      obtain ⟨us, rfl, hx⟩ := hx
      obtain ⟨vs, rfl, hy⟩ := hy
      split at h
      · rename_i te hte
        obtain ⟨ei, ed, g1, g2, g3, g4, g5, g6⟩ := tiOf_inv (hT.ti _ _ hte)
        cases hl : Nat.beq len 0 with
        | true => simp [hl] at h
        | false =>
        simp only [hl, cond_false] at h
        rw [show d + (n + 1) = (d + n) + 1 from rfl, run_equalIn_array _ (d + n) _ _ h2 g1]
        have := eqItems_run (P := P) (w := w) (β := β) (bx := bx) (T := T) (n := n) (d + n) (hT.ti _ _ hte) g3 (fun a b r x y => eqA_run hT d n e a b r x y) hx hy _ _ h
        simpa [Program.cellsOf, g1] using this
      · simp at h
    · rename_i fs xs ys hk
      simp only [RepA] at hx hy
      obtain ⟨us, rfl, hx⟩ := hx
      obtain ⟨vs, rfl, hy⟩ := hy
      cases ds <;> simp [kdOf] at hk
      rename_i gs
      subst hk
      have he := tiOf_eq (hT.ti _ _ ht) h2
      cases hq : ti.eq with
      | false => simp [hq] at h
      | true =>
      simp only [hq, cond_true] at h
      rw [hq] at he
      simp only [eqFit] at he
      have he' := he.symm
      simp only [Bool.and_eq_true, Bool.not_eq_true', List.all_eq_true, bne_iff_ne, ne_eq] at he'
      have hf : P.fieldsOf t = gs := by simp [Program.fieldsOf, h2]
      rw [show d + (n + 1) = (d + n) + 1 from rfl, run_equalIn_agg _ (d + n) t _ _ (by rw [hf]; exact h2) he'.1, hf]
      exact eqFields_run hT (d + n) (fun t a b r x y => eqA_run hT d n t a b r x y) hx hy _ _ he'.2 h
    · simp at h

theorem foldr_mem {α : Type} {F : α → Option Bool → Option Bool} (hF : ∀ x, F x none = none) {p : α → Prop} (hp : ∀ x acc r, F x acc = some r → p x) : ∀ (xs : List α) {b r : Option Bool}, xs.foldr F b = r → r ≠ none → ∀ x ∈ xs, p x
  | [], _, _, _, _, x, hx => by simp at hx
  | y :: ys, b, r, h, hr, x, hx => by
    rw [List.foldr_cons] at h
    cases hq : ys.foldr F b with
    | none => rw [hq, hF] at h; exact absurd h.symm hr
    | some q =>
    rcases List.mem_cons.1 hx with rfl | hx
    · cases r with
      | none => simp at hr
      | some r => exact hp _ _ _ h
    · exact foldr_mem hF hp ys hq (by simp) x hx

theorem eqA_guard (hT : TOk P T) : ∀ (n m t : Nat) (a b : AV) (r : Bool), eqA T n t a b = some r → n ≤ m → P.eqGuardType m t = false
  | 0, m, t, a, b, r, h, _ => by simp [eqA] at h
  | n + 1, 0, t, a, b, r, h, hm => by omega
  | n + 1, m + 1, t, a, b, r, h, hm => by
    unfold eqA at h
    split at h
    · simp at h
    rename_i ti ht
    obtain ⟨i, ds, h1, h2, h3, h4, h5, h6⟩ := tiOf_inv (hT.ti _ _ ht)
    rw [h5] at h
    unfold Program.eqGuardType
    rw [h2]
    cases ds <;> simp only [kdOf] at h ⊢
    all_goals try rfl
    all_goals (try (exfalso; revert h; cases a <;> cases b <;> simp; done))
    · rename_i len e
      cases a <;> (try (simp at h; done))
      cases b <;> (try (simp at h; done))
      simp only at h
      cases hte : T e with
      | none => simp [hte] at h
      | some te =>
      simp only [hte] at h
      cases hl : Nat.beq len 0 with
      | true => simp [hl] at h
      | false =>
      simp only [hl, cond_false] at h
      have hall := foldr_mem (p := fun _ => P.eqGuardType m e = false) (fun f => by split <;> simp) (fun f acc r hf => by
        split at hf
        · split at hf
          · have hp := ‹eqA T n _ _ _ = some _›
            exact eqA_guard hT n m e _ _ _ hp (by omega)
          · simp at hf
        · simp at hf) _ h (by simp)
      exact hall 0 (by simp; have := Nat.ne_of_beq_eq_false hl; omega)
    · rename_i gs
      cases a <;> (try (simp at h; done))
      cases b <;> (try (simp at h; done))
      simp only at h
      cases hq : ti.eq with
      | false => simp [hq] at h
      | true =>
      simp only [hq, cond_true] at h
      have hall := foldr_mem (p := fun f => P.eqGuardType m f.2 = false) (fun f => by split <;> (try split) <;> simp) (fun f acc r hf => by
        split at hf
        · split at hf
          · split at hf
            · have hp := ‹eqA T n _ _ _ = some _›
              exact eqA_guard hT n m f.2 _ _ _ hp (by omega)
            · simp at hf
          · simp at hf
        · simp at hf) _ h (by simp)
      rw [Array.any_eq_false]
      intro k hk
      have := hall (gs[k].offset, gs[k].type) (List.mem_map.2 ⟨gs[k], by simp, rfl⟩)
      simp [this]

theorem parts_rep {ev : Operand → AV} {ρ : Operand → Value} {ok : Nat → Prop} : ∀ (ps : List (Nat × Operand)), (∀ p ∈ ps, RepA β bx w ok (ev p.2) (ρ p.2)) → PartsRep β bx w ok (ps.map fun p => (p.1, ev p.2)) (ps.map fun p => (p.1, ρ p.2))
  | [], _ => by simp [PartsRep]
  | p :: ps, h => by
    simp only [List.map_cons, PartsRep]
    exact ⟨_, _, rfl, h p (by simp), parts_rep ps (fun q hq => h q (by simp [hq]))⟩

theorem map_rep {ev : Operand → AV} {ρ : Operand → Value} {ok : Nat → Prop} : ∀ (xs : List Operand), (∀ x ∈ xs, RepA β bx w ok (ev x) (ρ x)) → RepAs β bx w ok (xs.map ev) (xs.map ρ)
  | [], _ => by simp [RepAs]
  | x :: xs, h => by
    simp only [List.map_cons, RepAs]
    exact ⟨_, _, rfl, h x (by simp), map_rep xs (fun q hq => h q (by simp [hq]))⟩

theorem array_map_list {α γ : Type} (a : Array α) (f : α → γ) : a.map f = ⟨a.toList.map f⟩ := by
  apply Array.ext'; simp

/-- Each operation of the calculus does so in the model. -/
theorem opR0_done (hT : TOk P T) (cx : Ctx G β bx w X) {ev : Operand → AV} {ρ : Operand → Value} {o : Oper} (hρ : ∀ x ∈ o.op.operands.toList, RepA β bx w (okp β bx w X) (ev x) (ρ x))
    {c : Prop} {v : AV} {b : Option (List Box)} (hr : opR0 T ev o.op bx = some ⟨c, v, b⟩) (hc : c) : Done G β bx w X ((execOp ρ o).run P w) v (orBx bx b) := by
  obtain ⟨dst, op, type, pos, after, guard⟩ := o
  simp only at hρ hr
  unfold opR0 at hr
  split at hr
  · -- move
    simp only [R.pure, Option.some.injEq, R.mk.injEq] at hr
    obtain ⟨_, rfl, rfl⟩ := hr
    exact Done.pure cx rfl (hρ _ (by simp [Op.operands]))
  · simp only [R.pure, Option.some.injEq, R.mk.injEq] at hr
    obtain ⟨_, rfl, rfl⟩ := hr
    exact Done.pure cx rfl (hρ _ (by simp [Op.operands]))
  · -- alloc
    rename_i t
    cases ht : T t with
    | none => simp [ht] at hr
    | some ti =>
    simp only [ht] at hr
    cases hz : ti.zero.cells? with
    | none => simp [hz] at hr
    | some cs =>
    simp only [hz, Option.some.injEq, R.mk.injEq] at hr
    obtain ⟨_, rfl, rfl⟩ := hr
    obtain ⟨i, d, h1, h2, h3, h4, h5, h6⟩ := tiOf_inv (hT.ti _ _ ht)
    cases hzz : i.zero with
    | none => rw [h6, hzz] at hz; simp [AV.cells?] at hz
    | some z =>
    rw [h6, hzz] at hz
    obtain ⟨β', w', k1, k2, k3⟩ := newVar_done (P := P) cx t hz (absZ_rep z)
    refine ⟨β', w', k2, k3, .inl ⟨.pointer (some ⟨β' bx.length, 0, none⟩), ?_, ?_⟩⟩
    · exact execv _ (by simp [Instr.alloc, run_zero h1 hzz, k1])
    · simp only [RepA]; exact ⟨trivial, .var cs, by simp [orBx], rfl⟩
  · -- box
    rename_i t x
    cases hz : (ev x).cells? with
    | none => simp [hz] at hr
    | some cs =>
    simp only [hz, Option.some.injEq, R.mk.injEq] at hr
    obtain ⟨_, rfl, rfl⟩ := hr
    obtain ⟨β', w', k1, k2, k3⟩ := newVar_done (P := P) cx t hz (hρ x (by simp [Op.operands]))
    refine ⟨β', w', k2, k3, .inl ⟨.pointer (some ⟨β' bx.length, 0, none⟩), ?_, ?_⟩⟩
    · exact execv _ (by simp [Instr.box, k1])
    · simp only [RepA]; exact ⟨trivial, .var cs, by simp [orBx], rfl⟩
  · -- load
    rename_i t a
    cases ht : T t with
    | none => simp [ht] at hr
    | some ti =>
    simp only [ht] at hr
    obtain ⟨rfl, x, k1, k2⟩ := loadR_done (P := P) hT cx ht (hρ a (by simp [Op.operands])) hr hc
    exact Done.pure cx (execv _ k1) k2
  · -- store
    rename_i t a x
    cases ht : T t with
    | none => simp [ht] at hr
    | some ti =>
    simp only [ht] at hr
    obtain ⟨rfl, bx', w', rfl, k1, k2, k3⟩ := storeR_done (P := P) hT cx ht (hρ a (by simp [Op.operands])) (hρ x (by simp [Op.operands])) hr hc
    exact ⟨β, w', k2, k3, .inr ⟨by simp [execOp, k1], rfl⟩⟩
  · -- build
    rename_i t parts
    obtain ⟨rfl, u, k1, k2⟩ := buildR_done (P := P) (w := w) (β := β) (bx := bx) (X := X) hT (vs := parts.map fun (i, x) => (i, ρ x))
      (by rw [Array.toList_map]; exact parts_rep _ (fun p hp => hρ p.2 (by simp [Op.operands]; exact ⟨p.1, by simpa using hp⟩))) hr
    exact Done.pure cx (execv _ k1) k2
  · -- buildSlice
    rename_i t n parts
    obtain ⟨u, w', k1, k2, k3, k4⟩ := buildSliceR_done (P := P) (w := w) (β := β) (bx := bx) (X := X) hT cx (vs := parts.map fun (i, x) => (i, ρ x))
      (by rw [Array.toList_map]; exact parts_rep _ (fun p hp => hρ p.2 (by simp [Op.operands]; exact ⟨p.1, by simpa using hp⟩))) hr
    exact ⟨β, w', k2, k3, .inl ⟨u, execv _ k1, k4⟩⟩
  · -- fieldAddr
    rename_i t x f
    have hx := hρ x (by simp [Op.operands])
    cases ht : T t with
    | none => simp [ht] at hr
    | some ti =>
    simp only [ht] at hr
    split at hr
    · rename_i o ft ho
      cases hft : T ft with
      | none => simp [hft] at hr
      | some tf =>
      simp only [hft] at hr
      cases hs : Nat.beq tf.size 0 with
      | true => simp [hs] at hr
      | false =>
      have hs' : tf.size ≠ 0 := by intro h; rw [h] at hs; simp at hs
      simp only [hs, cond_false] at hr
      have place := fun blk off => field_place (w := w) (hT.ti _ _ ht) ho (hT.ti _ _ hft) hs' blk off
      split at hr
      · rename_i b' off he
        simp only [R.pure, Option.some.injEq, R.mk.injEq] at hr
        obtain ⟨_, rfl, rfl⟩ := hr
        rw [he] at hx; simp only [RepA] at hx
        obtain ⟨hx, hb⟩ := hx
        exact Done.pure cx (execv _ (by rw [hx]; exact place _ _)) (by simp only [RepA]; exact ⟨trivial, hb⟩)
      · rename_i b' sz i j he
        simp only [R.pure, Option.some.injEq, R.mk.injEq] at hr
        obtain ⟨_, rfl, rfl⟩ := hr
        rw [he] at hx; simp only [RepA] at hx
        obtain ⟨hx, hb⟩ := hx
        exact Done.pure cx (execv _ (by rw [hx]; exact place _ _)) (by simp only [RepA]; exact ⟨by rw [Nat.add_assoc], hb⟩)
      · rename_i ds he
        simp only [R.when, Option.some.injEq, R.mk.injEq] at hr
        obtain ⟨rfl, rfl, rfl⟩ := hr
        rw [he] at hx; simp only [RepA] at hx
        obtain ⟨blk, off, hx, hb, hrow⟩ := hx
        exact Done.pure cx (execv _ (by rw [hx]; exact place _ _)) (by simp only [RepA]; exact ⟨blk, off + o, rfl, hb, RepRow.drop _ _ _ hrow⟩)
      · simp at hr
    · simp at hr
  · -- indexAddr
    rename_i t x i
    have hx := hρ x (by simp [Op.operands])
    have hi := hρ i (by simp [Op.operands])
    cases ht : T t with
    | none => simp [ht] at hr
    | some ti =>
    obtain ⟨ii, d, h1, h2, h3, h4, h5, h6⟩ := tiOf_inv (hT.ti _ _ ht)
    simp only [ht, h5] at hr
    split at hr
    · rename_i n e kz z hk hez
      have hd : d = .array n e := by cases d <;> simp [kdOf] at hk; obtain ⟨rfl, rfl⟩ := hk; rfl
      subst hd
      rw [hez] at hi; simp only [RepA, RepD] at hi
      split at hr
      · rename_i te hte
        obtain ⟨ei, ed, g1, g2, g3, g4, g5, g6⟩ := tiOf_inv (hT.ti _ _ hte)
        have place : ∀ blk off, 0 ≤ z ∧ z < (n : Int) → (Instr.indexAt t (.pointer (some ⟨blk, off, none⟩)) (ρ i)).run P w = .ok (.pointer (some ⟨blk, off + z.toNat * te.size, none⟩)) w := by
          intro blk off hz
          simp [Instr.indexAt, hi, asIntOf, run_und h2, Instr.sureAddr, hz.1, hz.2, run_size g1, addr_add, g3]
        split at hr
        · rename_i b' off he
          simp only [R.when, Option.some.injEq, R.mk.injEq] at hr
          obtain ⟨rfl, rfl, rfl⟩ := hr
          rw [he] at hx; simp only [RepA] at hx
          obtain ⟨hx, hb⟩ := hx
          exact Done.pure cx (execv _ (by rw [hx]; exact place _ _ hc)) (by simp only [RepA]; exact ⟨trivial, hb⟩)
        · rename_i b' sz a j he
          simp only [R.when, Option.some.injEq, R.mk.injEq] at hr
          obtain ⟨rfl, rfl, rfl⟩ := hr
          rw [he] at hx; simp only [RepA] at hx
          obtain ⟨hx, hb⟩ := hx
          exact Done.pure cx (execv _ (by rw [hx]; exact place _ _ hc)) (by simp only [RepA]; exact ⟨by rw [Nat.add_assoc], hb⟩)
        · rename_i ds he
          simp only [R.when, Option.some.injEq, R.mk.injEq] at hr
          obtain ⟨rfl, rfl, rfl⟩ := hr
          rw [he] at hx; simp only [RepA] at hx
          obtain ⟨blk, off, hx, hb, hrow⟩ := hx
          exact Done.pure cx (execv _ (by rw [hx]; exact place _ _ ⟨hc.1, hc.2.1⟩)) (by simp only [RepA]; exact ⟨blk, _, rfl, hb, RepRow.drop _ _ _ hrow⟩)
        · simp at hr
      · simp at hr
    · rename_i e kz z hk hez
      cases d <;> simp [kdOf] at hk
      subst hk
      rw [hez] at hi; simp only [RepA, RepD] at hi
      split at hr
      · rename_i te b' sz n hte he
        obtain ⟨ei, ed, g1, g2, g3, g4, g5, g6⟩ := tiOf_inv (hT.ti _ _ hte)
        cases hb : Nat.beq te.size sz with
        | false => simp [hb] at hr
        | true =>
        have hb' := Nat.eq_of_beq_eq_true hb
        subst hb'
        simp only [hb, cond_true, R.when, Option.some.injEq, R.mk.injEq] at hr
        obtain ⟨rfl, rfl, rfl⟩ := hr
        rw [he] at hx; simp only [RepA] at hx
        obtain ⟨hbb, hx⟩ := hx
        rcases hx with ⟨rfl, _⟩ | ⟨_, cap, _, _, _, hx, _⟩
        · simp at hc; omega
        · exact Done.pure cx (execv _ (by rw [hx]; simp [Instr.indexAt, hi, asIntOf, run_und h2, hc.1, hc.2, run_size g1, addr_add]; rfl)) (by simp only [RepA]; exact ⟨by rw [g3]; simp, hbb⟩)
      · simp at hr
    · simp at hr
  · -- field
    rename_i t x f
    have hx := hρ x (by simp [Op.operands])
    cases ht : T t with
    | none => simp [ht] at hr
    | some ti =>
    obtain ⟨ii, d, h1, h2, h3, h4, h5, h6⟩ := tiOf_inv (hT.ti _ _ ht)
    simp only [ht] at hr
    split at hr
    · rename_i o ft ho
      rw [h5] at ho
      cases d <;> simp [kdOf, offOf] at ho
      rename_i fs
      obtain ⟨fl, hfl, rfl, rfl⟩ := ho
      split at hr
      · rename_i tf cs hft he
        split at hr
        · rename_i v' hsp
          simp only [R.pure, Option.some.injEq, R.mk.injEq] at hr
          obtain ⟨_, rfl, rfl⟩ := hr
          rw [he] at hx; simp only [RepA] at hx
          obtain ⟨vs, hx, hvs⟩ := hx
          obtain ⟨u, k1, k2⟩ := part_run (P := P) (w := w) (hT.ti _ _ hft) hsp hvs
          exact Done.pure cx (execv _ (by rw [hx]; simp [Instr.field, run_und h2, hfl, asAgg, k1])) k2
        · simp at hr
      · simp at hr
    · simp at hr
  · -- index
    rename_i t x i
    have hx := hρ x (by simp [Op.operands])
    have hi := hρ i (by simp [Op.operands])
    cases ht : T t with
    | none => simp [ht] at hr
    | some ti =>
    obtain ⟨ii, d, h1, h2, h3, h4, h5, h6⟩ := tiOf_inv (hT.ti _ _ ht)
    simp only [ht, h5] at hr
    split at hr
    · rename_i s kz z hk hes hez
      cases d <;> simp [kdOf] at hk
      simp only [R.when, Option.some.injEq, R.mk.injEq] at hr
      obtain ⟨rfl, rfl, rfl⟩ := hr
      rw [hes] at hx; simp only [RepA, RepD] at hx
      rw [hez] at hi; simp only [RepA, RepD] at hi
      have hlt : z.toNat < s.length := by omega
      refine Done.pure cx (u := .int .u8 (s.getD z.toNat 0).toNat) (execv _ ?_) (by simp only [RepA, RepD])
      rw [hx, hi]
      have hg : (⟨s.toArray⟩ : ByteArray)[z.toNat]? = some (s.getD z.toNat 0) := by
        have hsz : z.toNat < (⟨s.toArray⟩ : ByteArray).size := by show z.toNat < s.toArray.size; simpa using hlt
        have hge : (⟨s.toArray⟩ : ByteArray)[z.toNat]? = some ((⟨s.toArray⟩ : ByteArray)[z.toNat]'hsz) := by
          show (if h : _ then _ else _) = _
          rw [dif_pos hsz]
        rw [hge]
        simp only [List.getD_eq_getElem?_getD, List.getElem?_eq_getElem hlt, Option.getD_some]
        rfl
      simp [Instr.index, asIntOf, run_und h2, hc.1, hg]
    · rename_i n e cs kz z hk hes hez
      cases d <;> simp [kdOf] at hk
      obtain ⟨rfl, rfl⟩ := hk
      rw [hes] at hx; simp only [RepA] at hx
      obtain ⟨vs, hx, hvs⟩ := hx
      rw [hez] at hi; simp only [RepA, RepD] at hi
      split at hr
      · rename_i te hte
        obtain ⟨ei, ed, g1, g2, g3, g4, g5, g6⟩ := tiOf_inv (hT.ti _ _ hte)
        split at hr
        · rename_i v' hsp
          simp only [R.when, Option.some.injEq, R.mk.injEq] at hr
          obtain ⟨rfl, rfl, rfl⟩ := hr
          obtain ⟨u, k1, k2⟩ := part_run (P := P) (w := w) (hT.ti _ _ hte) hsp hvs
          rw [g3] at k1
          exact Done.pure cx (execv _ (by rw [hx, hi]; simp [Instr.index, asIntOf, run_und h2, hc.1, hc.2, run_size g1, k1])) k2
        · simp at hr
      · simp at hr
    · simp at hr
  · -- extract
    rename_i x i
    have hx := hρ x (by simp [Op.operands])
    split at hr
    · rename_i vs he
      split at hr
      · rename_i v' hv
        simp only [R.pure, Option.some.injEq, R.mk.injEq] at hr
        obtain ⟨_, rfl, rfl⟩ := hr
        rw [he] at hx; simp only [RepA] at hx
        obtain ⟨us, hx, hus⟩ := hx
        obtain ⟨u, k1, k2⟩ := RepAs.get i _ hus hv
        exact Done.pure cx (execv _ (by rw [hx]; simp [Instr.extract, k1])) k2
      · simp at hr
    · simp at hr
  · -- binOp
    rename_i op t x y t2
    have hx := hρ x (by simp [Op.operands])
    have hy := hρ y (by simp [Op.operands])
    split at hr
    · rename_i xs ys hxe hye
      have key : ∀ r, eqA T 8 t (.agg xs) (.agg ys) = some r → (Op.equalIn 10000 t (ρ x) (ρ y)).run P w = .ok r w ∧ P.eqGuardType P.depth t = false := by
        intro r he
        exact ⟨eqA_run (P := P) (w := w) hT 9992 8 t _ _ r _ _ he (by rw [← hxe]; exact hx) (by rw [← hye]; exact hy), eqA_guard hT 8 _ t _ _ r he hT.deep⟩
      rw [hxe] at hx; rw [hye] at hy
      simp only [RepA] at hx hy
      obtain ⟨us, ex, _⟩ := hx
      obtain ⟨vs, ey, _⟩ := hy
      rw [ex, ey] at key
      split at hr
      · cases he : eqA T 8 t (.agg xs) (.agg ys) with
        | none => simp [he] at hr
        | some r =>
        simp only [he, Option.bind_some, R.pure, Option.some.injEq, R.mk.injEq] at hr
        obtain ⟨_, rfl, rfl⟩ := hr
        obtain ⟨k1, k2⟩ := key r he
        exact Done.pure cx (u := .bool r) (execv _ (by simp [ex, ey, run_eqGuard_agg _ _ _ _ _ _ _ k2, run_eql_struct, k1])) (by simp only [RepA, RepD])
      · cases he : eqA T 8 t (.agg xs) (.agg ys) with
        | none => simp [he] at hr
        | some r =>
        simp only [he, Option.bind_some, R.pure, Option.some.injEq, R.mk.injEq] at hr
        obtain ⟨_, rfl, rfl⟩ := hr
        obtain ⟨k1, k2⟩ := key r he
        exact Done.pure cx (u := .bool (!r)) (execv _ (by simp [ex, ey, run_eqGuard_agg _ _ _ _ _ _ _ k2, run_neq_struct, k1])) (by simp only [RepA, RepD])
      · simp at hr
    · rename_i p q hxe hye
      rw [hxe] at hx; rw [hye] at hy
      simp only [RepA, RepD] at hx hy
      have guard : ∀ a b : Operand, (eqGuard op t a b (.bool p) (.bool q)).run P w = .ok () w := by
        intro a b; simp only [eqGuard]; split <;> simp
      split at hr
      · rename_i ti ht
        obtain ⟨ii, d, h1, h2, h3, h4, h5, h6⟩ := tiOf_inv (hT.ti _ _ ht)
        split at hr
        · rename_i hk
          rw [h5] at hk
          cases d <;> simp [kdOf] at hk
          simp only [R.pure, Option.some.injEq, R.mk.injEq] at hr
          obtain ⟨_, rfl, rfl⟩ := hr
          exact Done.pure cx (u := .bool (p == q)) (execv _ (by simp [hx, hy, guard, run_eql_bool _ _ _ _ h2])) (by simp only [RepA, RepD])
        · simp at hr
      · rename_i ti ht
        obtain ⟨ii, d, h1, h2, h3, h4, h5, h6⟩ := tiOf_inv (hT.ti _ _ ht)
        split at hr
        · rename_i hk
          rw [h5] at hk
          cases d <;> simp [kdOf] at hk
          simp only [R.pure, Option.some.injEq, R.mk.injEq] at hr
          obtain ⟨_, rfl, rfl⟩ := hr
          exact Done.pure cx (u := .bool (!(p == q))) (execv _ (by simp [hx, hy, guard, run_neq_bool _ _ _ _ h2])) (by simp only [RepA, RepD])
        · simp at hr
      · simp at hr
    · split at hr
      · rename_i c' d' hb
        simp only [R.when, Option.some.injEq, R.mk.injEq] at hr
        obtain ⟨rfl, rfl, rfl⟩ := hr
        obtain ⟨u, k1, k2, k3⟩ := binR_run (P := P) (w := w) hb hc hx hy t
        exact Done.pure cx (execv _ (x := u) (by simp [k1, k3])) (by simpa [RepA] using k2)
      · simp at hr
  · -- unOp
    rename_i op t x
    have hx := hρ x (by simp [Op.operands])
    cases hu : unR op (ev x) with
    | none => simp [hu] at hr
    | some d' =>
    simp only [hu, Option.bind_some, R.pure, Option.some.injEq, R.mk.injEq] at hr
    obtain ⟨_, rfl, rfl⟩ := hr
    obtain ⟨u, k1, k2⟩ := unR_run (P := P) (w := w) hu hx
    exact Done.pure cx (execv _ k1) (by simpa [RepA] using k2)
  · -- convert
    rename_i s d' x
    obtain ⟨rfl, u, w', k1, k2, k3, k4⟩ := convR_done (P := P) hT cx (hρ x (by simp [Op.operands])) hr hc
    exact ⟨β, w', k2, k3, .inl ⟨u, execv _ k1, k4⟩⟩
  · -- slice
    rename_i t x lo hi mx
    split at hr
    · rename_i l h m hl hh hm
      obtain ⟨u, k1, k2, k3, k4⟩ := sliceR_done (P := P) hT cx (hρ x (by simp [Op.operands])) (bnd_bv hl (fun y hy => hρ y (by simp [Op.operands, hy]))) (bnd_bv hh (fun y hy => hρ y (by simp [Op.operands, hy])))
        (bnd_bv hm (fun y hy => hρ y (by simp [Op.operands, hy]))) hr hc
      exact ⟨β, w, k2, k3, .inl ⟨u, execv _ k1, k4⟩⟩
    · simp at hr
  · -- makeFunc
    rename_i f first caps
    cases he : first.toList.isEmpty with
    | false => simp [he] at hr
    | true =>
    simp only [he, cond_true, R.pure, Option.some.injEq, R.mk.injEq] at hr
    obtain ⟨_, rfl, rfl⟩ := hr
    have hf : first = #[] := by apply Array.ext'; simpa using he
    subst hf
    refine Done.pure cx (u := .func (.func f) #[] ⟨caps.toList.map ρ⟩) (execv _ ?_) ?_
    · simp [Instr.makeFunc, array_map_list caps ρ]
    · simp only [RepA]
      exact ⟨_, rfl, map_rep _ (fun y hy => hρ y (by simp [Op.operands]; exact by simpa using hy))⟩
  · -- nilCheck
    rename_i x
    have hx := hρ x (by simp [Op.operands])
    split at hr
    · rename_i b' off he
      simp only [R.pure, Option.some.injEq, R.mk.injEq] at hr
      obtain ⟨_, rfl, rfl⟩ := hr
      rw [he] at hx
      have hx' := hx
      simp only [RepA] at hx'
      exact Done.pure cx (u := ρ x) (by simp [execOp, hx'.1]) hx
    · rename_i b' s i j he
      simp only [R.pure, Option.some.injEq, R.mk.injEq] at hr
      obtain ⟨_, rfl, rfl⟩ := hr
      rw [he] at hx
      have hx' := hx
      simp only [RepA] at hx'
      exact Done.pure cx (u := ρ x) (by simp [execOp, hx'.1]) hx
    · rename_i ds he
      simp only [R.pure, Option.some.injEq, R.mk.injEq] at hr
      obtain ⟨_, rfl, rfl⟩ := hr
      rw [he] at hx
      have hx' := hx
      simp only [RepA] at hx'
      obtain ⟨blk, off, e, _⟩ := hx'
      exact Done.pure cx (u := ρ x) (by simp [execOp, e]) hx
    · rename_i f cs he
      simp only [R.pure, Option.some.injEq, R.mk.injEq] at hr
      obtain ⟨_, rfl, rfl⟩ := hr
      rw [he] at hx
      have hx' := hx
      simp only [RepA] at hx'
      obtain ⟨vs, e, _⟩ := hx'
      exact Done.pure cx (u := ρ x) (by simp [execOp, e]) hx
    · simp at hr
  · -- a builtin
    rename_i b' args ats
    obtain ⟨r, w', β', k1, k2, k3, k4⟩ := builtinR_done (P := P) hT cx (map_rep args.toList (fun y hy => hρ y (by simp [Op.operands, Call.operands]; exact by simpa using hy))) hr hc type
      (args.map fun | .const _ => true | _ => false)
    refine ⟨β', w', k2, k3, .inl ⟨r, ?_, k4⟩⟩
    simp only [execOp, resolve, Sem.run_bind, Sem.run_pure, Result.andThen_ok, invoke, array_map_list args ρ]
    exact k1
  · simp at hr

end
end Dem
