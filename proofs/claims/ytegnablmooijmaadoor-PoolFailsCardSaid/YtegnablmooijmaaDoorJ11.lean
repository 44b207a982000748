/- JOINED TEXTS: Abs13, Abs14. -/
import Derived.Test.YtegnablmooijmaaDoorJ10
import Derived.WalkSpells
import Derived.Lib.LazyBuf
import Derived.Deep.LoopGhost
set_option linter.unusedSimpArgs false
set_option linter.unusedVariables false
section
/- THE CALCULUS: FRAMES, AND ONE STEP. -/
open Go
namespace Dem
section
variable {P : Program} {T : Nat → Option TI} {G : Nat → Option (List D)} {N : Nat} {ds : List Deferred} {β : Nat → Nat} {bx : List Box} {w : World} {X : Nat → Prop}

/-- a frame of the model, and the symbolic state it stands for -/
structure Fr (G : Nat → Option (List D)) (N : Nat) (ds : List Deferred) (β : Nat → Nat) (w : World) (X : Nat → Prop) (s : St) (a : Act) : Prop where
  cx : Ctx G β s.bx w X
  defers : a.defers = ds
  size : a.tmps.size = N
  rep : ∀ t, RepA β s.bx w (okp β s.bx w X) (lok t s.sl) (a.tmps.getD t undef)

theorem nbf {n m : Nat} (h : n ≠ m) : Nat.beq n m = false := by
  cases hb : Nat.beq n m with
  | false => rfl
  | true => exact absurd (Nat.eq_of_beq_eq_true hb) h

theorem lok_put (t u : Nat) (v : AV) : ∀ sl : List (Nat × AV), lok t (put u v sl) = if t = u then v else lok t sl
  | [] => by
    simp only [put, lok]
    by_cases h : t = u
    · simp [h]
    · have : Nat.beq t u = false := nbf h
      simp [this, h]
  | (k, x) :: r => by
    simp only [put]
    by_cases hk : u = k
    · subst hk
      have hb : Nat.beq u u = true := by simp
      simp only [hb, cond_true, lok]
      by_cases h : t = u
      · simp [h]
      · have : Nat.beq t u = false := nbf h
        simp [this, h]
    · have hb : Nat.beq u k = false := nbf hk
      simp only [hb, cond_false, lok, lok_put t u v r]
      by_cases h : t = k
      · subst h
        have : t ≠ u := fun e => hk e.symm
        simp [this]
      · have : Nat.beq t k = false := nbf h
        simp [this]

variable {s : St} {a : Act}

theorem Fr.eval (hF : Fr G N ds β w X s a) (x : Operand) : RepA β s.bx w (okp β s.bx w X) (opd G s.sl x) (a.eval x) := by
  cases x with
  | tmp t => exact hF.rep t
  | const v => exact absV_rep v
  | global g =>
    simp only [opd]
    split
    · rename_i ds hg
      obtain ⟨h1, h2⟩ := hF.cx.glob g ds hg
      simp only [RepA]; exact ⟨g, 0, rfl, h1, h2⟩
    · simp [RepA]
  | func f => simp only [opd, RepA]; exact ⟨[], rfl, by simp [RepAs]⟩

theorem strip_rep {ok : Nat → Prop} {x : AV} {v : Value} (h : RepA β bx w ok x v) (hk : x.ok) : RepA β bx w ok x.strip v := by
  cases x with
  | cond p y => simp only [RepA] at h; exact h.1 hk
  | _ => exact h

theorem okAll_mem {sl : List (Nat × AV)} : ∀ {xs : List Operand}, okAll (opds G sl xs) → ∀ x ∈ xs, (opd G sl x).ok
  | [], _, x, hx => by simp at hx
  | y :: ys, h, x, hx => by
    simp only [opds, List.map_cons, okAll] at h
    rcases List.mem_cons.1 hx with rfl | hx
    · exact h.1
    · exact okAll_mem h.2 x hx

theorem Fr.put (hF : Fr G N ds β w X s a) {β' : Nat → Nat} {bx' : List Box} {w' : World} (ex : Ext β s.bx w β' bx' w') (cx' : Ctx G β' bx' w' X) {dst : Option Nat} (hd : dstOk N dst = true)
    {v : AV} {u : Value} (hv : RepA β' bx' w' (okp β' bx' w' X) v u) : Fr G N ds β' w' X ⟨put1 dst v s.sl, bx'⟩ (a.put dst u) := by
  cases dst with
  | none => exact ⟨cx', hF.defers, hF.size, fun t => RepA.mono (ex.lasts X) _ _ (hF.rep t)⟩
  | some d =>
    have hd' : d < N := by simpa [dstOk, Nat.blt_eq] using hd
    refine ⟨cx', hF.defers, by simp [Act.put, hF.size], ?_⟩
    intro t
    simp only [put1, lok_put, Act.put]
    by_cases h : t = d
    · subst h
      simp [Array.getD, hF.size, hd', hv]
    · rw [if_neg h]
      have : (a.tmps.setIfInBounds d u).getD t undef = a.tmps.getD t undef := by
        simp [Array.getD_eq_getD_getElem?, Array.getElem?_setIfInBounds_ne (Ne.symm h)]
      rw [this]
      exact RepA.mono (ex.lasts X) _ _ (hF.rep t)

/-- what a step may hand on -/
def Hands (G : Nat → Option (List D)) (β : Nat → Nat) (bx : List Box) (w : World) (X : Nat → Prop) (a : Act) (dst : Option Nat) (K : AV → List Box → Prop) (next : Act → World → Prop) : Prop :=
  ∀ β' bx' w' v u, Ext β bx w β' bx' w' → Ctx G β' bx' w' X → RepA β' bx' w' (okp β' bx' w' X) v u → K v bx' → next (a.put dst u) w'

def HandsP (G : Nat → Option (List D)) (β : Nat → Nat) (bx : List Box) (w : World) (X : Nat → Prop) (a : Act) (K : AV → List Box → Prop) (Qc : Exit → Act → World → Prop) : Prop :=
  ∀ β' bx' w' v u, Ext β bx w β' bx' w' → Ctx G β' bx' w' X → RepA β' bx' w' (okp β' bx' w' X) v u → K v bx' → Qc (.panic [{ v := u, recovered := false }]) a w'

theorem upon_done {o : Oper} {next : Act → World → Prop} {Qc : Exit → Act → World → Prop} {r : Result Next} {v : AV} {bx' : List Box} {K : AV → List Box → Prop} (h : Done G β bx w X r v bx') (hK : K v bx')
    (hn : Hands G β bx w X a o.dst K next) : o.upon P a next Qc r := by
  obtain ⟨β', w', ex, cx, ⟨u, rfl, hv⟩ | ⟨rfl, rfl⟩⟩ := h
  · exact hn β' bx' w' v u ex cx hv hK
  · exact hn β' bx' w' .any undef ex cx (by simp [RepA]) hK

theorem callF_upon {o : Oper} {next : Act → World → Prop} {Qc : Exit → Act → World → Prop} {f : Nat} {vs : Array Value} {R : Ending → World → Prop} (h : CallF P f vs w R)
    (hr : ∀ v w', R (.returned v) w' → next (a.put o.dst v) w') (hp : ∀ ch w', R (.panicked ch) w' → Qc (.panic ch) a w') (ho : ∀ w', R .outgrown w' → False) :
    o.upon P a next Qc ((callFunc f vs).run P w) := by
  rcases h with ⟨h1, h2⟩ | ⟨v, w', h1, h2⟩
  · rw [h1, Oper.upon_enter]
    refine Calls.mono h2 ?_
    intro e w' he
    cases e with
    | returned v => exact hr v w' he
    | panicked ch => exact hp ch w' he
    | outgrown => exact (ho w' he).elim
  · rw [h1]; exact hr v w' h2

/-- how a value that is a function is called -/
theorem run_callVal {o : Oper} {f : Operand} {args : Array Operand} {ats : Array TypeId} (ho : o.op = .call { callee := .value f, args := args, argTypes := ats }) {i : Nat} {cs : List Value} (hf : a.eval f = .func (.func i) #[] ⟨cs⟩) :
    (execOp a.eval o).run P w = (callFunc i ⟨args.toList.map a.eval ++ cs⟩).run P w := by
  have e : args.map a.eval ++ ⟨cs⟩ = (⟨args.toList.map a.eval ++ cs⟩ : Array Value) := by apply Array.ext'; simp
  simp [execOp, ho, resolve, hf, Deferred.ofValue, invoke, ← e]

theorem calls_gen {f : Nat} {args : List AV} {vs : List Value} {K Kp : AV → List Box → Prop} (cx : Ctx G β bx w X) (hx : RepAs β bx w (okp β bx w X) args vs)
    (h : CallGen (FCalls P G) f args bx K Kp) :
    CallF P f ⟨vs⟩ w fun e w' => ∃ β' bx' v u, Ext β bx w β' bx' w' ∧ Ctx G β' bx' w' X ∧ RepA β' bx' w' (okp β' bx' w' X) v u ∧
      ((e = .returned u ∧ K v bx') ∨ (e = .panicked [{ v := u, recovered := false }] ∧ Kp v bx')) := by
  obtain ⟨args', bx1, res, bx2, hz, hf, hK⟩ := h
  obtain ⟨e1, c1, r1⟩ : Ext β bx w β bx1 w ∧ Ctx G β bx1 w X ∧ RepAs β bx1 w (okp β bx1 w X) args' vs := by
    rcases hz with ⟨rfl, rfl⟩ | ⟨hz, rfl⟩
    · exact ⟨Ext.refl _ _ _, cx, hx⟩
    · exact frzs_seal args bx args' vs cx hz hx
  refine CallF.mono (hf β w vs X c1 r1) ?_
  rintro e w' ⟨β', ex, cx', hr⟩
  cases e with
  | returned u =>
    cases res with
    | ret v => exact ⟨β', bx2, v, u, e1.trans ex, cx', hr, .inl ⟨rfl, hK⟩⟩
    | pan v => exact hr.elim
  | panicked ch =>
    cases res with
    | ret v => exact hr.elim
    | pan v =>
      obtain ⟨u, rfl, hu⟩ := hr
      exact ⟨β', bx2, v, u, e1.trans ex, cx', hu, .inr ⟨rfl, hK⟩⟩
  | outgrown => cases res <;> exact hr.elim

theorem fnArgs_rep {ok : Nat → Prop} {x : AV} {args as : List AV} {i : Nat} {v : Value} {vs : List Value} (h : fnArgs x args = some (i, as)) (hx : RepA β bx w ok x v) (hv : RepAs β bx w ok args vs) :
    ∃ cs, v = .func (.func i) #[] ⟨cs⟩ ∧ RepAs β bx w ok as (vs ++ cs) := by
  unfold fnArgs at h
  split at h
  · simp only [Option.some.injEq, Prod.mk.injEq] at h
    obtain ⟨rfl, rfl⟩ := h
    simp only [RepA] at hx
    obtain ⟨cs, rfl, hc⟩ := hx
    exact ⟨cs, rfl, RepAs.append hv hc⟩
  · simp only [Option.some.injEq, Prod.mk.injEq] at h
    obtain ⟨rfl, rfl⟩ := h
    simp only [RepA, RepD] at hx
    exact ⟨[], hx, by simpa using hv⟩
  · cases h

theorem idx_done (hT : TOk P T) (_cx : Ctx G β bx w X) {t : Nat} {x i : AV} {u z : Value} {c : Prop} {ds : List D} (hr : idxR T t x i = some (c, ds)) (hc : c)
    (hx : RepA β bx w (okp β bx w X) x u) (hi : RepA β bx w (okp β bx w X) i z) :
    ∃ r, (Instr.indexAt t u z).run P w = .ok r w ∧ RepA β bx w (okp β bx w X) (.ep ds) r := by
  have fin : ∀ (e : Nat) (te : TI) (k : IntKind) (n : Int) (es : List (List D)) (base : Option Addr) (cap : Nat), P.underlying t = some (.slice e) → T e = some te → z = .int k n → u = .slice base es.length cap →
      (es = [] ∨ ∃ blk off sz, base = some ⟨blk, off, none⟩ ∧ okp β bx w X blk ∧ RepRows w (okp β bx w X) blk sz es off) →
      (0 ≤ n ∧ n < es.length ∧ (∀ r ∈ es, r.length = te.size)) → ds = es.getD n.toNat [] → ∃ r, (Instr.indexAt t u z).run P w = .ok r w ∧ RepA β bx w (okp β bx w X) (.ep ds) r := by
    rintro e te k n es base cap hu hte rfl rfl hes ⟨h1, h2, h3⟩ rfl
    obtain ⟨ei, ed, g1, g2, g3, g4, g5, g6⟩ := tiOf_inv (hT.ti _ _ hte)
    rcases hes with rfl | ⟨blk, off, sz, rfl, hb, hrows⟩
    · simp at h2; omega
    · have hn : n.toNat < es.length := by omega
      obtain ⟨l1, l2⟩ := RepRows.get n.toNat es off hrows hn
      have hsz : te.size = sz := by
        rw [← l1]
        have hm : es.getD n.toNat [] ∈ es := by
          simp only [List.getD_eq_getElem?_getD, List.getElem?_eq_getElem hn, Option.getD_some]
          exact List.getElem_mem hn
        exact (h3 _ hm).symm
      refine ⟨.pointer (some ⟨blk, off + n.toNat * sz, none⟩), ?_, ?_⟩
      · simp [Instr.indexAt, asIntOf, run_und hu, h1, h2, run_size g1, addr_add, ← g3, hsz]
      · simp only [RepA]; exact ⟨blk, _, rfl, hb, l2⟩
  unfold idxR at hr
  cases ht : T t with
  | none => simp [ht] at hr
  | some ti =>
  obtain ⟨ii, d, h1, h2, h3, h4, h5, h6⟩ := tiOf_inv (hT.ti _ _ ht)
  simp only [ht, h5] at hr
  split at hr
  · rename_i e es k n hk
    cases d <;> simp [kdOf] at hk
    subst hk
    split at hr
    · rename_i te hte
      simp only [Option.some.injEq, Prod.mk.injEq] at hr
      obtain ⟨rfl, rfl⟩ := hr
      simp only [RepA, RepD] at hx hi
      obtain ⟨base, cap, e1, _, e2⟩ := hx
      exact fin _ te k n es base cap h2 hte hi e1 e2 hc rfl
    · simp at hr
  · rename_i e es k n hk
    cases d <;> simp [kdOf] at hk
    subst hk
    split at hr
    · rename_i te hte
      simp only [Option.some.injEq, Prod.mk.injEq] at hr
      obtain ⟨rfl, rfl⟩ := hr
      simp only [RepA, RepD] at hx hi
      obtain ⟨base, e1, e2⟩ := hx
      exact fin _ te k n es base _ h2 hte hi e1 e2 hc rfl
    · simp at hr
  · simp at hr

theorem pick_rep {ok : Nat → Prop} {p : Bool} {x y : AV} {u v : Value} (hx : p = true → RepA β bx w ok x u) (hy : p = false → RepA β bx w ok y v) : RepA β bx w ok (pickV p x y) (if p then u else v) := by
  unfold pickV
  split
  · cases p
    · simpa [RepA, RepD] using hy rfl
    · simpa [RepA, RepD] using hx rfl
  · simp [RepA]

/-- a box that holds a place in a string -/
theorem ext_setit {b : Nat} {str : List UInt8} {pos pos' : Nat} (hb : bx[b]? = some (.it str pos)) (hh : w.heap[β b]? = some (.stringIter ⟨str.toArray⟩ pos)) :
    Ext β bx w β (bx.set b (.it str pos')) { w with heap := w.heap.setIfInBounds (β b) (.stringIter ⟨str.toArray⟩ pos') } := by
  have hlt := heap_lt hh
  refine ⟨rfl, rfl, rfl, by simp, ?_, ?_, fun i hi => ⟨rfl, bornAt_set rfl hi⟩, ?_⟩
  · intro k hk hl
    have hne : β b ≠ k := hl b _ hb rfl
    simp [Array.getElem?_setIfInBounds_ne hne]
  · intro k c e f hk
    have hne : β b ≠ k := by rintro rfl; rw [hh] at hk; cases hk
    exact ⟨c, by simp [Array.getElem?_setIfInBounds_ne hne, hk], rfl⟩
  · intro i B hi hl
    rcases get_set_inv hi with ⟨rfl, _, _⟩ | ⟨_, h⟩
    · exact .inr ⟨i, _, hb, rfl, rfl⟩
    · exact .inr ⟨i, B, h, hl, rfl⟩

theorem ctx_setit (cx : Ctx G β bx w X) {b : Nat} {str : List UInt8} {pos pos' : Nat} (hb : bx[b]? = some (.it str pos)) (hh : w.heap[β b]? = some (.stringIter ⟨str.toArray⟩ pos)) :
    Ctx G β (bx.set b (.it str pos')) { w with heap := w.heap.setIfInBounds (β b) (.stringIter ⟨str.toArray⟩ pos') } X := by
  refine cx.step (ext_setit hb hh) ?_ ?_
  · intro i B hi
    rcases get_set_inv hi with ⟨rfl, rfl, _⟩ | ⟨hne, h⟩
    · refine .inr ?_
      simp only [BoxOk]
      simp [heap_lt hh]
    · refine .inl ⟨h, fun hl => ?_⟩
      have hne' : β b ≠ β i := fun he => hne (cx.inj b i _ B hb h rfl hl he).symm
      simp [Array.getElem?_setIfInBounds_ne hne']
  · intro i j bi bj hi hj hli hlj he
    rcases get_set_inv hi with ⟨rfl, rfl, _⟩ | ⟨h1, h2⟩ <;> rcases get_set_inv hj with ⟨rfl, rfl, _⟩ | ⟨h3, h4⟩
    · rfl
    · exact cx.inj _ _ _ _ hb h4 rfl hlj he
    · exact cx.inj _ _ _ _ h2 hb hli rfl he
    · exact cx.inj _ _ _ _ h2 h4 hli hlj he

theorem nilE_rep {ok : Nat → Prop} {x : AV} {emp : Prop} {u : Value} (h : nilE x = some emp) (hx : RepA β bx w ok x u) : ∃ a n c, u = .slice a n c ∧ (a.isNone = true → emp) := by
  unfold nilE at h
  split at h
  · simp only [Option.some.injEq] at h; subst h
    simp only [RepA, RepD] at hx
    obtain ⟨base, cap, rfl, _, h3⟩ := hx
    refine ⟨_, _, _, rfl, fun hb => ?_⟩
    rcases h3 with h3 | ⟨_, _, _, rfl, _⟩
    · exact h3
    · simp at hb
  · simp only [Option.some.injEq] at h; subst h
    simp only [RepA] at hx
    obtain ⟨base, rfl, h3⟩ := hx
    refine ⟨_, _, _, rfl, fun hb => ?_⟩
    rcases h3 with h3 | ⟨_, _, _, rfl, _⟩
    · exact h3
    · simp at hb
  · simp only [Option.some.injEq] at h; subst h
    simp only [RepA] at hx
    obtain ⟨_, ⟨h1, base, rfl⟩ | ⟨h1, cap, c, e, f, rfl, _⟩⟩ := hx
    · exact ⟨_, _, _, rfl, fun _ => h1⟩
    · exact ⟨_, _, _, rfl, fun hb => by simp at hb⟩
  · simp at h

theorem run_eql_sn (t e : TypeId) (a : Option Addr) (n c : Nat) (h : P.underlying t = some (.slice e)) : (Go.binOp .eql t (.slice a n c) (.slice none 0 0)).run P w = .ok (.bool a.isNone) w := by
  simp only [Go.binOp]
  simp [Op.equal, Op.maxDepth, Lib.run_equalIn_slice_nil w 9999 t e a n c 0 0 h]

theorem run_neq_sn (t e : TypeId) (a : Option Addr) (n c : Nat) (h : P.underlying t = some (.slice e)) : (Go.binOp .neq t (.slice a n c) (.slice none 0 0)).run P w = .ok (.bool (!a.isNone)) w := by
  simp only [Go.binOp]
  simp [Op.equal, Op.maxDepth, Lib.run_equalIn_slice_nil w 9999 t e a n c 0 0 h]

/-- ONE STEP -/
theorem stepU_sound (hT : TOk P T) (hF : Fr G N ds β w X s a) {o : Oper} {K : AV → List Box → Prop} {Q : Ex → St → Prop} {next : Act → World → Prop} {Qc : Exit → Act → World → Prop}
    (h : stepU (FCalls P G) T G o s K Q) (hn : Hands G β s.bx w X a o.dst K next) (hp : HandsP G β s.bx w X a (fun v bx => Q (.panic v) ⟨[], bx⟩) Qc) : o.wp P a w next Qc := by
  have hev : ∀ x, (opd G s.sl x).ok → RepA β s.bx w (okp β s.bx w X) (opd G s.sl x).strip (a.eval x) := fun x hx => strip_rep (hF.eval x) hx
  unfold stepU at h
  unfold Oper.wp
  split at h
  · -- pick
    rename_i c x y ho
    split at h
    · rename_i p hc
      obtain ⟨⟨h1, h2, h3⟩, hK⟩ := h
      have hc' := hev c h1
      rw [hc] at hc'; simp only [RepA, RepD] at hc'
      refine upon_done (v := _) (bx' := s.bx) (Done.pure (u := if p then a.eval x else a.eval y) hF.cx ?_ (pick_rep (fun hp => hev x (h2 hp)) (fun hp => hev y (h3 hp)))) hK hn
      simp [execOp, ho, hc', asBool]
    · exact h.elim
  · -- a call
    rename_i f args ats ho
    split at h
    · rename_i i as hfa
      obtain ⟨⟨h1, h2⟩, h⟩ := h
      obtain ⟨cs, e1, e2⟩ := fnArgs_rep hfa (hev f h1) (map_rep args.toList (fun y hy => hev y (okAll_mem h2 y hy)))
      rw [run_callVal ho e1]
      rcases h with h | h
      · refine callF_upon (calls_shut hF.cx e2 h) ?_ ?_ ?_
        · rintro v w' ⟨β', bx', v', u, e, ex, cx, hv, hK⟩
          cases e
          exact hn β' bx' w' v' v ex cx hv hK
        · rintro ch w' ⟨_, _, _, _, e, _⟩; cases e
        · rintro w' ⟨_, _, _, _, e, _⟩; cases e
      · refine callF_upon (calls_gen hF.cx e2 h) ?_ ?_ ?_
        · rintro v w' ⟨β', bx', v', u, ex, cx, hv, ⟨e, hK⟩ | ⟨e, _⟩⟩
          · cases e; exact hn β' bx' w' v' v ex cx hv hK
          · cases e
        · rintro ch w' ⟨β', bx', v', u, ex, cx, hv, ⟨e, _⟩ | ⟨e, hK⟩⟩
          · cases e
          · cases e; exact hp β' bx' w' v' u ex cx hv hK
        · rintro w' ⟨_, _, _, _, _, _, _, ⟨e, _⟩ | ⟨e, _⟩⟩ <;> cases e
    · exact h.elim
  · -- panic
    rename_i x ho
    split at h
    · rename_i t v hx
      obtain ⟨h1, h2⟩ := h
      have hx' := hev x h1
      rw [hx] at hx'
      have hx2 := hx'
      simp only [RepA] at hx2
      obtain ⟨u, e, _⟩ := hx2
      have hr : (execOp a.eval o).run P w = .halt (.panic (a.eval x)) w := by
        simp [execOp, ho, e, Instr.panic, goPanic, Sem.run]
      rw [hr, Oper.upon_panic]
      exact hp β s.bx w _ _ (Ext.refl _ _ _) hF.cx hx' h2
    · exact h.elim
  · -- along a string
    rename_i t x ho
    cases ht : T t with
    | none => simp [ht] at h
    | some ti =>
    obtain ⟨i, d, h1, h2, h3, h4, h5, h6⟩ := tiOf_inv (hT.ti _ _ ht)
    simp only [ht, h5] at h
    split at h
    · rename_i str hk hx
      obtain ⟨k1, k2⟩ := h
      cases d <;> simp [kdOf] at hk
      have hx' := hev x k1
      rw [hx] at hx'; simp only [RepA, RepD] at hx'
      refine upon_done (v := .ptr s.bx.length 0) (bx' := s.bx ++ [.it str 0]) ⟨upd β s.bx.length w.heap.size, { w with heap := w.heap.push (.stringIter ⟨str.toArray⟩ 0) }, ext_pushbox _ _, ctx_pushbox hF.cx (.stringIter ⟨str.toArray⟩ 0) (.it str 0) (by simp only [BoxOk]; exact push_new _ _), .inl ⟨.pointer (some ⟨w.heap.size, 0, none⟩), ?_, ?_⟩⟩ k2 hn
      · simp only [execOp, ho]
        exact execv _ (by rw [hx']; simp [Instr.range, run_und h2, newObj, Sem.run])
      · simp only [RepA, upd_same]; exact ⟨trivial, .it str 0, by simp, rfl⟩
    · exact h.elim
  · rename_i it ho
    split at h
    · rename_i b hx
      split at h
      · rename_i str pos hb
        obtain ⟨k1, ⟨k2, k3⟩⟩ := h
        have hx' := hev it k1
        rw [hx] at hx'; simp only [RepA] at hx'
        obtain ⟨hx', _⟩ := hx'
        have hheap := hF.cx.box b _ hb
        simp only [BoxOk] at hheap
        have hsz : (⟨str.toArray⟩ : ByteArray).size = str.length := by show str.toArray.size = _; simp
        by_cases hp : pos < str.length
        · refine upon_done (v := _) (bx' := _) ⟨β, { w with heap := w.heap.setIfInBounds (β b) (.stringIter ⟨str.toArray⟩ (pos + (Utf8.decode ⟨str.toArray⟩ pos).2)) }, ?_, ?_, .inl ⟨.tuple #[.bool true, .int .i64 pos, .int .i32 (Utf8.decode ⟨str.toArray⟩ pos).1], ?_, ?_⟩⟩ (k2 hp) hn
          · exact ext_setit hb hheap
          · exact ctx_setit hF.cx hb hheap
          · simp only [execOp, ho]
            exact execv _ (by rw [hx']; simp [Instr.next, getObj, setObj, Sem.run, hheap, hsz, hp, goInt])
          · simp only [RepA, RepAs, RepD]; exact ⟨_, rfl, _, _, rfl, rfl, _, _, rfl, rfl, _, _, rfl, rfl, rfl⟩
        · refine upon_done (v := _) (bx' := s.bx) (Done.pure (u := .tuple #[.bool false]) hF.cx ?_ ?_) (k3 hp) hn
          · simp only [execOp, ho]
            exact execv _ (by rw [hx']; simp [Instr.next, getObj, Sem.run, hheap, hsz, hp])
          · simp only [RepA, RepAs, RepD]; exact ⟨_, rfl, _, _, rfl, rfl, rfl⟩
      · exact h.elim
    · exact h.elim
  · -- is a slice nil?
    rename_i ty x t2 ho
    split at h
    · rename_i ti emp ht he
      split at h
      · rename_i e hk
        obtain ⟨i, d, h1, h2, h3, h4, h5, h6⟩ := tiOf_inv (hT.ti _ _ ht)
        obtain ⟨k1, ⟨k2⟩⟩ := h
        rw [h5] at hk; cases d <;> simp [kdOf] at hk
        obtain ⟨a', n, c, hu, hemp⟩ := nilE_rep he (hev x k1)
        refine upon_done (v := .d (.bool a'.isNone)) (bx' := s.bx) (Done.pure (u := .bool a'.isNone) hF.cx ?_ (by simp only [RepA, RepD])) (k2 _ hemp) hn
        simp only [execOp, ho]
        exact execv _ (by simp [hu, eqGuard, show a.eval (Operand.const (Value.slice none 0 0)) = Value.slice none 0 0 from rfl, run_eql_sn (w := w) _ _ _ _ _ h2])
      · exact h.elim
    · exact h.elim
  · rename_i ty x t2 ho
    split at h
    · rename_i ti emp ht he
      split at h
      · rename_i e hk
        obtain ⟨i, d, h1, h2, h3, h4, h5, h6⟩ := tiOf_inv (hT.ti _ _ ht)
        obtain ⟨k1, ⟨k2⟩⟩ := h
        rw [h5] at hk; cases d <;> simp [kdOf] at hk
        obtain ⟨a', n, c, hu, hemp⟩ := nilE_rep he (hev x k1)
        refine upon_done (v := .d (.bool (!a'.isNone))) (bx' := s.bx) (Done.pure (u := .bool (!a'.isNone)) hF.cx ?_ (by simp only [RepA, RepD])) (k2 _ hemp) hn
        simp only [execOp, ho]
        exact execv _ (by simp [hu, eqGuard, show a.eval (Operand.const (Value.slice none 0 0)) = Value.slice none 0 0 from rfl, run_neq_sn (w := w) _ _ _ _ _ h2])
      · exact h.elim
    · exact h.elim
  · -- a map is made
    rename_i ty ho
    split at h
    · rename_i ti ht
      split at h
      · rename_i mk me hk
        split at h
        · rename_i te hte
          refine upon_done (v := .mpb s.bx.length) (bx' := s.bx ++ [.mp te.kd.isAgg []]) ⟨upd β s.bx.length w.heap.size, { w with heap := w.heap.push (.map #[] 0) }, ext_pushbox _ _, ctx_pushbox hF.cx (.map #[] 0) (.mp te.kd.isAgg []) ⟨#[], 0, push_new _ _, ⟨by simp, by simp⟩, by simp [RepEnts]⟩, .inl ⟨.map (some w.heap.size), ?_, ?_⟩⟩ h hn
          · simp only [execOp, ho]
            exact execv _ (by simp [Instr.makeMap, newObj, Sem.run])
          · simp only [RepA, upd_same]; exact ⟨trivial, .mp te.kd.isAgg [], by simp, rfl⟩
        · exact h.elim
      · exact h.elim
    · exact h.elim
  · -- a map is looked into
    rename_i ty m k cok ho
    split at h
    · rename_i tk te ag es kd hm hk
      obtain ⟨o', hg, hK⟩ := h
      obtain ⟨⟨⟨k1, k2⟩, hf⟩, rfl⟩ := hg rfl
      have hkv := hev k k2
      rw [hk] at hkv; simp only [RepA] at hkv
      obtain ⟨v, x, g1, g2, g3⟩ := lookup_rep hT hF.cx hm (hev m k1) hkv hf hK
      refine upon_done (v := v) (bx' := s.bx) (Done.pure (u := x) hF.cx ?_ g2) g3 hn
      simp only [execOp, ho]
      exact execv _ g1
    · exact h.elim
  · -- a map is written
    rename_i ty m k x ho
    split at h
    · rename_i b tk te ag es kd vs hm hk hc
      split at h
      · rename_i dsv hn1 hd1
        obtain ⟨⟨⟨k1, k2, k3⟩, hf, _, ha⟩, hK⟩ := h
        have hkv := hev k k2
        rw [hk] at hkv; simp only [RepA] at hkv
        obtain ⟨w', g1, g2, g3⟩ := update_done hT hF.cx hm (hev m k1) hkv (hev x k3) hc hn1 hd1 hf ha
        refine upon_done (v := .any) (bx' := _) ⟨β, w', g2, g3, .inr ⟨?_, rfl⟩⟩ hK hn
        simp only [execOp, ho]
        simp [g1]
      · exact h.elim
    · exact h.elim
  · -- another operation
    rename_i op e1 e2 e3 e4 e5 e6 e7 e8 e9 e10
    split at h
    · rename_i c ds hi
      obtain ⟨ds', hg, hK⟩ := h
      obtain ⟨⟨hk, hc⟩, rfl⟩ := hg rfl
      split at hi
      · rename_i t x i ho
        have ex := okAll_mem hk
        rw [ho] at ex
        obtain ⟨r, k1, k2⟩ := idx_done (P := P) (w := w) hT hF.cx hi hc (hev x (ex x (by simp [Op.operands]))) (hev i (ex i (by simp [Op.operands])))
        refine upon_done (v := _) (bx' := s.bx) (Done.pure hF.cx ?_ k2) hK hn
        simp only [execOp, ho]
        exact execv _ k1
      · simp at hi
    · split at h
      · rename_i c v b hr
        obtain ⟨⟨h1, hc⟩, hK⟩ := h
        exact upon_done (opR_done (P := P) hT hF.cx (ρ := a.eval) (fun x hx => hev x (okAll_mem h1 x hx)) hr hc) hK hn
      · exact h.elim

/-- ONE STEP UNDER A GUARD -/
theorem stepG_sound (hT : TOk P T) (hF : Fr G N ds β w X s a) {o : Oper} {K : AV → Prop} {next : Act → World → Prop} {Qc : Exit → Act → World → Prop}
    (h : stepG (FCalls P G) T G true o s K) (hn : Hands G β s.bx w X a o.dst (fun v bx => K v ∧ bx = s.bx) next) : o.wp P a w next Qc := by
  have hev : ∀ x, (opd G s.sl x).ok → RepA β s.bx w (okp β s.bx w X) (opd G s.sl x).strip (a.eval x) := fun x hx => strip_rep (hF.eval x) hx
  have h := h.resolve_left (fun hh => by simp at hh)
  unfold stepG0 at h
  unfold Oper.wp
  split at h
  · -- pick
    rename_i c x y ho
    split at h
    · rename_i p hc
      obtain ⟨hg, hK⟩ := h
      obtain ⟨h1, h2, h3⟩ := hg rfl
      have hc' := hev c h1
      rw [hc] at hc'; simp only [RepA, RepD] at hc'
      refine upon_done (v := _) (bx' := s.bx) (Done.pure (u := if p then a.eval x else a.eval y) hF.cx ?_ (pick_rep (fun hp => hev x (h2 hp)) (fun hp => hev y (h3 hp)))) ⟨hK, rfl⟩ hn
      simp [execOp, ho, hc', asBool]
    · exact h.elim
  · -- a call
    rename_i f args ats ho
    split at h
    · rename_i i as hfa
      obtain ⟨v, hg, hK⟩ := h
      obtain ⟨⟨h1, h2⟩, hq⟩ := hg rfl
      obtain ⟨cs, e1, e2⟩ := fnArgs_rep hfa (hev f h1) (map_rep args.toList (fun y hy => hev y (okAll_mem h2 y hy)))
      rw [run_callVal ho e1]
      refine callF_upon (calls_quietK (K := fun v bx => K v ∧ bx = s.bx) hF.cx e2 hq ⟨hK, rfl⟩) ?_ ?_ ?_
      · rintro v w' ⟨β', bx', v', u, e, ex, cx, hv, hK⟩
        cases e
        exact hn β' bx' w' v' v ex cx hv hK
      · rintro ch w' ⟨_, _, _, _, e, _⟩; cases e
      · rintro w' ⟨_, _, _, _, e, _⟩; cases e
    · exact h.elim
  · -- another operation
    rename_i op e1 e2
    split at h
    · rename_i c ds hi
      obtain ⟨ds', hg, hK⟩ := h
      obtain ⟨⟨hk, hc⟩, rfl⟩ := hg rfl
      split at hi
      · rename_i t x i ho
        have ex := okAll_mem hk
        rw [ho] at ex
        obtain ⟨r, k1, k2⟩ := idx_done (P := P) (w := w) hT hF.cx hi hc (hev x (ex x (by simp [Op.operands]))) (hev i (ex i (by simp [Op.operands])))
        refine upon_done (v := _) (bx' := s.bx) (Done.pure hF.cx ?_ k2) ⟨hK, rfl⟩ hn
        simp only [execOp, ho]
        exact execv _ k1
      · simp at hi
    · split at h
      · rename_i c v hr
        obtain ⟨hg, hK⟩ := h
        obtain ⟨h1, hc⟩ := hg rfl
        exact upon_done (opR_done (P := P) hT hF.cx (ρ := a.eval) (fun x hx => hev x (okAll_mem h1 x hx)) hr hc) ⟨hK, rfl⟩ hn
      · exact h.elim

/-- what a step under a guard hands on where the guard forbids it -/
theorem stepG_skip {o : Oper} {K : AV → Prop} (h : stepG (FCalls P G) T G false o s K) : ∃ v, K v := by
  rcases h with ⟨_, h⟩ | h
  · exact h
  unfold stepG0 at h
  split at h
  · split at h
    · exact ⟨_, h.2⟩
    · exact h.elim
  · split at h
    · obtain ⟨v, _, hK⟩ := h; exact ⟨v, hK⟩
    · exact h.elim
  · split at h
    · obtain ⟨ds, _, hK⟩ := h; exact ⟨_, hK⟩
    · split at h
      · exact ⟨_, h.2⟩
      · exact h.elim

theorem guardOf_spec (hF : Fr G N ds β w X s a) {ops : Array Oper} {j : Nat} {want g : Bool} (h : guardOf s.sl ops.toList j want = some g) : (yielded ops a.tmps j == some want) = g := by
  unfold guardOf at h
  have hj : ops.toList[j]? = ops[j]? := by simp
  rw [hj] at h
  split at h
  · rename_i o ho
    split at h
    · rename_i t hd
      have hr := hF.rep t
      have hy : ∀ v : Value, a.tmps.getD t undef = v → v ≠ undef → a.tmps[t]? = some v := by
        intro v hv hu
        rw [Array.getD_eq_getD_getElem?] at hv
        cases hq : a.tmps[t]? with
        | none => rw [hq] at hv; simp at hv; exact absurd hv.symm hu
        | some u => rw [hq] at hv; simp at hv; rw [hv]
      unfold yielded
      rw [ho]
      simp only [Option.bind_some, hd]
      split at h
      · rename_i q hq
        rw [hq] at hr; simp only [RepA, RepD] at hr
        simp only [Option.some.injEq] at h; subst h
        rw [hy _ hr (by simp [undef])]
        cases q <;> cases want <;> rfl
      · rename_i p q hq
        rw [hq] at hr; simp only [RepA, RepD] at hr
        simp only [Option.some.injEq] at h; subst h
        cases p with
        | true =>
          rw [hy _ (hr.1 rfl) (by simp [undef])]
          cases q <;> cases want <;> rfl
        | false =>
          have hu := hr.2 rfl
          cases hq2 : a.tmps[t]? with
          | none => simp
          | some u =>
            have : u = undef := by rw [Array.getD_eq_getD_getElem?, hq2] at hu; simpa using hu
            subst this
            simp [undef]
      · simp at h
    · simp at h
  · simp at h

end
end Dem
end
section
/- THE CALCULUS: CODE. -/
open Go
namespace Dem
section
variable {P : Program} {T : Nat → Option TI} {G : Nat → Option (List D)} {N : Nat} {ds : List Deferred} {X : Nat → Prop}

/-- an end of the model that is told in the calculus -/
def Lift (G : Nat → Option (List D)) (N : Nat) (ds : List Deferred) (X : Nat → Prop) (β0 : Nat → Nat) (bx0 : List Box) (w0 : World) (Q : Ex → St → Prop) : Exit → Act → World → Prop
  | .normal, a, w => ∃ β s, Ext β0 bx0 w0 β s.bx w ∧ Fr G N ds β w X s a ∧ Q .normal s
  | .exit id, a, w => ∃ β s, Ext β0 bx0 w0 β s.bx w ∧ Fr G N ds β w X s a ∧ Q (.exit id) s
  | .ret, a, w => ∃ β s, Ext β0 bx0 w0 β s.bx w ∧ Fr G N ds β w X s a ∧ Q .ret s
  | .panic ch, a, w => ∃ β bx v u, ch = [{ v := u, recovered := false }] ∧ Ext β0 bx0 w0 β bx w ∧ Ctx G β bx w X ∧ RepA β bx w (okp β bx w X) v u ∧ a.defers = ds ∧ Q (.panic v) ⟨[], bx⟩
  | _, _, _ => False

variable {β0 : Nat → Nat} {bx0 : List Box} {w0 : World}

theorem Lift.imp {Q Q' : Ex → St → Prop} {e : Exit} {a : Act} {w : World} (h : ∀ e s, Q e s → Q' e s) (hl : Lift G N ds X β0 bx0 w0 Q e a w) : Lift G N ds X β0 bx0 w0 Q' e a w := by
  cases e <;> simp only [Lift] at hl ⊢
  · obtain ⟨β, s, h1, h2, h3⟩ := hl; exact ⟨β, s, h1, h2, h _ _ h3⟩
  · obtain ⟨β, s, h1, h2, h3⟩ := hl; exact ⟨β, s, h1, h2, h _ _ h3⟩
  · obtain ⟨β, s, h1, h2, h3⟩ := hl; exact ⟨β, s, h1, h2, h _ _ h3⟩
  · obtain ⟨β, bx, v, u, h1, h2, h3, h4, h5, h6⟩ := hl; exact ⟨β, bx, v, u, h1, h2, h3, h4, h5, h _ _ h6⟩

theorem stepGC_sound {β : Nat → Nat} {w : World} {s : St} {a : Act} (hF : Fr G N ds β w X s a) {o : Oper} {K : AV → Prop} {next : Act → World → Prop} {Qc : Exit → Act → World → Prop}
    (h : stepGC (FCalls P G) G true o s K) (hn : Hands G β s.bx w X a o.dst (fun v bx => K v ∧ bx = s.bx) next) : o.wp P a w next Qc := by
  have hev : ∀ x, (opd G s.sl x).ok → RepA β s.bx w (okp β s.bx w X) (opd G s.sl x).strip (a.eval x) := fun x hx => strip_rep (hF.eval x) hx
  unfold stepGC at h
  unfold Oper.wp
  split at h
  · rename_i f args ats ho
    split at h
    · rename_i i as hfa
      obtain ⟨v, hg, hK⟩ := h
      obtain ⟨⟨h1, h2⟩, hc⟩ := hg rfl
      obtain ⟨cs, e1, e2⟩ := fnArgs_rep hfa (hev f h1) (map_rep args.toList (fun y hy => hev y (okAll_mem h2 y hy)))
      rw [run_callVal ho e1]
      refine callF_upon (calls_gen (K := fun v bx => K v ∧ bx = s.bx) (Kp := fun _ _ => False) hF.cx e2 ⟨⟨as, s.bx, .ret v, s.bx, .inl ⟨rfl, rfl⟩, hc, hK, rfl⟩⟩) ?_ ?_ ?_
      · rintro v w' ⟨β', bx', v', u, ex, cx, hv, ⟨e, hK⟩ | ⟨e, _⟩⟩
        · cases e; exact hn β' bx' w' v' v ex cx hv hK
        · cases e
      · rintro ch w' ⟨β', bx', v', u, ex, cx, hv, ⟨e, _⟩ | ⟨e, hK⟩⟩
        · cases e
        · exact hK.elim
      · rintro w' ⟨_, _, _, _, _, _, _, ⟨e, _⟩ | ⟨e, _⟩⟩ <;> cases e
    · exact h.elim
  · exact h.elim
theorem stepGC_some {FC : Nat → List AV → List Box → Res → List Box → Prop} {g : Bool} {o : Oper} {s : St} {K : AV → Prop} (h : stepGC FC G g o s K) : ∃ v, K v := by
  unfold stepGC at h
  split at h
  · split at h
    · obtain ⟨v, _, hK⟩ := h; exact ⟨v, hK⟩
    · exact h.elim
  · exact h.elim

theorem opsW_sound (hT : TOk P T) {ops : Array Oper} {Q : Ex → St → Prop} : ∀ (l : List Oper) (β : Nat → Nat) (w : World) (s : St) (a : Act), Ext β0 bx0 w0 β s.bx w → Fr G N ds β w X s a →
    opsW (FCalls P G) T G N ops.toList l Q s → wpList P ops (Lift G N ds X β0 bx0 w0 Q) l a w
  | [], β, w, s, a, ex, hF, h => ⟨β, s, ex, hF, h⟩
  | o :: l, β, w, s, a, ex, hF, h => by
    unfold opsW at h
    cases hd : dstOk N o.dst with
    | false => simp [hd] at h
    | true =>
    simp only [hd, cond_true] at h
    refine wpList_step fun KK hKK => ?_
    split at h
    · rename_i hg
      rw [if_pos (by simp [Region.wanted, hg])]
      refine stepU_sound hT hF h ?_ ?_
      · intro β' bx' w' v u ex' cx' hv hK
        exact hKK _ _ (opsW_sound hT l β' w' ⟨put1 o.dst v s.sl, bx'⟩ _ (ex.trans ex') (hF.put ex' cx' hd hv) hK)
      · intro β' bx' w' v u ex' cx' hv hK
        exact ⟨β', bx', v, u, rfl, ex.trans ex', cx', hv, hF.defers, hK⟩
    · rename_i j want hg
      split at h
      · rename_i g hgo
        have hy := guardOf_spec hF hgo
        cases g with
        | true =>
          rw [if_pos (by simp only [Region.wanted, hg]; exact hy)]
          rcases h with h | h
          case inr =>
            refine stepGC_sound hF h ?_
            rintro β' bx' w' v u ex' cx' hv ⟨hK, rfl⟩
            refine hKK _ _ (opsW_sound hT l β' w' ⟨put1 o.dst (.cond true v) s.sl, s.bx⟩ _ (ex.trans ex') (hF.put ex' cx' hd ?_) hK)
            simp only [RepA]; exact ⟨fun _ => hv, by simp⟩
          refine stepG_sound hT hF h ?_
          rintro β' bx' w' v u ex' cx' hv ⟨hK, rfl⟩
          refine hKK _ _ (opsW_sound hT l β' w' ⟨put1 o.dst (.cond true v) s.sl, s.bx⟩ _ (ex.trans ex') (hF.put ex' cx' hd ?_) hK)
          simp only [RepA]; exact ⟨fun _ => hv, by simp⟩
        | false =>
          rw [if_neg (by simp only [Region.wanted, hg]; rw [hy]; simp)]
          obtain ⟨v, hK⟩ : ∃ v, opsW (FCalls P G) T G N ops.toList l Q ⟨put1 o.dst (.cond false v) s.sl, s.bx⟩ := by
            rcases h with h | h
            · exact stepG_skip h
            · exact stepGC_some h
          refine hKK _ _ (opsW_sound hT l β w ⟨put1 o.dst (.cond false v) s.sl, s.bx⟩ _ ex (hF.put (Ext.refl _ _ _) hF.cx hd ?_) hK)
          simp only [RepA]; simp
      · exact h.elim

/-- what is still to be shown of regions whose order is open -/
def DrawOk (P : Program) (T : Nat → Option TI) (G : Nat → Option (List D)) : Prop :=
  ∀ (N : Nat) (ds : List Deferred) (X : Nat → Prop) (β0 : Nat → Nat) (bx0 : List Box) (w0 : World) (id : Nat) (ops : Array Oper) (Q : Ex → St → Prop) (β : Nat → Nat) (w : World) (s : St) (a : Act),
    Ext β0 bx0 w0 β s.bx w → Fr G N ds β w X s a → drawW (FCalls P G) T G N ops.toList Q s → (Code.region id ops true).wp P (Lift G N ds X β0 bx0 w0 Q) a w

theorem awp_sound (hT : TOk P T) (hD : DrawOk P T G) : ∀ (c : Code) (Q : Ex → St → Prop) (β : Nat → Nat) (w : World) (s : St) (a : Act), Ext β0 bx0 w0 β s.bx w → Fr G N ds β w X s a →
    awp (FCalls P G) T G N c Q s → c.wp P (Lift G N ds X β0 bx0 w0 Q) a w
  | .skip, Q, β, w, s, a, ex, hF, h => wp_skip ⟨β, s, ex, hF, h⟩
  | .region id ops draw, Q, β, w, s, a, ex, hF, h => by
    cases draw with
    | true => exact hD _ _ _ _ _ _ id ops Q β w s a ex hF h
    | false => exact wp_region_list (opsW_sound hT ops.toList β w s a ex hF h)
  | .seq x y, Q, β, w, s, a, ex, hF, h => by
    refine wp_seq (wp_mono (awp_sound hT hD x _ β w s a ex hF h) ?_)
    intro e a' w' hl
    cases e <;> simp only [Lift, thenQ] at hl
    · obtain ⟨β', s', h1, h2, h3⟩ := hl
      exact awp_sound hT hD y Q β' w' s' a' h1 h2 h3
    · exact hl
    · exact hl
    · exact hl
  | .cond c x y, Q, β, w, s, a, ex, hF, h => by
    obtain ⟨h1, ⟨h2⟩⟩ := h
    split at h2
    · rename_i p hc
      have hv := strip_rep (hF.eval c) h1
      rw [hc] at hv
      simp only [RepA, RepD] at hv
      exact wp_cond_split hv (fun hp => awp_sound hT hD x Q β w s a ex hF (h2.1 hp)) (fun hp => awp_sound hT hD y Q β w s a ex hF (h2.2 hp))
    · exact h2.elim
  | .block id c, Q, β, w, s, a, ex, hF, h => by
    refine wp_block (wp_mono (awp_sound hT hD c _ β w s a ex hF h) ?_)
    intro e a' w' hl
    cases e <;> simp only [Lift, Exit.inBlock] at hl ⊢
    · exact hl
    · rename_i j
      by_cases hj : j = id
      · subst hj
        simpa [Lift] using hl
      · have hb : Nat.beq j id = false := nbf hj
        simpa [Lift, hb, hj] using hl
    · exact hl
    · exact hl
  | .loop c, Q, β, w, s, a, ex, hF, h => by
    obtain ⟨I, n, hI, hround⟩ := h
    refine wp_loop_ghost (fun n a w => ∃ β s, Ext β0 bx0 w0 β s.bx w ∧ Fr G N ds β w X s a ∧ I n s) n ⟨β, s, ex, hF, hI⟩ ?_
    rintro n a w ⟨β, s, ex, hF, hI⟩
    refine wp_mono (awp_sound hT hD c _ β w s a ex hF (hround n s hI)) ?_
    intro e a' w' hl
    cases e <;> simp only [Lift, thenQ] at hl
    · obtain ⟨β', s', h1, h2, m, h3, h4⟩ := hl
      exact ⟨m, h3, β', s', h1, h2, h4⟩
    · exact hl
    · exact hl
    · exact hl
  | .exit id, Q, β, w, s, a, ex, hF, h => wp_exit ⟨β, s, ex, hF, h⟩
  | .label l, Q, β, w, s, a, ex, hF, h => wp_label ⟨β, s, ex, hF, h⟩
  | .ret, Q, β, w, s, a, ex, hF, h => wp_ret ⟨β, s, ex, hF, h⟩

end
end Dem
end
