/- JOINED TEXTS: FeD, Sp1, Con0, Sp2, Sp3, Sp4, Sp4b, En. -/
import Derived.Test.YtegnablmooijmaaDoorJ01
import Derived.Test.YtegnablmooijmaaDoorJ19
import Derived.Test.YtegnablmooijmaaDoorJ20
import Derived.Defers
import Derived.Lib.RuneCount
set_option linter.unusedSimpArgs false
set_option linter.unusedVariables false
section
/- THE CALCULUS FOR EVALUATION: a function that defers one call, of one who recovers nothing. -/
open Go
namespace Dem

/- code, laid flat -/
def flat : Code → List Code
  | .seq a b => flat a ++ flat b
  | c => [c]

section
variable {P : Program}
def wpL (P : Program) : List Code → (Exit → Act → World → Prop) → Act → World → Prop
  | [], Q => Q .normal
  | c :: r, Q => c.wp P (Exit.then (wpL P r Q) Q)

theorem then_mono {K K' : Act → World → Prop} {Q Q' : Exit → Act → World → Prop} (h : ∀ a w, K a w → K' a w) (hq : ∀ e a w, Q e a w → Q' e a w) : ∀ e a w, Exit.then K Q e a w → Exit.then K' Q' e a w := by
  intro e a w hh; cases e <;> simp only [Exit.then] at hh ⊢ <;> first | exact h _ _ hh | exact hq _ _ _ hh

theorem wpL_mono : ∀ {l : List Code} {Q Q' : Exit → Act → World → Prop} {a : Act} {w : World}, (∀ e a w, Q e a w → Q' e a w) → wpL P l Q a w → wpL P l Q' a w
  | [], _, _, _, _, hq, h => hq _ _ _ h
  | _ :: _, _, _, _, _, hq, h => wp_mono h (then_mono (fun _ _ hh => wpL_mono hq hh) hq)

theorem wpL_append : ∀ {l1 l2 : List Code} {Q : Exit → Act → World → Prop} {a : Act} {w : World}, wpL P (l1 ++ l2) Q a w → wpL P l1 (Exit.then (wpL P l2 Q) Q) a w
  | [], _, _, _, _, h => h
  | c :: l1, l2, Q, a, w, h => by
    refine wp_mono (show c.wp P (Exit.then (wpL P (l1 ++ l2) Q) Q) a w from h) ?_
    intro e a w hh
    cases e <;> simp only [Exit.then] at hh ⊢ <;> first | exact wpL_append hh | exact hh

theorem wp_flat : ∀ (c : Code) {Q : Exit → Act → World → Prop} {a : Act} {w : World}, wpL P (flat c) Q a w → c.wp P Q a w
  | .seq x y, Q, a, w, h => by
    have h := wpL_append (show wpL P (flat x ++ flat y) Q a w from h)
    refine wp_seq (wp_mono (wp_flat x h) ?_)
    exact then_mono (fun a w hh => wp_flat y hh) (fun _ _ _ hh => hh)
  | .skip, Q, a, w, h => wp_mono h (by intro e a w hh; cases e <;> simpa only [wpL, Exit.then] using hh)
  | .region .., Q, a, w, h => wp_mono h (by intro e a w hh; cases e <;> simpa only [wpL, Exit.then] using hh)
  | .cond .., Q, a, w, h => wp_mono h (by intro e a w hh; cases e <;> simpa only [wpL, Exit.then] using hh)
  | .block .., Q, a, w, h => wp_mono h (by intro e a w hh; cases e <;> simpa only [wpL, Exit.then] using hh)
  | .loop .., Q, a, w, h => wp_mono h (by intro e a w hh; cases e <;> simpa only [wpL, Exit.then] using hh)
  | .rangeFunc .., Q, a, w, h => wp_mono h (by intro e a w hh; cases e <;> simpa only [wpL, Exit.then] using hh)
  | .exit .., Q, a, w, h => wp_mono h (by intro e a w hh; cases e <;> simpa only [wpL, Exit.then] using hh)
  | .scope .., Q, a, w, h => wp_mono h (by intro e a w hh; cases e <;> simpa only [wpL, Exit.then] using hh)
  | .label .., Q, a, w, h => wp_mono h (by intro e a w hh; cases e <;> simpa only [wpL, Exit.then] using hh)
  | .goto .., Q, a, w, h => wp_mono h (by intro e a w hh; cases e <;> simpa only [wpL, Exit.then] using hh)
  | .ret, Q, a, w, h => wp_mono h (by intro e a w hh; cases e <;> simpa only [wpL, Exit.then] using hh)
  | .refuse .., Q, a, w, h => wp_mono h (by intro e a w hh; cases e <;> simpa only [wpL, Exit.then] using hh)
end

section
variable (t : Th) (FC : Nat → List AV → List Box → Res → List Box → Prop) (T : Nat → Option TI) (G : Nat → Option (List D)) (N K : Nat)
def awpL : List Code → (Ex → St → Prop) → St → Prop
  | [], Q, s => Q .normal s
  | c :: r, Q, s => awpT t FC T G N K c (fun e s1 => thenQ (fun s1 => awpL r Q s1) Q e s1) s

/-- a region whose last operation defers a call of a function value -/
def opsTD : List Oper → (AV → St → Prop) → St → Prop
  | [], _, _ => False
  | [o], KD, s => match o.guard, o.dst, o.op with
    | none, none, .defer { callee := .value x, args, .. } => bif args.toList.isEmpty then (opd G s.sl x).ok ∧ KD (opd G s.sl x).strip s else False
    | _, _, _ => False
  | o :: o2 :: rest, KD, s => bif dstOk N o.dst then match o.guard with
    | none => stepT t FC T G o s (fun v bx => opsTD (o2 :: rest) KD ⟨put1 o.dst v s.sl, bx⟩) (fun _ _ => False)
    | some _ => False
    else False
end

section
variable {P : Program} {T : Nat → Option TI} {G : Nat → Option (List D)} {N K : Nat} {ds : List Deferred} {X : Nat → Prop} {β0 : Nat → Nat} {bx0 : List Box} {w0 : World}

theorem awpL_sound (hT : TOk P T) (hD : DrawOk P T G) (hK : bx0.length ≤ K) : ∀ (l : List Code) (Q : Ex → St → Prop) (β : Nat → Nat) (w : World) (s : St) (a : Act), Ext β0 bx0 w0 β s.bx w → Fr G N ds β w X s a →
    awpL t0 (FCalls P G) T G N K l Q s → wpL P l (Lift G N ds X β0 bx0 w0 Q) a w
  | [], Q, β, w, s, a, ex, hF, h => ⟨β, s, ex, hF, h⟩
  | c :: l, Q, β, w, s, a, ex, hF, h => by
    refine wp_mono (awpT_sound hT hD hK c _ β w s a ex hF h) ?_
    intro e a' w' hl
    cases e <;> simp only [Lift, thenQ, Exit.then] at hl ⊢
    · obtain ⟨β', s', h1, h2, h3⟩ := hl
      exact awpL_sound hT hD hK l Q β' w' s' a' h1 h2 h3
    all_goals exact hl

theorem opsTD_sound (hT : TOk P T) {ops : Array Oper} {KD : AV → St → Prop} {Qc : Exit → Act → World → Prop}
    (hN : ∀ (β : Nat → Nat) (w : World) (s : St) (a : Act) (x : AV) (v : Value), Ext β0 bx0 w0 β s.bx w → Fr G N ds β w X s a → KD x s → RepA β s.bx w (okp β s.bx w X) x v →
      (Deferred.ofValue v #[]).run P w = .ok { target := (match v with | .func fn _ c => .fn fn c | _ => .nil), args := (match v with | .func _ first _ => first | _ => #[]) } w →
      Qc .normal { a with defers := { target := (match v with | .func fn _ c => .fn fn c | _ => .nil), args := (match v with | .func _ first _ => first | _ => #[]) } :: a.defers } w)
    (hfn : ∀ x s, KD x s → ∃ f caps, x = .fn f caps) :
    ∀ (l : List Oper) (β : Nat → Nat) (w : World) (s : St) (a : Act), Ext β0 bx0 w0 β s.bx w → Fr G N ds β w X s a → opsTD t0 (FCalls P G) T G N l KD s → wpList P ops Qc l a w
  | [], β, w, s, a, ex, hF, h => h.elim
  | [o], β, w, s, a, ex, hF, h => by
    unfold opsTD at h
    split at h
    · rename_i x args ats hg hd ho
      cases hargs : args.toList.isEmpty with
      | false => simp [hargs] at h
      | true =>
      simp only [hargs, cond_true] at h
      obtain ⟨hok, hk⟩ := h
      have hv := strip_rep (hF.eval x) hok
      obtain ⟨f, caps, hx⟩ := hfn _ _ hk
      have hv' := hv
      rw [hx] at hv'
      simp only [RepA] at hv'
      obtain ⟨vs, ev, _⟩ := hv'
      have ha : args = #[] := by
        have : args.toList = [] := by simpa using hargs
        exact Array.toList_inj.1 this
      subst ha
      refine wpList_step fun KK hKK => ?_
      rw [if_pos (by simp [Region.wanted, hg])]
      have hr : (Deferred.ofValue (a.eval x) #[]).run P w = .ok { target := .fn (.func f) ⟨vs⟩, args := #[] } w := by rw [ev]; rfl
      have hrun : (execOp a.eval o).run P w = .ok (.defer { target := .fn (.func f) ⟨vs⟩, args := #[] }) w := by
        simp [execOp, ho, resolve, hr]
      unfold Oper.wp
      rw [hrun, Oper.upon_defer, hd]
      refine hKK _ _ ?_
      have := hN β w s a _ _ ex hF hk hv (by rw [ev]; rfl)
      rw [ev] at this
      exact this
    · exact h.elim
  | o :: o2 :: rest, β, w, s, a, ex, hF, h => by
    unfold opsTD at h
    cases hd : dstOk N o.dst with
    | false => simp [hd] at h
    | true =>
    simp only [hd, cond_true] at h
    split at h
    · rename_i hg
      refine wpList_step fun KK hKK => ?_
      rw [if_pos (by simp [Region.wanted, hg])]
      refine stepU_sound hT hF (stepT_U (fun v bx hK => hK) h) ?_ ?_
      · intro β' bx' w' v u ex' cx' hv hK
        exact hKK _ _ (opsTD_sound hT hN hfn (o2 :: rest) β' w' ⟨put1 o.dst v s.sl, bx'⟩ _ (ex.trans ex') (hF.put ex' cx' hd hv) hK)
      · intro β' bx' w' v u ex' cx' hv hK; exact hK.elim
    · exact h.elim

theorem wpL_append' : ∀ {l1 l2 : List Code} {Q : Exit → Act → World → Prop} {a : Act} {w : World}, wpL P l1 (Exit.then (wpL P l2 Q) Q) a w → wpL P (l1 ++ l2) Q a w
  | [], _, _, _, _, h => h
  | c :: l1, l2, Q, a, w, h => by
    refine wp_mono (show c.wp P (Exit.then (wpL P l1 (Exit.then (wpL P l2 Q) Q)) (Exit.then (wpL P l2 Q) Q)) a w from h) ?_
    intro e a w hh
    cases e <;> simp only [Exit.then] at hh ⊢ <;> first | exact wpL_append' hh | exact hh

/-- what a body begins with -/
theorem fr_start {fn : Func} {args : List AV} {bx0 : List Box} (hN : fn.ntmps = N) (hlen : Nat.ble args.length N = true) {β : Nat → Nat} {w : World} {vs : List Value} (cx : Ctx G β bx0 w X) (hx : RepAs β bx0 w (okp β bx0 w X) args vs) :
    Fr G N [] β w X ⟨argSl 0 args, bx0⟩ { tmps := (⟨vs⟩ : Array Value) ++ Array.replicate (fn.ntmps - (⟨vs⟩ : Array Value).size) undef, defers := [] } := by
  have hl := RepAs.length hx
  have hle : args.length ≤ N := Nat.le_of_ble_eq_true hlen
  refine ⟨cx, rfl, ?_, ?_⟩
  · simp [hN, hl]; omega
  · intro t
    rw [lok_args]
    simp only [Nat.zero_le, if_true, Nat.sub_zero]
    by_cases ht : t < args.length
    · obtain ⟨v, k1, k2⟩ := RepAs.get t args[t] hx (by simp [ht])
      have e1 : args.getD t .any = args[t] := by simp [List.getD_eq_getElem?_getD, ht]
      rw [e1]
      have hv : t < vs.length := by omega
      have e2 : vs[t] = v := by rw [List.getElem?_eq_getElem hv] at k1; simpa using k1
      have e3 : (({ toList := vs } : Array Value) ++ Array.replicate (fn.ntmps - (⟨vs⟩ : Array Value).size) undef).getD t undef = v := by
        simp [Array.getD_eq_getD_getElem?, Array.getElem?_append, hv, e2]
      rw [e3]; exact k2
    · simp [List.getD_eq_getElem?_getD, List.getElem?_eq_none (Nat.le_of_not_lt ht), RepA]

/-- how a body's end is handed back -/
theorem ret_out (hT : TOk P T) {fn : Func} {β : Nat → Nat} {w : World} {bx0 bx' : List Box} {res : Res} {β' : Nat → Nat} {s : St} {a' : Act} {w' : World} (ex : Ext β bx0 w β' s.bx w') (hF : Fr G N ds β' w' X s a')
    (hq : match resR T s.sl s.bx fn.results.toList with
          | some (c, vs) => RetWp bx0.length c (tupOf vs) s.bx res bx'
          | none => False) : ∃ v, (results fn a'.tmps).run P w' = .ok v w' ∧ ∃ β', Ext β bx0 w β' bx' w' ∧ Ctx G β' bx' w' X ∧ RepRes β' bx' w' (okp β' bx' w' X) res (.returned v) := by
  split at hq
  · rename_i c vs' hres
    obtain ⟨hc, hq⟩ := hq
    obtain ⟨u, k1, k2⟩ := results_run hT hF hres hc
    refine ⟨u, k1, ?_⟩
    rcases hq with ⟨rfl, rfl⟩ | ⟨ks, y, q1, q2, rfl, q3, rfl⟩ | ⟨k, sz, m, es, q0, q1, q2, q3, q4, rfl, rfl⟩ | ⟨sz, q0, q1, q2, rfl, rfl⟩
    · exact ⟨β', ex, hF.cx, k2⟩
    · obtain ⟨e1, c1, r1⟩ := frzT_seal hF.cx q1 k2
      obtain ⟨e2, c2⟩ := kill_ok ks c1
      exact ⟨β', ext_take ((ex.trans e1).trans e2), ctx_take c2 q3, within_rep (fun blk hb => okp_take _ blk hb) y u q2 (RepA.mono (e2.lasts X) _ _ r1)⟩
    · rw [q0] at k2
      exact own_out hF.cx ex q3 q4 (.inr ⟨q2, q1⟩) (.inr k2)
    · rw [q0] at k2
      simp only [RepA, List.length_nil] at k2
      obtain ⟨base, k2, _⟩ := k2
      exact own_out (k := 0) hF.cx ex q1 q2 (.inl ⟨rfl, rfl⟩) (.inl ⟨rfl, rfl, base, k2⟩)
  · exact hq.elim

/-- what a deferred call leaves -/
structure DeferIn (FD : Nat → List AV → List Box → Res → List Box → Prop) (f : Nat) (caps : List AV) (bx : List Box) (K : List Box → Prop) : Prop where
  ok : ∃ bx2, FD f caps bx (.ret (.tup [])) bx2 ∧ K bx2
def deferQ (t : Th) (FD : Nat → List AV → List Box → Res → List Box → Prop) (T : Nat → Option TI) (results : List ResultVar) (n : Nat) (res : Res) (bx' : List Box) (f : Nat) (caps : List AV) : Ex → St → Prop
  | .exit _, _ => False
  | .panic _, _ => False
  | _, s => DeferIn FD f caps s.bx (fun bx2 => match resR T s.sl bx2 results with
    | some (c, vs) => RetT n c (tupOf vs) bx2 (frzTT t bx2 (tupOf vs)) res bx'
    | none => False)

/-- a body that defers one call, in a region that stands alone -/
def bodyDT (t : Th) (FC FD : Nat → List AV → List Box → Res → List Box → Prop) (T : Nat → Option TI) (G : Nat → Option (List D)) (N : Nat) (pre : List Code) (ops : List Oper) (post : List Code) (results : List ResultVar) (n : Nat) (res : Res) (bx' : List Box) (s : St) : Prop :=
  awpL t FC T G N n pre (fun e s => match e with
    | .normal => opsTD t FC T G N ops (fun x s2 => match x with
      | .fn g caps => awpL t FC T G N s2.bx.length post (deferQ t FD T results n res bx' g caps) s2
      | _ => False) s
    | _ => False) s

theorem fcalls_of_defer (hT : TOk P T) (hD : DrawOk P T G) {f N : Nat} {fn : Func} {c : Code} {args : List AV} {bx0 bx' : List Box} {res : Res} (hf : P.funcs[f]? = some fn) (hb : fn.body = some c)
    (hname : (fn.name == "runtime.NumGoroutine") = false) (hN : fn.ntmps = N) (hlen : Nat.ble args.length N = true) {pre post : List Code} {id : Nat} {ops : Array Oper} (hc : flat c = pre ++ .region id ops false :: post)
    (h : bodyDT t0 (FCalls P G) (FDefer P G) T G N pre ops.toList post fn.results.toList bx0.length res bx' ⟨argSl 0 args, bx0⟩) : FCalls P G f args bx0 res bx' := by
  intro β w vs X cx hx
  refine .inl ⟨by simp [callFunc, run_program, hf, hb]; simpa using hname, calls_of_wp_defers hf hb (wp_flat c ?_)⟩
  rw [hc]
  refine wpL_append' (wpL_mono ?_ (awpL_sound hT hD (Nat.le_refl _) pre _ β w _ _ (Ext.refl _ _ _) (fr_start hN hlen cx hx) h))
  intro e a1 w1 hl
  cases e <;> simp only [Lift, Exit.then] at hl ⊢
  case normal =>
    obtain ⟨β1, s1, ex1, hF1, hop⟩ := hl
    show (Code.region id ops false).wp P (Exit.then (wpL P post _) _) a1 w1
    refine wp_region_list (opsTD_sound (β0 := β) (bx0 := bx0) (w0 := w) hT ?_ ?_ ops.toList β1 w1 s1 a1 ex1 hF1 hop)
    · intro β2 w2 s2 a2 x v ex2 hF2 hk hv hr
      simp only [Exit.then]
      split at hk
      case h_2 => exact hk.elim
      rename_i g caps
      simp only [RepA] at hv
      obtain ⟨cvs, rfl, hcaps⟩ := hv
      simp only
      have hF2' : Fr G N [{ target := .fn (.func g) ⟨cvs⟩, args := #[] }] β2 w2 X s2 { a2 with defers := { target := .fn (.func g) ⟨cvs⟩, args := #[] } :: a2.defers } :=
        ⟨hF2.cx, by rw [hF2.defers], hF2.size, hF2.rep⟩
      refine wpL_mono ?_ (awpL_sound (β0 := β2) (bx0 := s2.bx) (w0 := w2) hT hD (Nat.le_refl _) post _ β2 w2 s2 _ (Ext.refl _ _ _) hF2' hk)
      have fin : ∀ (β3 : Nat → Nat) (w3 : World) (s3 : St) (a3 : Act), Ext β2 s2.bx w2 β3 s3.bx w3 → Fr G N [{ target := .fn (.func g) ⟨cvs⟩, args := #[] }] β3 w3 X s3 a3 →
          DeferIn (FDefer P G) g caps s3.bx (fun bx2 => match resR T s3.sl bx2 fn.results.toList with
            | some (c, vs) => RetT bx0.length c (tupOf vs) bx2 (frzTT t0 bx2 (tupOf vs)) res bx'
            | none => False) → Leaves P fn a3.tmps (fun e w' => ∃ β', Ext β bx0 w β' bx' w' ∧ Ctx G β' bx' w' X ∧ RepRes β' bx' w' (okp β' bx' w' X) res e) a3.defers .returning w3 := by
        intro β3 w3 s3 a3 ex3 hF3 hdf
        obtain ⟨bx2, hfd, hq⟩ := hdf
        rw [hF3.defers]
        have hcaps3 := RepAs.mono (ex3.lasts X) _ _ hcaps
        obtain ⟨hi, hcd⟩ := hfd β3 w3 cvs X hF3.cx hcaps3
        refine leaves_cons (f := g) (args := ⟨cvs⟩) (by simp) (by simpa [invoke] using hi) ((hcd .returning).mono ?_)
        rintro e u' w4 ⟨rfl, β4, ex4, cx4, hres⟩
        cases e with
        | returned v =>
          simp only [Leaves, settle]
          have hF4 : Fr G N [{ target := .fn (.func g) ⟨cvs⟩, args := #[] }] β4 w4 X ⟨s3.sl, bx2⟩ a3 := ⟨cx4, hF3.defers, hF3.size, fun t => RepA.mono (ex4.lasts X) _ _ (hF3.rep t)⟩
          have hq' := bodyT_Q (T := T) (results := fn.results.toList) (n := bx0.length) (res := res) (bx' := bx') (e := .ret) (s := ⟨s3.sl, bx2⟩) hq
          exact ret_out hT (((ex2.trans ex3)).trans ex4) hF4 hq'
        | panicked ch => simp [RepRes] at hres
        | outgrown => simp [RepRes] at hres
      intro e a3 w3 hl3
      cases e <;> simp only [Lift, bodyPostD, deferQ] at hl3 ⊢
      · obtain ⟨β3, s3, k1, k2, k3⟩ := hl3; exact fin β3 w3 s3 a3 k1 k2 k3
      · obtain ⟨β3, s3, k1, k2, k3⟩ := hl3; exact k3
      · obtain ⟨β3, s3, k1, k2, k3⟩ := hl3; exact fin β3 w3 s3 a3 k1 k2 k3
      · obtain ⟨_, _, _, _, _, _, _, _, _, k3⟩ := hl3; exact k3.elim
    · intro x s hk
      split at hk
      · exact ⟨_, _, rfl⟩
      · exact hk.elim
  case exit => obtain ⟨_, _, _, _, k⟩ := hl; exact k.elim
  case ret => obtain ⟨_, _, _, _, k⟩ := hl; exact k.elim
  case panic => obtain ⟨_, _, _, _, _, _, _, _, _, k⟩ := hl; exact k.elim

/-- a deferred call, by its body -/
theorem fdefer_of_bodyT (hT : TOk P T) (hD : DrawOk P T G) {f N : Nat} {fn : Func} {c : Code} {args : List AV} {bx0 bx' : List Box} {res : Res} (hf : P.funcs[f]? = some fn) (hb : fn.body = some c)
    (hname : (fn.name == "runtime.NumGoroutine") = false) (hN : fn.ntmps = N) (hlen : Nat.ble args.length N = true)
    (h : awpT t0 (FCalls P G) T G N bx0.length c (bodyT t0 T fn.results.toList bx0.length res bx') ⟨argSl 0 args, bx0⟩) : FDefer P G f args bx0 res bx' :=
  fdefer_of_wp hT hf hb hname hN hlen fun β w X a hF => wp_mono (awpT_sound (X := X) (β0 := β) (bx0 := bx0) (w0 := w) hT hD (Nat.le_refl _) c _ β w ⟨argSl 0 args, bx0⟩ a (Ext.refl _ _ _) hF h)
    fun _ _ _ hl => Lift.imp (fun _ _ hq => bodyT_Q hq) hl
end

/-- a body parted at the region that defers -/
def lastDefer : List Oper → Bool
  | [] => false
  | [o] => match o.op with
    | .defer _ => true
    | _ => false
  | _ :: r => lastDefer r
def splitD : List Code → Option (List Code × Nat × Array Oper × List Code)
  | [] => none
  | .region id ops false :: r => bif lastDefer ops.toList then some ([], id, ops, r) else match splitD r with
    | some (p, i, o, q) => some (.region id ops false :: p, i, o, q)
    | none => none
  | c :: r => match splitD r with
    | some (p, i, o, q) => some (c :: p, i, o, q)
    | none => none
theorem splitD_eq : ∀ {l pre post : List Code} {id : Nat} {ops : Array Oper}, splitD l = some (pre, id, ops, post) → l = pre ++ .region id ops false :: post
  | [], _, _, _, _, h => by simp [splitD] at h
  | c :: r, pre, post, id, ops, h => by
    unfold splitD at h
    split at h
    · simp at *
    · rename_i id' ops' r' e
      simp only [List.cons.injEq] at e
      obtain ⟨rfl, rfl⟩ := e
      cases hl : lastDefer ops'.toList with
      | true => simp [hl] at h; obtain ⟨rfl, rfl, rfl, rfl⟩ := h; rfl
      | false =>
        simp only [hl, cond_false] at h
        split at h
        · rename_i p i o q hs
          simp only [Option.some.injEq, Prod.mk.injEq] at h
          obtain ⟨rfl, rfl, rfl, rfl⟩ := h
          rw [splitD_eq hs]; rfl
        · cases h
    · rename_i c' r' hne e
      simp only [List.cons.injEq] at e
      obtain ⟨rfl, rfl⟩ := e
      split at h
      · rename_i p i o q hs
        simp only [Option.some.injEq, Prod.mk.injEq] at h
        obtain ⟨rfl, rfl, rfl, rfl⟩ := h
        rw [splitD_eq hs]; rfl
      · cases h
theorem deferI {FD : Nat → List AV → List Box → Res → List Box → Prop} {f : Nat} {caps : List AV} {bx : List Box} {K : List Box → Prop} {bx2 : List Box} (h : FD f caps bx (.ret (.tup [])) bx2) (hK : K bx2) : DeferIn FD f caps bx K := ⟨bx2, h, hK⟩
end Dem
end
section
/- PLAIN WORDS: what the small functions reckon. No program in sight. -/
namespace Dem
abbrev Str := List UInt8
structure Vec where
  a : Int
  b : Int
  c : Int
  d : Int
deriving DecidableEq
def Vec.zero : Vec := ⟨0, 0, 0, 0⟩

def addM (x y : Int) : Int × Bool := if x.toNat + y.toNat < 18446744073709551616 then (((x.toNat + y.toNat : Nat) : Int), true) else (0, false)
def subM (x y : Int) : Int × Bool := if x.toNat < y.toNat then (0, false) else (((((x.toNat - y.toNat) % 18446744073709551616 : Nat)) : Int), true)

def both (f : Int → Int → Int × Bool) (a b : Vec) : Vec × Bool :=
  if (f a.a b.a).2 && (f a.b b.b).2 && (f a.c b.c).2 && (f a.d b.d).2 then (⟨(f a.a b.a).1, (f a.b b.b).1, (f a.c b.c).1, (f a.d b.d).1⟩, true) else (Vec.zero, false)
def vadd (a b : Vec) : Vec × Bool := both addM a b
def vsub (a b : Vec) : Vec × Bool := both subM a b
def vfits (a b : Vec) : Bool := (vsub b a).2

/-- a number as bytes -/
def wputF : Nat → Int → Str
  | 0, u => [UInt8.ofNat (u % 256).toNat]
  | n + 1, u => if 128 ≤ u then UInt8.ofNat (u.toNat % 128 + 128) :: wputF n (u / 128) else [UInt8.ofNat (u % 256).toNat]
def wput (u : Int) : Str := wputF 9 u
theorem wputF_len : ∀ (n : Nat) (u : Int), (wputF n u).length ≤ n + 1
  | 0, _ => by simp [wputF]
  | n + 1, u => by
    unfold wputF; split
    · simp; exact wputF_len n _
    · simp
theorem wput_len (u : Int) : (wput u).length ≤ 10 := wputF_len 9 u
def wputText (s : Str) : Str := wput s.length ++ s
def vput (v : Vec) : Str := wput v.a ++ wput v.b ++ wput v.c ++ wput v.d
end Dem
namespace Dem
/-- where the first one that is so stands; -1: none is -/
def idxOf {α : Type} (p : α → Bool) (l : List α) : Int := match l.findIdx? p with | some k => (k : Int) | none => -1

theorem idxOf_at {α : Type} {p : α → Bool} : ∀ {l : List α} {k : Nat} {x : α}, l[k]? = some x → p x = true → (∀ i < k, ∀ y, l[i]? = some y → p y = false) → l.findIdx? p = some k
  | [], _, _, h, _, _ => by simp at h
  | y :: r, 0, x, h, hp, _ => by simp at h; subst h; simp [List.findIdx?_cons, hp]
  | y :: r, k + 1, x, h, hp, hb => by
    have hy : p y = false := hb 0 (by omega) y (by simp)
    simp only [List.getElem?_cons_succ] at h
    rw [List.findIdx?_cons, hy]
    simp [idxOf_at h hp fun i hi z hz => hb (i + 1) (by omega) z (by simpa using hz)]
theorem idxOf_no {α : Type} {p : α → Bool} {l : List α} (hb : ∀ (i : Nat) (y : α), l[i]? = some y → p y = false) : l.findIdx? p = none := by
  rw [List.findIdx?_eq_none_iff]
  intro x hx
  obtain ⟨i, hi⟩ := List.getElem?_of_mem hx
  exact hb i x hi
theorem idxOf_any {α : Type} (p : α → Bool) (l : List α) : l.any p = decide (0 ≤ idxOf p l) := by
  unfold idxOf
  cases h : l.findIdx? p with
  | none =>
    rw [List.findIdx?_eq_none_iff] at h
    simp
    intro x hx; simp [h x hx]
  | some k =>
    have := List.findIdx?_eq_some_iff_getElem.1 h
    obtain ⟨hk, hp, _⟩ := this
    simp
    exact ⟨l[k], List.getElem_mem hk, hp⟩
end Dem
end
section
/- CONTRACTS: HOW THEY ARE SHOWN. -/
open Go Dem Go.Proofs
namespace Dem
theorem TT.eq {t : Th} (h : TT t) : t = t0 := by funext α f; exact h α f
theorem fc' {t : Th} (ht : TT t) {f N : Nat} {fn : Func} {c : Code} {args : List AV} {bx0 bx' : List Box} {res : Res} (hf : Tryd.prog.funcs[f]? = some fn) (hb : fn.body = some c)
    (hname : (fn.name == "runtime.NumGoroutine") = false) (hN : fn.ntmps = N) {rs : List ResultVar} (hrs : fn.results.toList = rs) {n : Nat} (hn : bx0.length = n) (hlen : Nat.ble args.length N = true)
    (h : awpT t FC tT gl N n c (bodyT t tT rs n res bx') ⟨argSl 0 args, bx0⟩) : FC f args bx0 res bx' := by
  subst hrs; subst hn
  have e := ht.eq
  subst e
  exact fcalls_of_bodyT tOk drawOk hf hb hname hN hlen h
/-- a function that defers one call -/
def FD : Nat → List AV → List Box → Res → List Box → Prop := FDefer Tryd.prog gl
theorem fcD {t : Th} (ht : TT t) {f N : Nat} {fn : Func} {c : Code} {args : List AV} {bx0 bx' : List Box} {res : Res} (hf : Tryd.prog.funcs[f]? = some fn) (hb : fn.body = some c)
    (hname : (fn.name == "runtime.NumGoroutine") = false) (hN : fn.ntmps = N) {rs : List ResultVar} (hrs : fn.results.toList = rs) {n : Nat} (hn : bx0.length = n) (hlen : Nat.ble args.length N = true)
    {pre post : List Code} {id : Nat} {ops : Array Oper} (hs : splitD (flat c) = some (pre, id, ops, post))
    (h : bodyDT t FC FD tT gl N pre ops.toList post rs n res bx' ⟨argSl 0 args, bx0⟩) : FC f args bx0 res bx' := by
  subst hrs; subst hn
  have e := ht.eq
  subst e
  exact fcalls_of_defer tOk drawOk hf hb hname hN hlen (splitD_eq hs) h
/-- one that is deferred -/
theorem fdC {t : Th} (ht : TT t) {f N : Nat} {fn : Func} {c : Code} {args : List AV} {bx0 bx' : List Box} {res : Res} (hf : Tryd.prog.funcs[f]? = some fn) (hb : fn.body = some c)
    (hname : (fn.name == "runtime.NumGoroutine") = false) (hN : fn.ntmps = N) {rs : List ResultVar} (hrs : fn.results.toList = rs) {n : Nat} (hn : bx0.length = n) (hlen : Nat.ble args.length N = true)
    (h : awpT t FC tT gl N n c (bodyT t tT rs n res bx') ⟨argSl 0 args, bx0⟩) : FD f args bx0 res bx' := by
  subst hrs; subst hn
  have e := ht.eq
  subst e
  exact fdefer_of_bodyT tOk drawOk hf hb hname hN hlen h
theorem fcX {f : Nat} {fn : Func} {e : Array Value → Sem Value} {args : List AV} {v : AV} (hf : Tryd.prog.funcs[f]? = some fn) (hname : (fn.name == "runtime.NumGoroutine") = false)
    (hb : fn.body.isNone = true) (hn : Extern.findNext fn = none) (he : Extern.find fn = some e)
    (h : ∀ (β : Nat → Nat) (w : World) (vs : List Value) (ok : Nat → Prop), RepAs β [] w ok args vs → ∃ u, (e ⟨vs⟩).run Tryd.prog w = .ok u w ∧ RepA β [] w ok v u) : FC f args [] (.ret v) [] := by
  intro β w vs X cx hx
  obtain ⟨u, h1, h2⟩ := h β w vs _ hx
  refine .inr ⟨u, w, ?_, β, Ext.refl _ _ _, cx, h2⟩
  rw [run_callFunc_extern hf hname hb hn he, h1]
  rfl
abbrev I64 (x : Int) : AV := .d (.int .i64 x)
abbrev U64 (x : Int) : AV := .d (.int .u64 x)
abbrev BL (b : Bool) : AV := .d (.bool b)
abbrev ST (s : List UInt8) : AV := .d (.str s)
abbrev SL (es : List (List D)) : AV := .d (.sl es)
abbrev V4 (a b c d : Int) : AV := .agg [.d (.int .u64 a), .d (.int .u64 b), .d (.int .u64 c), .d (.int .u64 d)]
theorem i64_up {k : Int} (h0 : 0 ≤ k) (h1 : k < 9223372036854775807) : IntKind.i64.wrap (k + 1) = k + 1 := wrap64 (by omega) (by omega)
theorem i64_upN {k : Nat} (h1 : k < 9223372036854775807) : IntKind.i64.wrap ((k : Int) + 1) = ((k + 1 : Nat) : Int) := by rw [wrap64 (by omega) (by omega)]; omega
theorem ncast (n : Nat) : @NatCast.natCast Int instNatCastInt n = (n : Int) := rfl
end Dem
end
section
/- PLAIN WORDS: names. -/
open Go
namespace Dem
def dec (s : Str) (pos : Nat) : Nat × Nat := Utf8.decode ⟨s.toArray⟩ pos
theorem dec_pos (s : Str) (pos : Nat) (h : pos < s.length) : 1 ≤ (dec s pos).2 := Lib.decode_width_pos _ pos (by show pos < s.toArray.size; simpa using h)
/-- places and runes -/
def runesF (s : Str) : Nat → Nat → List (Nat × Nat)
  | 0, _ => []
  | n + 1, pos => if pos < s.length then (pos, (dec s pos).1) :: runesF s n (pos + (dec s pos).2) else []
def runes (s : Str) : List (Nat × Nat) := runesF s s.length 0
def letters : List (Int × Int) := [(97, 122), (945, 969), (1072, 1103)]
def marks : List (Int × Int) := [(48, 57), (45, 45)]
def among (r : Int) (l : List (Int × Int)) : Bool := l.any fun x => decide (x.1 ≤ r) && decide (r ≤ x.2)
def wcount (s : Str) : Nat := (runes s).length
def wok (x : Nat × Nat) : Bool := among x.2 letters || (!decide (x.1 = 0) && among x.2 marks)
def wright (s : Str) : Bool := (runes s).all wok && !decide (s = []) && decide (wcount s ≤ 16)
theorem runesF_len (s : Str) : ∀ (n pos : Nat), (runesF s n pos).length ≤ n
  | 0, _ => by simp [runesF]
  | n + 1, pos => by
    unfold runesF; split
    · simp; exact runesF_len s n _
    · simp
end Dem
end
section
/- PLAIN WORDS: labels. -/
open Go
namespace Dem
structure Pair where
  key : Str
  value : Str
deriving DecidableEq
abbrev Pair.cells (p : Pair) : List D := [.str p.key, .str p.value]
def sle (x y : Str) : Bool := Op.bytesLess x y || decide (x = y)
def lrightF : Option Str → List Pair → Bool
  | _, [] => true
  | q, p :: r => wright p.key && wright p.value && (match q with | none => true | some q => !sle p.key q) && lrightF (some p.key) r
def lright (l : List Pair) : Bool := lrightF none l && decide (l.length ≤ 8)
def prevKey (l : List Pair) (k : Nat) : Option Str := match k with
  | 0 => none
  | k + 1 => (l[k]?).map (·.key)
def Pair.sm (p : Pair) : Prop := p.key.length < 9223372036854775807 ∧ p.value.length < 9223372036854775807
end Dem
end
section
/- PLAIN WORDS: pools. -/
open Go
namespace Dem
structure Node where
  name : Str
  cap : Vec
  labels : List Pair
  up : Bool
structure Place where
  job : Int
  node : Str
  v : Vec
abbrev Node.cells (x : Node) : List D := [.str x.name, .int .u64 x.cap.a, .int .u64 x.cap.b, .int .u64 x.cap.c, .int .u64 x.cap.d, .sl (x.labels.map Pair.cells), .bool x.up]
abbrev Place.cells (x : Place) : List D := [.int .u64 x.job, .str x.node, .int .u64 x.v.a, .int .u64 x.v.b, .int .u64 x.v.c, .int .u64 x.v.d]
theorem idxOf_neg {α : Type} {p : α → Bool} {l : List α} (h : idxOf p l = -1) : ∀ x ∈ l, p x = false := by
  unfold idxOf at h
  split at h
  · omega
  · rename_i hn
    rw [List.findIdx?_eq_none_iff] at hn
    exact fun x hx => by simpa using hn x hx
theorem idxOf_pos {α : Type} {p : α → Bool} {l : List α} (h : idxOf p l ≠ -1) : ∃ (i : Nat) (x : α), idxOf p l = i ∧ l[i]? = some x ∧ p x = true ∧ ∀ y ∈ l.take i, p y = false := by
  unfold idxOf at h ⊢
  split at h
  · rename_i k hk
    obtain ⟨hlt, hp, hb⟩ := List.findIdx?_eq_some_iff_getElem.1 hk
    refine ⟨k, l[k], rfl, by simp [hlt], hp, ?_⟩
    intro y hy
    obtain ⟨j, hj⟩ := List.getElem?_of_mem hy
    rw [List.getElem?_take] at hj
    split at hj
    · rename_i hjk
      have hjl : j < l.length := by omega
      rw [List.getElem?_eq_getElem hjl] at hj
      cases hj
      simpa using hb j hjk
    · cases hj
  · exact absurd rfl h
theorem filter_all {α : Type} {p : α → Bool} {l : List α} (h : ∀ x ∈ l, p x = false) : l.filter (fun x => !p x) = l := by
  rw [List.filter_eq_self]
  intro x hx; rw [h x hx]; rfl
theorem take_snoc {α : Type} {l : List α} {i : Nat} {x : α} (h : l[i]? = some x) : l.take (i + 1) = l.take i ++ [x] := by
  rw [List.take_add_one, h]; rfl
def Node.zero : Node := ⟨[], Vec.zero, [], false⟩
def pfind (name : Str) (l : List Node) : Node × Bool := match l.find? (fun x => decide (x.name = name)) with
  | some x => (x, true)
  | none => (Node.zero, false)
theorem pfind_neg {name : Str} {l : List Node} (h : idxOf (fun x => decide (x.name = name)) l = -1) : pfind name l = (Node.zero, false) := by
  have hn := idxOf_neg h
  have : l.find? (fun x => decide (x.name = name)) = none := by rw [List.find?_eq_none]; intro x hx; rw [hn x hx]; simp
  unfold pfind; rw [this]
theorem find_at {α : Type} {p : α → Bool} : ∀ {l : List α} {i : Nat} {x : α}, l[i]? = some x → p x = true → (∀ y ∈ l.take i, p y = false) → l.find? p = some x
  | [], _, _, h, _, _ => by simp at h
  | y :: r, 0, x, h, hp, _ => by simp at h; subst h; simp [List.find?_cons, hp]
  | y :: r, i + 1, x, h, hp, hb => by
    have hy : p y = false := hb y (by simp)
    simp only [List.getElem?_cons_succ] at h
    rw [List.find?_cons, hy]
    exact find_at h hp fun z hz => hb z (by simp [hz])
theorem pfind_pos {name : Str} {l : List Node} (h : idxOf (fun x => decide (x.name = name)) l ≠ -1) : ∃ (i : Nat) (x : Node), idxOf (fun x => decide (x.name = name)) l = i ∧ l[i]? = some x ∧ pfind name l = (x, true) := by
  obtain ⟨i, x, h1, h2, h3, h4⟩ := idxOf_pos h
  refine ⟨i, x, h1, h2, ?_⟩
  unfold pfind; rw [find_at h2 h3 h4]
def freeStep (name : Str) (s : Vec × Bool) (x : Place) : Vec × Bool := if s.2 && decide (x.node = name) then vsub s.1 x.v else s
def pfree (name : Str) (l : List Node) (ps : List Place) : Vec × Bool :=
  let s := ps.foldl (freeStep name) ((pfind name l).1.cap, (pfind name l).2)
  if s.2 then s else (Vec.zero, false)
def proom (name : Str) (v : Vec) (l : List Node) (ps : List Place) : Int :=
  if !(pfind name l).2 then 7 else if !(pfind name l).1.up then 12 else if !(pfree name l ps).2 || !vfits v (pfree name l ps).1 then 11 else 0
def pof (job : Int) (ps : List Place) : List Str := (ps.filter (fun x => decide (x.job = job))).map (·.node)
end Dem
end
section
/- PLAIN WORDS: what is done with pools. -/
open Go
namespace Dem
structure Pool where
  nodes : List Node
  places : List Place
deriving instance DecidableEq for Place
deriving instance DecidableEq for Node
theorem vec_eq {x y : Vec} : x = y ↔ x.a = y.a ∧ x.b = y.b ∧ x.c = y.c ∧ x.d = y.d := by cases x; cases y; simp
theorem pair_eq {x y : Pair} : x = y ↔ x.key = y.key ∧ x.value = y.value := by cases x; cases y; simp
theorem place_eq {x y : Place} : x = y ↔ x.job = y.job ∧ x.node = y.node ∧ x.v = y.v := by cases x; cases y; simp
instance : Inhabited Vec := ⟨Vec.zero⟩
instance : Inhabited Node := ⟨Node.zero⟩
instance : Inhabited Place := ⟨⟨0, [], Vec.zero⟩⟩
instance : Inhabited Pair := ⟨⟨[], []⟩⟩
theorem drop_at {α : Type} {l : List α} {k : Nat} {x : α} (h : l[k]? = some x) : l.drop k = x :: l.drop (k + 1) := by
  obtain ⟨hk, rfl⟩ := List.getElem?_eq_some_iff.1 h
  exact List.drop_eq_getElem_cons hk
structure Slot where
  node : Str
  free : Vec
  labels : List Pair
theorem node_eq {x y : Node} : x = y ↔ x.name = y.name ∧ x.cap = y.cap ∧ x.labels = y.labels ∧ x.up = y.up := by cases x; cases y; simp
def playGo (l : List Node) (job : Int) (v : Vec) : List Str → List Place → Option Int × List Place
  | [], ps => (none, ps)
  | n :: r, ps => if proom n v l ps ≠ 0 then (some (proom n v l ps), ps) else playGo l job v r (ps ++ [⟨job, n, v⟩])
def play (p : Pool) (job : Int) (names : List Str) (v : Vec) : Pool × Int :=
  match (playGo p.nodes job v names p.places).1 with
  | some e => (p, e)
  | none => (⟨p.nodes, (playGo p.nodes job v names p.places).2⟩, 0)
theorem idxOf_cases {α : Type} {p : α → Bool} {l : List α} {r : Int} (h : r = idxOf p l) : (r = -1 ∧ l.findIdx? p = none ∧ l.find? p = none) ∨ ∃ (i : Nat) (x : α), r = i ∧ i < l.length ∧ l[i]? = some x ∧ p x = true ∧ l.findIdx? p = some i ∧ l.find? p = some x := by
  by_cases hn : idxOf p l = -1
  · have hno := idxOf_neg hn
    refine .inl ⟨by rw [h, hn], ?_, ?_⟩
    · rw [List.findIdx?_eq_none_iff]; intro x hx; simp [hno x hx]
    · rw [List.find?_eq_none]; intro x hx; simp [hno x hx]
  · obtain ⟨i, x, h1, h2, h3, h4⟩ := idxOf_pos hn
    refine .inr ⟨i, x, by rw [h, h1], (List.getElem?_eq_some_iff.1 h2).1, h2, h3, ?_, find_at h2 h3 h4⟩
    unfold idxOf at h1
    split at h1
    · rename_i k hk; rw [hk]; congr 1; omega
    · omega
def pturn (p : Pool) (name : Str) (up : Bool) : Pool × Int :=
  match p.nodes.findIdx? (fun x => decide (x.name = name)), p.nodes.find? (fun x => decide (x.name = name)) with
  | some i, some x => if x.up = up then (p, 15) else (⟨p.nodes.set i { x with up := up }, p.places⟩, 0)
  | _, _ => (p, 7)
def pslot (l : List Node) (ps : List Place) (n : Node) : Option Slot := if (pfree n.name l ps).2 && n.up then some ⟨n.name, (pfree n.name l ps).1, n.labels⟩ else none
def pvOk (q : Option Str) (x : Str) : Bool := match q with | none => true | some q => !sle x q
def prightF (l : List Node) (ps : List Place) : Option Str → List Node → Bool
  | _, [] => true
  | q, n :: r => (pfree n.name l ps).2 && wright n.name && lright n.labels && pvOk q n.name && prightF l ps (some n.name) r
def plost (l : List Node) (x : Place) : Bool := !(l.any fun n => decide (n.name = x.node))
def pright (p : Pool) : Bool := prightF p.nodes p.places none p.nodes && decide (p.nodes.length ≤ 16) && !(p.places.any (plost p.nodes))
def prevName (l : List Node) (k : Nat) : Option Str := match k with
  | 0 => none
  | k + 1 => (l[k]?).map (·.name)
theorem pvOk_prev {l : List Node} {k : Nat} {x : Str} : pvOk (prevName l k) x = (decide (k = 0) || match l[k - 1]? with | none => true | some y => !sle x y.name) := by
  cases k with
  | zero => rfl
  | succ k => simp only [prevName, pvOk]; cases h : l[k]? <;> simp [h]
def Node.sm (x : Node) : Prop := x.name.length < 9223372036854775807 ∧ x.labels.length < 1000000000 ∧ ∀ p ∈ x.labels, p.sm
def pat (l : List Node) (nm : Str) : Nat := match l.findIdx? (fun o => !Op.bytesLess o.name nm) with
  | some k => k
  | none => l.length
def padd (p : Pool) (n : Node) : Pool × Int :=
  if !wright n.name then (p, 6) else if !lright n.labels then (p, 2) else if decide (0 ≤ idxOf (fun x => decide (x.name = n.name)) p.nodes) then (p, 8) else if 16 ≤ p.nodes.length then (p, 9) else
  (⟨p.nodes.take (pat p.nodes n.name) ++ { n with up := true } :: p.nodes.drop (pat p.nodes n.name), p.places⟩, 0)
end Dem
end
section
/- CONTRACTS: results as one value; pools. -/
open Go Dem Go.Proofs
namespace Dem
abbrev strRow (s : Str) : List D := [.str s]
def EInt (r : Int) : AV := I64 r
def EU64 (r : Int) : AV := U64 r
def EBool (r : Bool) : AV := BL r
def EStr (r : Str) : AV := ST r
def EVB (r : Vec × Bool) : AV := .tup [V4 r.1.a r.1.b r.1.c r.1.d, BL r.2]
def Node.cellsT (t : Th) (x : Node) : List D := [.str x.name, .int .u64 x.cap.a, .int .u64 x.cap.b, .int .u64 x.cap.c, .int .u64 x.cap.d, .sl (t _ fun _ => x.labels.map Pair.cells), .bool x.up]
def Place.cellsT (_ : Th) (x : Place) : List D := [.int .u64 x.job, .str x.node, .int .u64 x.v.a, .int .u64 x.v.b, .int .u64 x.v.c, .int .u64 x.v.d]
def ENode (t : Th) (x : Node) : AV := .agg [ST x.name, U64 x.cap.a, U64 x.cap.b, U64 x.cap.c, U64 x.cap.d, SL (t _ fun _ => x.labels.map Pair.cells), BL x.up]
def ENodeB (t : Th) (r : Node × Bool) : AV := .tup [ENode t r.1, BL r.2]
def EPool (t : Th) (p : Pool) : AV := .agg [SL (t _ fun _ => p.nodes.map Node.cells), SL (t _ fun _ => p.places.map Place.cells)]
def EPoolE (t : Th) (r : Pool × Int) : AV := .tup [EPool t r.1, I64 r.2]
def EStrs (t : Th) (l : List Str) : AV := SL (t _ fun _ => l.map strRow)
def strCellsT (_ : Th) (s : Str) : List D := [.str s]
/-- an element that is known -/
theorem idxK {t : Th} (ht : TT t) {α : Type} {l : List α} {cells cT : α → List D} {es : List (List D)} (hes : es = l.map cells) {z : Int} {i n : Nat} {x : α} {K : List D → Prop} (hx : l[i]? = some x) (hz : z = i) (hn : ∀ x, (cells x).length = n) (hT : ∀ x, cells x = cT x)
    (hK : K (cT x)) : IdxWp true (t Prop fun _ => 0 ≤ z ∧ z < es.length ∧ ∀ r ∈ es, r.length = n) (t _ fun _ => es.getD z.toNat []) K := by
  have hi := (List.getElem?_eq_some_iff.1 hx).1
  refine idxM ht hes (by omega) (by omega) hn hT ?_
  intro y hy
  rw [hz, Int.toNat_natCast, hx] at hy
  cases hy; exact hK
/-- room for one more -/
theorem apBig {α : Type} {l : List α} {cells : α → List D} {u : List (List D)} (hu : u = l.map cells) {row : List D} {sz b : Nat} (hn : ∀ x, (cells x).length = sz) (hr : row.length = sz) (hl : l.length < 1000000000) (hb : b ≤ 10000) :
    (u.length + [row].length) * b ≤ 140737488355328 ∧ ∀ r ∈ u ++ [row], r.length = sz := by
  refine ⟨?_, ?_⟩
  · rw [hu, List.length_map]
    exact Nat.le_trans (Nat.mul_le_mul (show l.length + [row].length ≤ 1000000000 by simp; omega) hb) (by decide)
  · intro r hr'
    rcases List.mem_append.1 hr' with h | h
    · rw [hu] at h; obtain ⟨y, _, rfl⟩ := List.mem_map.1 h; exact hn y
    · simp at h; subst h; exact hr
def Slot.cells (x : Slot) : List D := [.str x.node, .int .u64 x.free.a, .int .u64 x.free.b, .int .u64 x.free.c, .int .u64 x.free.d, .sl (x.labels.map Pair.cells)]
def Slot.cellsT (t : Th) (x : Slot) : List D := [.str x.node, .int .u64 x.free.a, .int .u64 x.free.b, .int .u64 x.free.c, .int .u64 x.free.d, .sl (t _ fun _ => x.labels.map Pair.cells)]
def ESlots (t : Th) (l : List Slot) : AV := SL (t _ fun _ => l.map Slot.cells)
theorem wrapSub {k : Nat} (h : 0 < k) (h2 : k < 9223372036854775807) : IntKind.i64.wrap ((k : Int) - 1) = ((k - 1 : Nat) : Int) := by rw [wrap64 (by omega) (by omega)]; omega
/-- an element of a told list, under a guard -/
theorem idxG2 {t : Th} (ht : TT t) {α : Type} [Inhabited α] {l : List α} {cells cT : α → List D} {es : List (List D)} (hes : es = l.map cells) {g : Bool} {G : Prop} {z : Int} (i : Nat) {n : Nat} {K : List D → Prop} (hg : g = true → G) (hi : g = true → z = i ∧ i < l.length) (hn : ∀ x, (cells x).length = n) (hT : ∀ x, cells x = cT x)
    (hK : ∀ x, (g = true → l[i]? = some x) → K (cT x)) : IdxWp g (G ∧ t Prop fun _ => 0 ≤ z ∧ z < es.length ∧ ∀ r ∈ es, r.length = n) (t _ fun _ => es.getD z.toNat []) K := by
  cases hgg : g with
  | true =>
    subst hgg
    obtain ⟨h1, h2⟩ := hi rfl
    refine idxG (cT l[i]) (fun _ => ⟨⟨hg rfl, ?_⟩, ?_⟩) (hK _ (fun _ => List.getElem?_eq_getElem h2))
    · simp only [ht]; refine ⟨by omega, by rw [hes, List.length_map]; omega, ?_⟩
      rw [hes]; intro r hr; obtain ⟨y, _, rfl⟩ := List.mem_map.1 hr; exact hn y
    · simp only [ht]; rw [h1, hes, ← hT]; simp [h2]
  | false =>
    subst hgg
    exact idxG (cT default) (fun h => Bool.noConfusion h) (hK default (fun h => Bool.noConfusion h))
theorem fcalls_sub {P : Program} {G : Nat → Option (List D)} {f : Nat} {args args' : List AV} {bx bx' : List Box} {res : Res} (h : ∀ β w ok vs, RepAs β bx w ok args vs → RepAs β bx w ok args' vs) (hc : FCalls P G f args' bx res bx') : FCalls P G f args bx res bx' :=
  fun β w vs X cx hx => hc β w vs X cx (h _ _ _ _ hx)
theorem cl_sl {β : Nat → Nat} {bx : List Box} {w : World} {ok : Nat → Prop} {es : List (List D)} {u : Value} (h : RepA β bx w ok (.cl es) u) : RepA β bx w ok (.d (.sl es)) u := by
  simp only [RepA, RepD] at h ⊢
  obtain ⟨base, h1, h2⟩ := h
  exact ⟨base, _, h1, Nat.le_refl _, h2⟩
abbrev small : Nat := 9223372036854775807
end Dem
end
