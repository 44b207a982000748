/- JOINED TEXTS: Br2, Br3, Br4. -/
import Derived.Test.YtegnablmooijmaaDoorJ21
import Derived.Test.YtegnablmooijmaaDoorJ26
import Derived.Test.YtegnablmooijmaaDoorJ33
import Derived.Test.YtegnablmooijmaaDoorRows
import Derived.ProofKit
import Derived.LaidMore
import Derived.OpenShut
import Derived.Carry
import Derived.Stop.Joined
set_option linter.unusedSimpArgs false
set_option linter.unusedVariables false
section
/- FROM A CONTRACT IN THE CALCULUS TO A LAW'S ROW. -/
open Go Go.Proofs Go.ChangeShapes Go.WideShapes Go.RowKit
namespace Dem
set_option maxRecDepth 100000
theorem own : ownKnob Tryd.prog.godebug = none := by kernel_rfl
theorem laidOut : laidOutB Tryd.prog = true := by kernel_rfl
theorem gLetters : Tryd.prog.globalNamed "demesne/word.letters" = some 0 := by kernel_rfl
theorem gMarks : Tryd.prog.globalNamed "demesne/word.marks" = some 1 := by kernel_rfl
def tyLetters : TypeId := 117
def tyMarks : TypeId := 118
theorem tLetters : (Tryd.prog.globals[0]?).map (·.type) = some tyLetters := by kernel_rfl
theorem tMarks : (Tryd.prog.globals[1]?).map (·.type) = some tyMarks := by kernel_rfl
abbrev laidL : List (String × DataW Unit) := [("demesne/word.letters", YtegnablmooijmaaDoor.Rows.laid_demesne_word_letters), ("demesne/word.marks", YtegnablmooijmaaDoor.Rows.laid_demesne_word_marks)]
theorem door_met (os : Os) (args : Array Value) : laidMetH Tryd.prog laidL ((World.doorLaid Tryd.prog 400 os).forCall (fun _ _ => 0) ⟨#[], args, []⟩).memory :=
  laidMetH_of_parts3 (fuel := 8) (laidMet_of_run' 8 (by kernel_rfl) (by kernel_rfl)) (by kernel_rfl) (by kernel_rfl)
theorem tyL : tyOf Tryd.prog 8 tyLetters = some [.int .i32, .int .i32, .int .i32, .int .i32, .int .i32, .int .i32] := by kernel_rfl
theorem tyM : tyOf Tryd.prog 8 tyMarks = some [.int .i32, .int .i32, .int .i32, .int .i32] := by kernel_rfl
theorem rowOfDs {w : World} {ok : Nat → Prop} {blk : Nat} : ∀ {ds : List D} {vs : List Value} (off : Nat), RepDs w ok ds vs → (∀ i v, vs[i]? = some v → w.cell? ⟨blk, off + i, none⟩ = some v) → RepRow w ok blk ds off
  | [], _, _, _, _ => by simp [RepRow]
  | d :: ds, vs, off, h, hc => by
    simp only [RepDs] at h
    obtain ⟨v, r, rfl, h1, h2⟩ := h
    simp only [RepRow]
    refine ⟨⟨v, hc 0 v rfl, h1⟩, rowOfDs (off + 1) h2 fun i u hu => ?_⟩
    rw [show off + 1 + i = off + (i + 1) by omega]
    exact hc (i + 1) u (by simpa using hu)
/-- a context for a call of the program's, out of what is laid -/
theorem ctx_of_laid {W : World} (h : laidMetH Tryd.prog laidL W) : Ctx gl (fun _ => 0) [] W (fun _ => False) := by
  rw [MakeChecks.laidMetH_plain _ _ _ (by kernel_rfl)] at h
  obtain ⟨ps, ⟨g0, t0, cs0, f0, p0, q0, hg0, ht0, hv0, hd0, ⟨g1, t1, cs1, f1, p1, q1, hg1, ht1, hv1, hd1, _, _⟩, _⟩, _, _⟩ := h
  obtain rfl := Option.some.inj (gLetters.symm.trans hg0)
  obtain rfl := Option.some.inj (gMarks.symm.trans hg1)
  obtain rfl := Option.some.inj (tLetters.symm.trans ht0)
  obtain rfl := Option.some.inj (tMarks.symm.trans ht1)
  have hok : ∀ blk, blk < W.heap.size → okp (fun _ => 0) [] W (fun _ => False) blk := fun blk hb => ⟨hb, fun h => h, fun i b hb => by simp at hb⟩
  obtain ⟨r0, _⟩ := trod_has hok 8 _ _ _ _ _ hd0 tyL
  obtain ⟨r1, _⟩ := trod_has hok 8 _ _ _ _ _ hd1 tyM
  have c0 := fun i => World.var?_cell hg0 hv0 i
  have c1 := fun i => World.var?_cell hg1 hv1 i
  refine ⟨fun _ h => h.elim, ?_, by simp, by simp, by simp⟩
  intro g ds hg
  unfold gl at hg
  have hlt : ∀ {i : Nat} {a : Addr} {v : Value}, W.cell? a = some v → a.block < W.heap.size := by
    intro i a v hc
    rcases Nat.lt_or_ge a.block W.heap.size with h | h
    · exact h
    · simp [World.cell?, h] at hc
  cases e0 : Nat.beq g 0 with
  | true =>
    rw [e0] at hg
    simp only [cond_true, Option.some.injEq] at hg
    obtain rfl := Nat.eq_of_beq_eq_true e0
    have hrow : RepRow W (okp (fun _ => 0) [] W (fun _ => False)) 0 ds 0 := by
      rw [← hg]; exact rowOfDs 0 r0 fun i v hv => by rw [Nat.zero_add, c0 i]; simpa using hv
    refine ⟨hok _ ?_, hrow⟩
    rw [← hg] at hrow
    simp only [RepRow] at hrow
    obtain ⟨⟨u, hu, _⟩, _⟩ := hrow
    exact hlt (i := 0) hu
  | false =>
    rw [e0] at hg
    simp only [cond_false] at hg
    cases e1 : Nat.beq g 1 with
    | true =>
      rw [e1] at hg
      simp only [cond_true, Option.some.injEq] at hg
      obtain rfl := Nat.eq_of_beq_eq_true e1
      have hrow : RepRow W (okp (fun _ => 0) [] W (fun _ => False)) 1 ds 0 := by
        rw [← hg]; exact rowOfDs 0 r1 fun i v hv => by rw [Nat.zero_add, c1 i]; simpa using hv
      refine ⟨hok _ ?_, hrow⟩
      rw [← hg] at hrow
      simp only [RepRow] at hrow
      obtain ⟨⟨u, hu, _⟩, _⟩ := hrow
      exact hlt (i := 0) hu
    | false => rw [e1] at hg; cases hg
/-- a call that answers true, from a world in which nothing of the calculus is known but what is laid -/
theorem calls_true {f : Nat} {args : List AV} {vs : List Value} {W : World} (hL : laidMetH Tryd.prog laidL W) (he : ∀ args w, (callFunc f args).run Tryd.prog w = .ok (.enter f args) w)
    (hx : RepAs (fun _ => 0) [] W (okp (fun _ => 0) [] W (fun _ => False)) args vs) (h : FC f args [] (.ret (.d (.bool true))) []) :
    Calls Tryd.prog f ⟨vs⟩ W fun e w' => e = .returned (.bool true) ∧ RowKit.Below W.heap.size W w' := by
  have hc := h (fun _ => 0) W vs (fun _ => False) (ctx_of_laid hL) hx
  rcases hc with ⟨_, hc⟩ | ⟨v, w', hc, _⟩
  · refine hc.mono ?_
    rintro e w' ⟨β', ex, _, hr⟩
    cases e with
    | returned u =>
      simp only [RepRes, RepA, RepD] at hr
      subst hr
      exact ⟨rfl, ⟨ex.os, ex.tape, ex.output, ex.size, fun k hk => ex.block k hk (by simp)⟩⟩
    | _ => exact hr.elim
  · rw [he] at hc; cases hc
theorem trodAll_stays {H : Type} {enc : TypeId × Value → H} {P : Program} (hl : laidOutB P = true) {W W' : World} (hb : RowKit.Below W.heap.size W W') : ∀ (ts : List TypeId) (vs : List Value) (ds : List (DataW H)) (ps : List MemPlace), (ts.all fun t => P.readableRec t && decide (t < P.types.size)) = true →
    (∀ x ∈ ps, x.block < W.heap.size) → DataW.TrodAll enc P W 0 (fun _ => true) true ts vs ds ps → DataW.TrodAll enc P W' 0 (fun b => decide (b < W.heap.size)) true ts vs ds ps := by
  intro ts
  induction ts with
  | nil =>
    intro vs ds ps _ _ h
    cases vs with
    | nil => cases ds with
      | nil => exact h
      | cons d ds => exact h.elim
    | cons v vs => cases ds <;> exact h.elim
  | cons t ts ih =>
    intro vs ds ps ht hlt h
    cases vs with
    | nil => cases ds <;> exact h.elim
    | cons v vs => cases ds with
      | nil => exact h.elim
      | cons d ds =>
        obtain ⟨p, q, h1, h2, rfl⟩ := h
        simp only [List.all_cons, Bool.and_eq_true, decide_eq_true_eq] at ht
        exact ⟨p, q, RowKit.Below.trod hl ht.1.1 ht.1.2 h1 hb (fun x hx => hlt x (List.mem_append_left _ hx)), ih vs ds q ht.2 (fun x hx => hlt x (List.mem_append_right _ hx)) h2, rfl⟩
theorem trodAll_len {H : Type} {enc : TypeId × Value → H} {P : Program} {W : World} : ∀ (ts : List TypeId) (vs : List Value) (ds : List (DataW H)) (ps : List MemPlace), DataW.TrodAll enc P W 0 (fun _ => true) true ts vs ds ps → ds.length = ts.length := by
  intro ts
  induction ts with
  | nil =>
    intro vs ds ps h
    cases vs with
    | nil => cases ds with
      | nil => rfl
      | cons d ds => exact h.elim
    | cons v vs => cases ds <;> exact h.elim
  | cons t ts ih =>
    intro vs ds ps h
    cases vs with
    | nil => cases ds <;> exact h.elim
    | cons v vs => cases ds with
      | nil => exact h.elim
      | cons d ds => obtain ⟨_, _, _, h2, _⟩ := h; simp [ih _ _ _ h2]
theorem kept_of_below {W W' : World} (hb : RowKit.Below W.heap.size W W') (may : MemPlace → Prop) : W.keptBut W' may := by
  refine ⟨hb.os, hb.output, fun i hi => ?_⟩
  rw [hb.block i hi]
  generalize W.heap[i]? = o
  cases o with
  | none => rfl
  | some o => cases o <;> first | exact ⟨rfl, rfl, rfl, fun _ _ => rfl⟩ | exact .inr ⟨rfl, rfl⟩ | rfl
theorem bool4 : Tryd.prog.underlying 4 = some .bool := by kernel_rfl
/-- a law's row, out of a call that answers true -/
theorem lifted_of {H : Type} {enc : TypeId × Value → H} {os : Os} (started : os.Started) {F : FuncId} {fn : Func} {s : ChangeSpec} (hfn : Tryd.checked.prog.funcs[F]? = some fn) (hni : Tryd.checked.prog.inits.idxOf? F = none) (hv : s.vars = []) (hrt : fn.resultTypes = #[4])
    (hts : (fn.params.toList.all fun t => Tryd.prog.readableRec t && decide (t < Tryd.prog.types.size)) = true)
    (hs : ∀ ds : List (DataW H), ds.length = fn.params.toList.length → (s.fn H ds).results = [.lit (.bool true)] ∧ (s.fn H ds).args = ds ∧ (s.fn H ds).vars = [])
    (witness : ∃ (w : World) (tape : Tape) (i : Input), w.os = os ∧ (w.forCall tape i).Shaped Tryd.checked.prog ∧ i.vars = [] ∧ Input.okWide Tryd.checked.prog (w.forCall tape i) .any w.heap.size F i ∧
      ((s.pre enc Tryd.checked.prog fn [] false (w.forCall tape i).memory i.args ∧ laidMetH Tryd.prog laidL (w.forCall tape i).memory) ∧ sizedMet enc Tryd.checked.prog fn (OpenSpec.ofChange s) false (w.forCall tape i).memory i.args) ∧ ({} : Assume).holds Tryd.checked.prog (lone (Frame.enter Tryd.checked.prog F i.args .normal) [] (w.forCall tape i)))
    (hcalls : ∀ (W : World) (args : Array Value) (ds : List (DataW H)) (p : List MemPlace), laidMetH Tryd.prog laidL W → DataW.TrodAll enc Tryd.prog W 0 (fun _ => true) true fn.params.toList args.toList ds p →
      (∀ (j : Nat) t v, fn.params[j]? = some t → args[j]? = some v → ∃ base, Value.okWide Tryd.prog W .any base t v) →
      Calls Tryd.prog F args W fun e w' => e = .returned (.bool true) ∧ RowKit.Below W.heap.size W w') :
    ReturnsInHanded {} Tryd.checked os F .any (fun w args => (s.pre enc Tryd.checked.prog fn [] false w args ∧ laidMetH Tryd.prog laidL w) ∧ sizedMet enc Tryd.checked.prog fn (OpenSpec.ofChange s) false w args) (s.post enc Tryd.checked.prog fn false true false false) := by
  refine returnsInHanded_of_change_and (C := Tryd.checked) (X := fun w _ => laidMetH Tryd.prog laidL w) (fun _ _ _ hh h => h.of_heap hh) own started hni hfn witness ?_
  intro W base args ds gs before hval hW _ _ hL _
  have hW' := hW
  obtain ⟨p, q, hA, hV, rfl, hfz, hnd⟩ := hW
  rw [hv] at hV
  obtain ⟨rfl, rfl⟩ := trodVars_none hV
  have hlen : ds.length = fn.params.toList.length := trodAll_len _ _ _ _ hA
  obtain ⟨s1, s2, s3⟩ := hs ds hlen
  refine (hcalls W args ds p hL hA (fun j t v h1 h2 => ⟨base, hval j t v h1 h2⟩)).mono fun e w' ⟨he, hb⟩ => ?_
  refine ⟨.bool true, he, ds, [], p ++ [], [], p, [], hW', ?_, ?_, ?_, kept_of_below hb _, fun h => by cases h⟩
  · rw [List.append_nil, s1, hrt]
    exact trodAll_mk1 (shut_bool bool4 _)
  · rw [List.append_nil, s2]
    exact trodAll_stays laidOut hb _ _ _ _ hts (fun x hx => hW'.lt x (by simpa using hx)) hA
  · rw [List.append_nil, s3, hv]
    rfl
end Dem
end
section
/- ARGUMENTS OF THE LAWS, OPENED. -/
open Go Go.Proofs Go.ChangeShapes Go.WideShapes Go.RowKit
namespace Dem
set_option maxRecDepth 100000
section
variable {H : Type} {enc : TypeId × Value → H} {W : World} {v : Value} {d : DataW H} {p : List MemPlace} {base : Nat}
abbrev okW (W : World) : Nat → Prop := okp (fun _ => 0) [] W (fun _ => False)
theorem okW_lt (W : World) : ∀ blk, blk < W.heap.size → okW W blk := fun blk hb => ⟨hb, fun h => h, fun i b hb => by simp at hb⟩
theorem wf_u8 {n : Int} (h : (Lit.int .u8 n).wf = true) : ∃ k : Nat, n = k ∧ k < 256 := by
  simp only [Lit.wf, Bool.and_eq_true, decide_eq_true_eq, IntKind.min, IntKind.max, IntKind.signed, IntKind.bits] at h
  simp at h
  exact ⟨n.toNat, by omega, by omega⟩
theorem laid_of {r : List D} (h : HasTys [.int .u8, .int .u8, .int .u8, .int .u8, .int .u8, .int .u8] r) : ∃ x : Laid, r = x.cells ∧ x.u := by
  simp only [HasTys, HasTy] at h
  obtain ⟨_, _, rfl, ⟨n0, rfl, h0⟩, _, _, rfl, ⟨n1, rfl, h1⟩, _, _, rfl, ⟨n2, rfl, h2⟩, _, _, rfl, ⟨n3, rfl, h3⟩, _, _, rfl, ⟨n4, rfl, h4⟩, _, _, rfl, ⟨n5, rfl, h5⟩, rfl⟩ := h
  obtain ⟨k0, rfl, g0⟩ := wf_u8 h0
  obtain ⟨k1, rfl, g1⟩ := wf_u8 h1
  obtain ⟨k2, rfl, g2⟩ := wf_u8 h2
  obtain ⟨k3, rfl, g3⟩ := wf_u8 h3
  obtain ⟨k4, rfl, g4⟩ := wf_u8 h4
  obtain ⟨k5, rfl, g5⟩ := wf_u8 h5
  exact ⟨⟨k0, k1, k2, k3, k4, k5⟩, rfl, ⟨g0, g1, g2, g3, g4, g5⟩⟩
theorem list_of {α : Type} {cells : α → List D} {Q : α → Prop} : ∀ (es : List (List D)), (∀ r ∈ es, ∃ x, r = cells x ∧ Q x) → ∃ l : List α, es = l.map cells ∧ ∀ x ∈ l, Q x
  | [], _ => ⟨[], rfl, by simp⟩
  | r :: es, h => by
    obtain ⟨x, rfl, hx⟩ := h r (by simp)
    obtain ⟨l, rfl, hl⟩ := list_of es (fun r hr => h r (by simp [hr]))
    exact ⟨x :: l, rfl, fun y hy => by rcases List.mem_cons.1 hy with rfl | hy; exact hx; exact hl y hy⟩
theorem arg_laids (hval : Value.okWide Tryd.prog W .any base 22 v) (h : DataW.Trod enc Tryd.prog W 0 (fun _ => true) true 22 v d p) :
    ∃ l : List Laid, RepA (fun _ => 0) [] W (okW W) (SL (l.map Laid.cells)) v ∧ (∀ x ∈ l, x.u) ∧ l.length ≤ maxLen := by
  obtain ⟨fuel, hf⟩ := h
  obtain ⟨a, len, cap, rfl⟩ := okWide_slice (show Tryd.prog.underlying 22 = some (.slice 24) by kernel_rfl) hval
  obtain ⟨h1, h2⟩ := trod_has (okW_lt W) 8 fuel 22 [.slice a len cap] (d, p) [.sl [.int .u8, .int .u8, .int .u8, .int .u8, .int .u8, .int .u8]] hf (by kernel_rfl)
  simp only [HasTys, HasTy] at h2
  obtain ⟨_, _, e, ⟨es, rfl, hl, hr⟩, rfl⟩ := h2
  rw [e] at h1
  simp only [RepDs] at h1
  obtain ⟨u, r, e2, h3, rfl⟩ := h1
  cases e2
  obtain ⟨l, rfl, hl2⟩ := list_of (cells := Laid.cells) (Q := Laid.u) es (fun r hm => laid_of (hr r hm))
  exact ⟨l, by simpa only [RepA] using h3, hl2, by simpa using hl⟩
theorem arg_bytes (hval : Value.okWide Tryd.prog W .any base 25 v) (h : DataW.Trod enc Tryd.prog W 0 (fun _ => true) true 25 v d p) :
    ∃ l : List Byt, RepA (fun _ => 0) [] W (okW W) (SL (l.map Byt.cells)) v ∧ (∀ x ∈ l, x.n < 256) ∧ l.length ≤ maxLen := by
  obtain ⟨fuel, hf⟩ := h
  obtain ⟨a, len, cap, rfl⟩ := okWide_slice (show Tryd.prog.underlying 25 = some (.slice 5) by kernel_rfl) hval
  obtain ⟨h1, h2⟩ := trod_has (okW_lt W) 8 fuel 25 [.slice a len cap] (d, p) [.sl [.int .u8]] hf (by kernel_rfl)
  simp only [HasTys, HasTy] at h2
  obtain ⟨_, _, e, ⟨es, rfl, hl, hr⟩, rfl⟩ := h2
  rw [e] at h1
  simp only [RepDs] at h1
  obtain ⟨u, r, e2, h3, rfl⟩ := h1
  cases e2
  obtain ⟨l, rfl, hl2⟩ := list_of (cells := Byt.cells) (Q := fun k => k.n < 256) es (fun r hm => by
    obtain ⟨_, _, rfl, ⟨n, rfl, hn⟩, rfl⟩ := hr r hm
    obtain ⟨k, rfl, hk⟩ := wf_u8 hn
    exact ⟨⟨k⟩, rfl, hk⟩)
  exact ⟨l, by simpa only [RepA] using h3, hl2, by simpa using hl⟩
theorem arg_laid (hval : Value.okWide Tryd.prog W .any base 24 v) (h : DataW.Trod enc Tryd.prog W 0 (fun _ => true) true 24 v d p) :
    ∃ x : Laid, RepA (fun _ => 0) [] W (okW W) (.agg (x.cells.map .d)) v ∧ x.u := by
  obtain ⟨fuel, hf⟩ := h
  unfold Value.okWide at hval
  rw [Tryd.underlying24] at hval
  obtain ⟨cs, rfl, _, _⟩ := hval
  obtain ⟨h1, h2⟩ := trod_has (okW_lt W) 8 fuel 24 cs.toList (d, p) [.int .u8, .int .u8, .int .u8, .int .u8, .int .u8, .int .u8] hf (by kernel_rfl)
  obtain ⟨x, e, hx⟩ := laid_of h2
  simp only at e
  rw [e] at h1
  refine ⟨x, ?_, hx⟩
  simp only [RepA]
  exact ⟨cs.toList, by simp, h1.as⟩
theorem arg_byte (hval : Value.okWide Tryd.prog W .any base 5 v) (h : DataW.Trod enc Tryd.prog W 0 (fun _ => true) true 5 v d p) :
    ∃ k : Nat, RepA (fun _ => 0) [] W (okW W) (.d (.int .u8 (k : Int))) v ∧ k < 256 := by
  obtain ⟨n, rfl, _, _, hw⟩ := open_int (show Tryd.prog.underlying 5 = some (.int .u8) by kernel_rfl) hval h
  obtain ⟨k, rfl, hk⟩ := wf_u8 hw
  exact ⟨k, by simp only [RepA, RepD], hk⟩
theorem arg_str (hval : Value.okWide Tryd.prog W .any base 9 v) (h : DataW.Trod enc Tryd.prog W 0 (fun _ => true) true 9 v d p) :
    ∃ s : Str, RepA (fun _ => 0) [] W (okW W) (ST s) v ∧ s.length ≤ maxLen := by
  obtain ⟨fuel, hf⟩ := h
  obtain ⟨s, rfl⟩ := okWide_string (show Tryd.prog.underlying 9 = some .string by kernel_rfl) hval
  obtain ⟨h1, h2⟩ := trod_has (okW_lt W) 8 fuel 9 [.string s] (d, p) [.str] hf (by kernel_rfl)
  simp only [HasTys, HasTy] at h2
  obtain ⟨_, _, e, ⟨s', rfl, hl⟩, rfl⟩ := h2
  rw [e] at h1
  simp only [RepDs] at h1
  obtain ⟨u, r, e2, h3, rfl⟩ := h1
  cases e2
  exact ⟨s', by simpa only [RepA] using h3, hl⟩
end
end Dem
end
section
/- FROM CONTRACTS TO ROWS: several arguments; sizes. -/
open Go Go.Proofs Go.ChangeShapes Go.WideShapes Go.RowKit
namespace Dem
set_option maxRecDepth 100000
theorem trodAll_nil {H : Type} {enc : TypeId × Value → H} {P : Program} {W : World} {vs : List Value} {ds : List (DataW H)} {ps : List MemPlace} (h : DataW.TrodAll enc P W 0 (fun _ => true) true [] vs ds ps) : vs = [] ∧ ds = [] := by
  cases vs with
  | nil => cases ds with
    | nil => exact ⟨rfl, rfl⟩
    | cons d ds => exact h.elim
  | cons v vs => cases ds <;> exact h.elim
theorem trodAll_cons {H : Type} {enc : TypeId × Value → H} {P : Program} {W : World} {t : TypeId} {ts : List TypeId} {vs : List Value} {ds : List (DataW H)} {ps : List MemPlace} (h : DataW.TrodAll enc P W 0 (fun _ => true) true (t :: ts) vs ds ps) :
    ∃ v vs' d ds' p q, vs = v :: vs' ∧ ds = d :: ds' ∧ DataW.Trod enc P W 0 (fun _ => true) true t v d p ∧ DataW.TrodAll enc P W 0 (fun _ => true) true ts vs' ds' q := by
  cases vs with
  | nil => cases ds <;> exact h.elim
  | cons v vs => cases ds with
    | nil => exact h.elim
    | cons d ds =>
      obtain ⟨p, q, h1, h2, rfl⟩ := h
      exact ⟨v, vs, d, ds, p, q, rfl, rfl, h1, h2⟩
theorem wf_u16 {n : Int} (h : (Lit.int .u16 n).wf = true) : ∃ k : Nat, n = k ∧ k < 65536 := by
  simp only [Lit.wf, Bool.and_eq_true, decide_eq_true_eq, IntKind.min, IntKind.max, IntKind.signed, IntKind.bits] at h
  simp at h
  exact ⟨n.toNat, by omega, by omega⟩
section
variable {H : Type} {enc : TypeId × Value → H} {W : World} {v : Value} {d : DataW H} {p : List MemPlace} {base : Nat}
theorem arg_u16 (hval : Value.okWide Tryd.prog W .any base 62 v) (h : DataW.Trod enc Tryd.prog W 0 (fun _ => true) true 62 v d p) :
    ∃ k : Nat, RepA (fun _ => 0) [] W (okW W) (.d (.int .u16 (k : Int))) v ∧ k < 65536 := by
  obtain ⟨n, rfl, _, _, hw⟩ := open_int (show Tryd.prog.underlying 62 = some (.int .u16) by kernel_rfl) hval h
  obtain ⟨k, rfl, hk⟩ := wf_u16 hw
  exact ⟨k, by simp only [RepA, RepD], hk⟩
/-- a text, and how long it may be -/
theorem arg_strZ (hval : Value.okWide Tryd.prog W .any base 9 v) (h : DataW.Trod enc Tryd.prog W 0 (fun _ => true) true 9 v d p) :
    ∃ s : Str, RepA (fun _ => 0) [] W (okW W) (ST s) v ∧ DataW.weights Tryd.prog 9 d = [s.length] := by
  obtain ⟨fuel, hf⟩ := h
  obtain ⟨s, rfl⟩ := okWide_string (show Tryd.prog.underlying 9 = some .string by kernel_rfl) hval
  obtain ⟨b, hb, hd, _⟩ := DataW.trod_string (show Tryd.prog.underlying 9 = some .string by kernel_rfl) hf
  obtain rfl : s = b := by injection hb with e1 e2; injection e1
  obtain ⟨rfl, _⟩ := Prod.mk.inj hd
  exact ⟨s.data.toList, by simp only [RepA, RepD], by simp [DataW.weights]⟩
end
theorem varNone {C : Checked} {s : ChangeSpec} (hv : s.vars = []) : s.plain.varTypes C.prog = [] := by
  simp [DataSpec.varTypes, ChangeSpec.plain, hv]
/-- a law's row, out of a call that answers true; with what is known of the arguments' sizes -/
theorem lifted_ofZ {H : Type} {enc : TypeId × Value → H} {os : Os} (started : os.Started) {F : FuncId} {fn : Func} {s : ChangeSpec} (hfn : Tryd.checked.prog.funcs[F]? = some fn) (hni : Tryd.checked.prog.inits.idxOf? F = none) (hv : s.vars = []) (hrt : fn.resultTypes = #[4])
    (hts : (fn.params.toList.all fun t => Tryd.prog.readableRec t && decide (t < Tryd.prog.types.size)) = true)
    (hs : ∀ ds : List (DataW H), ds.length = fn.params.toList.length → (s.fn H ds).results = [.lit (.bool true)] ∧ (s.fn H ds).args = ds ∧ (s.fn H ds).vars = [])
    (witness : ∃ (w : World) (tape : Tape) (i : Input), w.os = os ∧ (w.forCall tape i).Shaped Tryd.checked.prog ∧ i.vars = [] ∧ Input.okWide Tryd.checked.prog (w.forCall tape i) .any w.heap.size F i ∧
      ((s.pre enc Tryd.checked.prog fn [] false (w.forCall tape i).memory i.args ∧ laidMetH Tryd.prog laidL (w.forCall tape i).memory) ∧ sizedMet enc Tryd.checked.prog fn (OpenSpec.ofChange s) false (w.forCall tape i).memory i.args) ∧ ({} : Assume).holds Tryd.checked.prog (lone (Frame.enter Tryd.checked.prog F i.args .normal) [] (w.forCall tape i)))
    (hcalls : ∀ (W : World) (args : Array Value) (ds : List (DataW H)) (p : List MemPlace), laidMetH Tryd.prog laidL W → DataW.TrodAll enc Tryd.prog W 0 (fun _ => true) true fn.params.toList args.toList ds p →
      (∀ (j : Nat) t v, fn.params[j]? = some t → args[j]? = some v → ∃ base, Value.okWide Tryd.prog W .any base t v) →
      (DataW.weightsEach Tryd.prog fn.params.toList ds).all (· ≤ reachBytes) = true →
      Calls Tryd.prog F args W fun e w' => e = .returned (.bool true) ∧ RowKit.Below W.heap.size W w') :
    ReturnsInHanded {} Tryd.checked os F .any (fun w args => (s.pre enc Tryd.checked.prog fn [] false w args ∧ laidMetH Tryd.prog laidL w) ∧ sizedMet enc Tryd.checked.prog fn (OpenSpec.ofChange s) false w args) (s.post enc Tryd.checked.prog fn false true false false) := by
  refine returnsInHanded_of_change_and (C := Tryd.checked) (X := fun w _ => laidMetH Tryd.prog laidL w) (fun _ _ _ hh h => h.of_heap hh) own started hni hfn witness ?_
  intro W base args ds gs before hval hW _ hz hL _
  have hW' := hW
  obtain ⟨p, q, hA, hV, rfl, hfz, hnd⟩ := hW
  rw [hv] at hV
  obtain ⟨rfl, rfl⟩ := trodVars_none hV
  have hlen : ds.length = fn.params.toList.length := trodAll_len _ _ _ _ hA
  obtain ⟨s1, s2, s3⟩ := hs ds hlen
  refine (hcalls W args ds p hL hA (fun j t v h1 h2 => ⟨base, hval j t v h1 h2⟩) (by rw [varNone (C := Tryd.checked) hv, List.append_nil, List.append_nil] at hz; exact hz)).mono fun e w' ⟨he, hb⟩ => ?_
  refine ⟨.bool true, he, ds, [], p ++ [], [], p, [], hW', ?_, ?_, ?_, kept_of_below hb _, fun h => by cases h⟩
  · rw [List.append_nil, s1, hrt]
    exact trodAll_mk1 (shut_bool bool4 _)
  · rw [List.append_nil, s2]
    exact trodAll_stays laidOut hb _ _ _ _ hts (fun x hx => hW'.lt x (by simpa using hx)) hA
  · rw [List.append_nil, s3, hv]
    rfl
end Dem
end
