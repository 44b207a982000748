/- JOINED TEXTS: Abs21. -/
import Derived.Test.YtegnablmooijmaaDoorJ14
set_option linter.unusedSimpArgs false
set_option linter.unusedVariables false
/- THE CALCULUS: REGIONS WHOSE ORDER IS OPEN, WHOLE. -/
open Go
namespace Dem
section
variable {P : Program} {T : Nat → Option TI} {G : Nat → Option (List D)} {N : Nat} {ds : List Deferred} {X : Nat → Prop}
variable {β0 : Nat → Nat} {bx0 : List Box} {w0 : World}

theorem apart_any {ops : Array Oper} (hfit : drawFit ops (befores ops.toList []) 0 ops.toList = true) {m : Nat → Bool} (hd : Down ops m) {i j : Nat} {o p : Oper} (ho : ops[i]? = some o) (hp : ops[j]? = some p)
    (hmi : m i = false) (hri : ∀ e ∈ o.after, Region.binds .any e = true → m e.on = true) (hj : (j < i ∧ m j = false) ∨ (i < j ∧ m j = true)) :
    (∀ d, p.dst = some d → d ∉ o.looksAt ops) ∧ (∀ d, p.dst = some d → o.dst ≠ some d) := by
  rcases hj with ⟨hlt, hmj⟩ | ⟨hlt, hmj⟩
  · have h := (drawFit_spec hfit i o (by simpa using ho)).2 j (by omega)
    rw [Nat.zero_add] at h
    rcases h with h | ⟨p', hp', h⟩
    · have := closed hd i o ho hri j h; rw [hmj] at this; cases this
    · rw [hp] at hp'; cases hp'
      obtain ⟨h1, h2, h3⟩ := Oper.apart_spec h
      exact ⟨h1, h2⟩
  · have h := (drawFit_spec hfit j p (by simpa using hp)).2 i (by omega)
    rw [Nat.zero_add] at h
    rcases h with h | ⟨o', ho', h⟩
    · have := closed hd j p hp (hd j p hp hmj) i h; rw [hmi] at this; cases this
    · rw [ho] at ho'; cases ho'
      obtain ⟨h1, h2, h3⟩ := Oper.apart_spec h
      exact ⟨h3, fun d hd' he => h2 d he hd'⟩

theorem foldS_ff {m : Nat → Bool} : ∀ (its : List It) (i : Nat) (sl : List (Nat × AV)), (∀ j, j < its.length → m (i + j) = false) → foldS m i its sl = sl
  | [], _, _, _ => rfl
  | it :: r, i, sl, h => by
    have h0 := h 0 (by simp)
    rw [Nat.add_zero] at h0
    simp only [foldS, h0, cond_false]
    exact foldS_ff r (i + 1) sl (fun j hj => by have := h (j + 1) (by simpa using hj); rw [show i + 1 + j = i + (j + 1) by omega]; exact this)

theorem foldB_ff {m : Nat → Bool} : ∀ (its : List It) (i : Nat) (bx : List Box), (∀ j, j < its.length → m (i + j) = false) → foldB m i its bx = bx
  | [], _, _, _ => rfl
  | it :: r, i, bx, h => by
    have h0 := h 0 (by simp)
    rw [Nat.add_zero] at h0
    simp only [foldB, h0, cond_false]
    exact foldB_ff r (i + 1) bx (fun j hj => by have := h (j + 1) (by simpa using hj); rw [show i + 1 + j = i + (j + 1) by omega]; exact this)

theorem draw_any (hT : TOk P T) {ops : Array Oper} (hfit : drawFit ops (befores ops.toList []) 0 ops.toList = true) {base : Nat} {Q : Ex → St → Prop} :
    ∀ (fuel : Nat) (listed : Array Bool) (p k : Nat) (its : List It) (s0 : St) (β : Nat → Nat) (w : World) (a : Act), listed.size = ops.size → Down ops (at_ listed) → (∀ x, x < p → at_ listed x = true) → (∀ x, p + its.length ≤ x → at_ listed x = false) →
      listed.toList.count false = fuel → p + its.length ≤ ops.size → BiOk (base + k) its →
      (∀ j it, its[j]? = some it → ∃ o, ops[p + j]? = some o ∧ dstOk N o.dst = true ∧ it.dst = o.dst ∧ YIt (FCalls P G) T G ops.toList o (foldS tt p (its.take j) s0.sl) s0.bx it) →
      ((p + its.length = ops.size ∧ Q .normal ⟨foldS tt p its s0.sl, foldB tt p its s0.bx⟩) ∨
        (∃ k' o rest, ops.toList.drop (p + its.length) = o :: rest ∧ barrier (befores ops.toList []) (p + its.length) = true ∧ dstOk N o.dst = true ∧
          opsD (FCalls P G) T G N ops.toList (befores ops.toList []) base s0.bx k' (p + its.length) (o :: rest) Q ⟨foldS tt p its s0.sl, foldB tt p its s0.bx⟩)) →
      Ext β0 bx0 w0 β (foldB (at_ listed) p its s0.bx) w → Fr G N ds β w X ⟨foldS (at_ listed) p its s0.sl, foldB (at_ listed) p its s0.bx⟩ a →
      wpAny P .any ops (Lift G N ds X β0 bx0 w0 Q) fuel listed a w := by
  intro fuel
  induction fuel with
  | zero =>
    intro listed p k its s0 β w a hsz hdn hlo hhi hcnt hle hbi hit hend ex hF
    have hall : ∀ x, x < ops.size → at_ listed x = true := by
      intro x hx
      have := count_zero listed.toList hcnt x (by simpa [hsz] using hx)
      unfold at_
      have h2 : listed[x]? = some true := by simpa using this
      simp [Array.getD_eq_getD_getElem?, h2]
    have hfull : p + its.length = ops.size := by
      rcases Nat.lt_or_ge (p + its.length) ops.size with h | h
      · have h1 := hall _ h; rw [hhi _ (Nat.le_refl _)] at h1; cases h1
      · omega
    refine ⟨?_, ?_⟩
    · rw [List.eq_nil_iff_forall_not_mem]
      intro j hj
      obtain ⟨h1, o, h2, _⟩ := mem_ready.1 hj
      have hjl : j < ops.size := (Array.getElem?_eq_some_iff.1 h2).1
      have := hall j hjl
      unfold at_ at this
      simp only [Array.getD_eq_getD_getElem?] at this h1
      cases hq : listed[j]? with
      | none => rw [hq] at this; simp at this
      | some v => rw [hq] at this h1; simp at this h1; rw [this] at h1; cases h1
    · rcases hend with ⟨_, hQ⟩ | ⟨k', o, rest, hdr, _⟩
      · have e1 := foldS_congr (m := at_ listed) (m' := tt) its p s0.sl (fun j hj => hall _ (by omega))
        have e2 := foldB_congr (m := at_ listed) (m' := tt) its p s0.bx (fun j hj => hall _ (by omega))
        rw [e1, e2] at hF; rw [e2] at ex
        exact ⟨β, _, ex, hF, hQ⟩
      · rw [List.drop_eq_nil_of_le (by simp; omega)] at hdr; cases hdr
  | succ fuel ih =>
    intro listed p k its s0 β w a hsz hdn hlo hhi hcnt hle hbi hit hend ex hF
    refine ⟨?_, ?_⟩
    · intro hr
      exfalso
      have key : ∀ x, x < ops.size → at_ listed x = true := by
        intro x
        induction x using Nat.strongRecOn with
        | _ x ihx =>
          intro hx
          cases hq : at_ listed x with
          | true => rfl
          | false =>
            exfalso
            have ho : ops[x]? = some ops[x] := by simp [hx]
            have hp := (drawFit_spec hfit x ops[x] (by simp [hx])).1
            have : x ∈ Region.ready .any ops listed := by
              refine mem_ready.2 ⟨?_, ops[x], ho, fun e he hb => ?_⟩
              · unfold at_ at hq
                have hx' : x < listed.size := by omega
                simp [hx'] at hq ⊢; exact hq
              · have := hp e he hb
                exact ihx e.on (by omega) (by omega)
            rw [hr] at this; cases this
      have : listed.toList.count false = 0 := by
        rw [List.count_eq_zero]
        intro hm
        obtain ⟨x, hx⟩ := List.mem_iff_getElem?.1 hm
        have hx2 : x < listed.toList.length := by
          rcases Nat.lt_or_ge x listed.toList.length with h | h
          · exact h
          · rw [List.getElem?_eq_none h] at hx; cases hx
        have := key x (by simpa [hsz] using hx2)
        unfold at_ at this
        have h2 : listed[x]? = some false := by simpa using hx
        simp [Array.getD_eq_getD_getElem?, h2] at this
      omega
    · intro i hi
      obtain ⟨hi1, o, ho, hp⟩ := mem_ready.1 hi
      have hin : i < ops.size := (Array.getElem?_eq_some_iff.1 ho).1
      have hil : i < listed.size := by omega
      have hmi : at_ listed i = false := by
        unfold at_
        simp [hil] at hi1 ⊢; exact hi1
      have hri : ∀ e ∈ o.after, Region.binds .any e = true → at_ listed e.on = true := hp
      have hpi : p ≤ i := by
        rcases Nat.lt_or_ge i p with h | h
        · rw [hlo i h] at hmi; cases hmi
        · exact h
      have hsz' : (listed.setIfInBounds i true).size = ops.size := by simp [hsz]
      have hdn' : Down ops (at_ (listed.setIfInBounds i true)) := by
        intro x ox hox hx e he hb
        rw [at_set hil]
        by_cases hei : e.on = i
        · simp [hei]
        · rw [if_neg hei]
          rw [at_set hil] at hx
          by_cases hxi : x = i
          · subst hxi; rw [ho] at hox; cases hox; exact hri e he hb
          · rw [if_neg hxi] at hx; exact hdn x ox hox hx e he hb
      have hcnt' : (listed.setIfInBounds i true).toList.count false = fuel := by
        have h2 : listed.toList[i]? = some false := by
          unfold at_ at hmi
          simp [hil] at hmi
          simp [hil, hmi]
        have := count_set listed.toList i h2
        rw [Array.toList_setIfInBounds]
        omega
      rcases Nat.lt_or_ge i (p + its.length) with hlt | hge
      · -- an operation of the segment
        obtain ⟨j, rfl⟩ : ∃ j, i = p + j := ⟨i - p, by omega⟩
        have hj : j < its.length := by omega
        have hgj : its[j]? = some its[j] := by simp [hj]
        obtain ⟨o', ho', hd, hdst, hy⟩ := hit j _ hgj
        rw [ho] at ho'; cases ho'
        have hun : ∀ (j : Nat) (it : It) (y : Nat) (cs : Box), its[j]? = some it → it.bi = some (y, cs) → s0.bx[y]? = some .unborn := by
          intro j' it' y cs hj' hb
          obtain ⟨_, _, _, _, h | h | h⟩ := hit j' it' hj'
          · obtain ⟨x, cs', h1, h2, _⟩ := h
            rw [h1] at hb; cases hb; exact h2
          · rw [h.1] at hb; cases hb
          · rw [h.1] at hb; cases hb
        have hapart : ∀ (j' : Nat) (it' : It), its[j']? = some it' → ((j' < j ∧ at_ listed (p + j') = false) ∨ (j < j' ∧ at_ listed (p + j') = true)) →
            (∀ d, it'.dst = some d → d ∉ o.looksAt ops) ∧ (∀ d, it'.dst = some d → o.dst ≠ some d) := by
          intro j' it' hj' hc
          obtain ⟨p', hp', _, hdst', _⟩ := hit j' it' hj'
          rw [hdst']
          exact apart_any hfit hdn ho hp' hmi hri (hc.imp (fun h => ⟨by omega, h.2⟩) (fun h => ⟨by omega, h.2⟩))
        have hlook : ∀ t ∈ o.looksAt ops, lok t (foldS tt p (its.take j) s0.sl) = lok t (foldS (at_ listed) p its s0.sl) := by
          intro t ht
          have e : foldS tt p (its.take j) s0.sl = foldS (fun x => decide (x < p + j)) p its s0.sl := foldS_take its p j s0.sl
          rw [e]
          refine foldS_agree its p _ _ rfl ?_
          intro j' it' hj' hdt
          rcases Nat.lt_trichotomy j' j with h | h | h
          · rw [decide_eq_true (by omega)]
            cases hq : at_ listed (p + j') with
            | true => rfl
            | false => exact absurd ht ((hapart j' it' hj' (.inl ⟨h, hq⟩)).1 t hdt)
          · subst h
            rw [decide_eq_false (by omega), hmi]
          · rw [decide_eq_false (by omega)]
            cases hq : at_ listed (p + j') with
            | false => rfl
            | true => exact absurd ht ((hapart j' it' hj' (.inr ⟨h, hq⟩)).1 t hdt)
        have hy' := hy.turn (bx := foldB (at_ listed) p its s0.bx) hlook (foldB_le its p s0.bx (BxLe.refl _) hun) (by
          intro x cs hb
          rw [foldB_get its p s0.bx ?_]
          · exact hun j _ x cs hgj hb
          · intro j' it' y cs' hj' hm hb'
            refine hbi.apart hj' hb' hgj hb ?_
            rintro rfl
            rw [hmi] at hm; cases hm)
        refine quiet_op hT ho hF hy' hd ?_
        intro β' a' w' ex' hF'
        have hm' : ∀ x, x ≠ p + j → at_ (listed.setIfInBounds (p + j) true) x = at_ listed x := fun x hx => by rw [at_set hil, if_neg hx]
        have hB : foldB (at_ (listed.setIfInBounds (p + j) true)) p its s0.bx = setB its[j] (foldB (at_ listed) p its s0.bx) := by
          refine foldB_step its p j its[j] s0.bx hgj hmi (by rw [at_set hil, if_pos rfl]) hm' ?_
          intro j' it' y cs x cs0 hj' hne hb' hb0
          exact hbi.apart hj' hb' hgj hb0 hne
        refine ih _ p k its s0 β' w' a' hsz' hdn' (fun x hx => by rw [hm' x (by omega)]; exact hlo x hx) (fun x hx => by rw [hm' x (by omega)]; exact hhi x hx) hcnt' hle hbi hit hend (by rw [hB]; exact ex.trans ex') ?_
        rw [hB]
        refine hF'.turn (fun t => ?_)
        rw [← hdst]
        refine (foldS_step its p j its[j] s0.sl hgj hmi (by rw [at_set hil, if_pos rfl]) hm' ?_).symm
        intro j' it' hj' hlt' hm d hd0 hd'
        rw [hdst] at hd0
        exact (hapart j' it' hj' (.inr ⟨hlt', hm⟩)).2 d hd' hd0
      · -- the barrier
        rcases hend with ⟨hfull, _⟩ | ⟨k', o', rest, hdr, hbar, hd, hop⟩
        · omega
        obtain ⟨hb1, hb2⟩ := barrier_spec hbar
        have hiq : i = p + its.length := by
          rcases Nat.lt_or_ge (p + its.length) i with h | h
          · have h1 := closed hdn i o ho hri _ (hb2 i h (by rw [befores_length]; simpa using hin))
            rw [hhi _ (Nat.le_refl _)] at h1; cases h1
          · omega
        subst hiq
        have hoo : o' = o := by
          have := congrArg (fun l => l[0]?) hdr
          simp only [List.getElem?_drop, Nat.add_zero, List.getElem?_cons_zero] at this
          have h3 : ops.toList[p + its.length]? = ops[p + its.length]? := by simp
          rw [h3, ho] at this; cases this; rfl
        subst hoo
        have hrest : rest = ops.toList.drop (p + its.length + 1) := by
          have := congrArg (List.drop 1) hdr
          simpa [List.drop_drop] using this.symm
        have hall : ∀ x, x < p + its.length → at_ listed x = true := fun x hx => closed hdn _ o' ho hri x (hb1 x hx)
        have e1 := foldS_congr (m := at_ listed) (m' := tt) its p s0.sl (fun j hj => hall _ (by omega))
        have e2 := foldB_congr (m := at_ listed) (m' := tt) its p s0.bx (fun j hj => hall _ (by omega))
        rw [e1, e2] at hF; rw [e2] at ex
        have next : ∀ (s1 : St) (β' : Nat → Nat) (w' : World) (a' : Act), opsD (FCalls P G) T G N ops.toList (befores ops.toList []) base s1.bx k' (p + its.length + 1) rest Q s1 → Ext β0 bx0 w0 β' s1.bx w' → Fr G N ds β' w' X s1 a' →
            wpAny P .any ops (Lift G N ds X β0 bx0 w0 Q) fuel (listed.setIfInBounds (p + its.length) true) a' w' := by
          intro s1 β' w' a' h1 ex1 hF1
          obtain ⟨its1, k1, g1, g2, g3, g4⟩ := seg_unroll _ _ _ _ h1
          have hlen : rest.length = ops.size - (p + its.length + 1) := by rw [hrest]; simp
          have hget : ∀ j : Nat, rest[j]? = ops[p + its.length + 1 + j]? := by intro j; rw [hrest]; simp
          have hff : ∀ x, p + its.length + 1 ≤ x → at_ (listed.setIfInBounds (p + its.length) true) x = false := by
            intro x hx; rw [at_set hil, if_neg (by omega)]; exact hhi x (by omega)
          have f1 := foldS_ff (m := at_ (listed.setIfInBounds (p + its.length) true)) its1 (p + its.length + 1) s1.sl (fun j _ => hff _ (by omega))
          have f2 := foldB_ff (m := at_ (listed.setIfInBounds (p + its.length) true)) its1 (p + its.length + 1) s1.bx (fun j _ => hff _ (by omega))
          refine ih _ (p + its.length + 1) k' its1 s1 β' w' a' hsz' hdn' ?_ (fun x hx => hff x (by omega)) hcnt' (by omega) g1 ?_ ?_ (by rw [f2]; exact ex1) (by rw [f1, f2]; exact hF1)
          · intro x hx
            rw [at_set hil]
            by_cases hxq : x = p + its.length
            · simp [hxq]
            · rw [if_neg hxq]; exact hall x (by omega)
          · intro j it hj
            obtain ⟨o2, q1, q2, q3, q4⟩ := g3 j it hj
            exact ⟨o2, by rw [← hget]; exact q1, q2, q3, q4⟩
          · rcases g4 with ⟨q1, q2⟩ | ⟨o2, rest2, q1, q2, q3, q4⟩
            · exact .inl ⟨by omega, q2⟩
            · exact .inr ⟨k1, o2, rest2, by rw [hrest, List.drop_drop] at q1; exact q1, q2, q3, q4⟩
        unfold opsD at hop
        simp only [hd, cond_true, hbar] at hop
        unfold wpOp
        rw [ho]
        simp only
        split at hop
        · rename_i hg
          rw [if_pos (by simp [Region.wanted, hg])]
          refine .inl (stepU_sound hT hF hop ?_ ?_)
          · intro β' bx' w' v u ex' cx' hv hK
            exact next ⟨put1 o'.dst v _, bx'⟩ β' w' _ hK (ex.trans ex') (hF.put ex' cx' hd hv)
          · intro β' bx' w' v u ex' cx' hv hK
            exact ⟨β', bx', v, u, rfl, ex.trans ex', cx', hv, hF.defers, hK⟩
        · rename_i j want hg
          split at hop
          · rename_i g hgo
            have hy := guardOf_spec hF hgo
            cases g with
            | true =>
              rw [if_pos (by simp only [Region.wanted, hg]; exact hy)]
              refine .inl (stepG_sound hT hF hop ?_)
              rintro β' bx' w' v u ex' cx' hv ⟨hK, rfl⟩
              refine next ⟨put1 o'.dst (.cond true v) _, _⟩ β' w' _ hK (ex.trans ex') (hF.put ex' cx' hd ?_)
              simp only [RepA]; exact ⟨fun _ => hv, by simp⟩
            | false =>
              rw [if_neg (by simp only [Region.wanted, hg]; rw [hy]; simp)]
              obtain ⟨v, hK⟩ := stepG_skip hop
              refine next ⟨put1 o'.dst (.cond false v) _, _⟩ β w _ hK ex (hF.put (Ext.refl _ _ _) hF.cx hd ?_)
              simp only [RepA]; simp
          · exact hop.elim
variable {β : Nat → Nat} {bx : List Box} {w : World}

theorem get_unborn {n i : Nat} {b : Box} (h : (bx ++ List.replicate n .unborn)[i]? = some b) : bx[i]? = some b ∨ b = .unborn := by
  rcases Nat.lt_or_ge i bx.length with hl | hl
  · rw [List.getElem?_append_left hl] at h; exact .inl h
  · rw [List.getElem?_append_right hl, List.getElem?_replicate] at h
    split at h
    · exact .inr (by simpa using h.symm)
    · cases h

theorem ext_unborn (n : Nat) : Ext β bx w β (bx ++ List.replicate n .unborn) w := by
  refine ⟨rfl, rfl, rfl, Nat.le_refl _, fun _ _ _ => rfl, fun _ c _ _ h => ⟨c, h, rfl⟩, ?_, ?_⟩
  · rintro i ⟨b, h1, h2⟩
    exact ⟨rfl, b, by rw [List.getElem?_append_left (get_lt h1)]; exact h1, h2⟩
  · intro i b h hl
    rcases get_unborn h with h1 | rfl
    · exact .inr ⟨i, b, h1, hl, rfl⟩
    · simp [Box.live] at hl

theorem ctx_unborn (cx : Ctx G β bx w X) (n : Nat) : Ctx G β (bx ++ List.replicate n .unborn) w X := by
  refine cx.step (ext_unborn n) ?_ ?_
  · intro i b h
    rcases get_unborn h with h1 | rfl
    · exact .inl ⟨h1, fun _ => rfl⟩
    · exact .inr trivial
  · intro i j bi bj hi hj hli hlj he
    rcases get_unborn hi with h1 | rfl <;> rcases get_unborn hj with h2 | rfl
    · exact cx.inj i j bi bj h1 h2 hli hlj he
    · simp [Box.live] at hlj
    · simp [Box.live] at hli
    · simp [Box.live] at hli

/-- the same operations, but for what they wait for -/
def AlikeL (l l' : List Oper) : Prop := l'.length = l.length ∧ ∀ (j : Nat) (o o' : Oper), l[j]? = some o → l'[j]? = some o' → o'.op = o.op ∧ o'.dst = o.dst ∧ o'.guard = o.guard
theorem AlikeL.tail {o o' : Oper} {l l' : List Oper} (h : AlikeL (o :: l) (o' :: l')) : AlikeL l l' := ⟨by simpa using h.1, fun j p p' h1 h2 => h.2 (j + 1) p p' (by simpa using h1) (by simpa using h2)⟩
theorem guardOf_alike {ops ops' : List Oper} (h : AlikeL ops ops') (sl : List (Nat × AV)) (j : Nat) (want : Bool) : guardOf sl ops' j want = guardOf sl ops j want := by
  unfold guardOf
  cases ho : ops[j]? with
  | none =>
    have : ops'[j]? = none := by rw [List.getElem?_eq_none_iff] at ho ⊢; rw [h.1]; exact ho
    rw [this]
  | some o =>
    have hj : j < ops'.length := by rw [h.1]; exact (List.getElem?_eq_some_iff.1 ho).1
    have := h.2 j o ops'[j] ho (List.getElem?_eq_getElem hj)
    rw [List.getElem?_eq_getElem hj]
    simp only
    rw [this.2.1]
theorem opsD_alike {FC : Nat → List AV → List Box → Res → List Box → Prop} {ops ops' : List Oper} (hg0 : AlikeL ops ops') {b : List Nat} {base : Nat} {Q : Ex → St → Prop} : ∀ (l l' : List Oper) (bxs : List Box) (k i : Nat) (s : St), AlikeL l l' → opsD FC T G N ops' b base bxs k i l' Q s = opsD FC T G N ops b base bxs k i l Q s
  | [], [], _, _, _, _, _ => rfl
  | [], _ :: _, _, _, _, _, h => by have := h.1; simp at this
  | _ :: _, [], _, _, _, _, h => by have := h.1; simp at this
  | o :: l, o' :: l', bxs, k, i, s, h => by
    obtain ⟨e1, e2, e3⟩ := h.2 0 o o' rfl rfl
    have hb : birthOf T G s.sl o' = birthOf T G s.sl o := by unfold birthOf; rw [e1, e3]
    have hu : ∀ s K Q, stepU FC T G o' s K Q = stepU FC T G o s K Q := fun s K Q => by unfold stepU; rw [e1]
    have hg : ∀ g s K, stepG FC T G g o' s K = stepG FC T G g o s K := fun g s K => by unfold stepG stepG0; rw [e1]
    have hc : ∀ sl bxs x K, callBorn FC G o' sl bxs x K = callBorn FC G o sl bxs x K := fun sl bxs x K => by unfold callBorn; rw [e1]
    have ih := fun bxs k i s => opsD_alike (FC := FC) (ops := ops) (ops' := ops') hg0 (b := b) (base := base) (Q := Q) l l' bxs k i s h.tail
    simp only [opsD, e2, e3, hb, hu, hg, hc, ih, guardOf_alike hg0]
theorem alike_tight (pre : List Nat) (l : List Oper) : AlikeL l (tightL pre 0 l) := by
  refine ⟨tightL_length pre l 0, fun j o o' h1 h2 => ?_⟩
  rw [tightL_get, h1] at h2
  simp only [Option.map_some, Option.some.injEq] at h2
  subst h2
  obtain ⟨e1, e2, e3, _⟩ := tighten_same pre (0 + j) o
  exact ⟨e1, e2, e3⟩
theorem lateL_get (a : Array Oper) (late : List Nat) : ∀ (l : List Oper) (i j : Nat), (lateL a late i l)[j]? = (l[j]?).map (lateOne a late (i + j))
  | [], _, _ => by simp [lateL]
  | o :: r, i, 0 => by simp [lateL]
  | o :: r, i, j + 1 => by
    simp only [lateL, List.getElem?_cons_succ]
    rw [lateL_get a late r (i + 1) j, show i + 1 + j = i + (j + 1) by omega]
theorem lateL_length (a : Array Oper) (late : List Nat) : ∀ (l : List Oper) (i : Nat), (lateL a late i l).length = l.length
  | [], _ => rfl
  | o :: r, i => by simp [lateL, lateL_length a late r]
theorem lateL_nil (a : Array Oper) : ∀ (l : List Oper) (i : Nat), lateL a [] i l = l
  | [], _ => rfl
  | o :: r, i => by simp only [lateL, lateL_nil a r]; simp [lateOne]
theorem alike_late (a : Array Oper) (late : List Nat) (l : List Oper) : AlikeL l (lateL a late 0 l) := by
  refine ⟨lateL_length a late l 0, fun j o o' h1 h2 => ?_⟩
  rw [lateL_get, h1] at h2
  simp only [Option.map_some, Option.some.injEq] at h2
  subst h2
  obtain ⟨x, e⟩ := lateOne_same a late (0 + j) o
  rw [e]; exact ⟨rfl, rfl, rfl⟩
theorem AlikeL.trans {l l' l'' : List Oper} (h : AlikeL l l') (g : AlikeL l' l'') : AlikeL l l'' := by
  refine ⟨g.1.trans h.1, fun j o o'' h1 h2 => ?_⟩
  have hj : j < l'.length := by rw [h.1]; exact (List.getElem?_eq_some_iff.1 h1).1
  obtain ⟨a1, a2, a3⟩ := h.2 j o l'[j] h1 (List.getElem?_eq_getElem hj)
  obtain ⟨b1, b2, b3⟩ := g.2 j l'[j] o'' (List.getElem?_eq_getElem hj) h2
  exact ⟨b1.trans a1, b2.trans a2, b3.trans a3⟩

theorem preFit_nodup (ops : Array Oper) : ∀ (pre done : List Nat), preFit ops done pre = true → pre.Nodup ∧ (∀ p ∈ pre, p ∉ done) ∧ ∀ p ∈ pre, p < ops.size
  | [], _, _ => ⟨List.nodup_nil, by simp, by simp⟩
  | p :: r, done, h => by
    unfold preFit at h
    cases ho : ops[p]? with
    | none => simp [ho] at h
    | some o =>
      simp only [ho, Bool.and_eq_true] at h
      obtain ⟨⟨⟨⟨f1, _⟩, _⟩, _⟩, f5⟩ := h
      obtain ⟨g1, g2, g3⟩ := preFit_nodup ops r _ f5
      refine ⟨List.nodup_cons.2 ⟨fun hp => g2 p hp (by simp), g1⟩, ?_, ?_⟩
      · intro q hq; rcases List.mem_cons.1 hq with rfl | hq
        · simpa using f1
        · exact fun hh => g2 q hq (by simp [hh])
      · intro q hq; rcases List.mem_cons.1 hq with rfl | hq
        · exact (Array.getElem?_eq_some_iff.1 ho).1
        · exact g3 q hq

/-- regions whose order is open -/
theorem draw_ok (hT : TOk P T) (hm : P.follows .mixedOrders = true) : DrawOk P T G := by
  intro N ds X β0 bx0 w0 id ops0 Q β w s a ex hF h
  obtain ⟨pre, late, hpre, ⟨hfit⟩, hop0⟩ := h
  refine wp_region_any hm ?_
  obtain ⟨ops1, hops1⟩ : ∃ ops : Array Oper, ops = (tightL pre 0 ops0.toList).toArray := ⟨_, rfl⟩
  obtain ⟨ops, hops⟩ : ∃ ops : Array Oper, ops = (lateL ops1 late 0 (tightL pre 0 ops0.toList)).toArray := ⟨_, rfl⟩
  have hsz1 : ops1.size = ops0.size := by rw [hops1]; simp [tightL_length]
  have hsz : ops.size = ops0.size := by rw [hops]; simp [lateL_length, tightL_length]
  have hti : Tight pre ops0 ops1 := by intro j; rw [hops1]; simp [tightL_get]
  have hla : Later late ops1 ops := by intro j; rw [hops]; simp only [List.getElem?_toArray, lateL_get, Nat.zero_add]; rw [hops1]; simp
  have hl : ops.toList = lateL ops1 late 0 (tightL pre 0 ops0.toList) := by rw [hops]
  rw [← hops1] at hfit hop0 hpre
  have hal : AlikeL ops0.toList (lateL ops1 late 0 (tightL pre 0 ops0.toList)) := (alike_tight pre _).trans (alike_late _ _ _)
  have hop := hop0
  rw [← opsD_alike hal _ _ _ _ _ _ hal] at hop
  rw [← hl] at hfit hop
  have hQQ : ∀ c (a a' : Act) w, a.defers = a'.defers → Lift G N ds X β0 bx0 w0 Q (.panic c) a w → Lift G N ds X β0 bx0 w0 Q (.panic c) a' w := by
    intro c a a' w ha hq
    simp only [Lift] at hq ⊢
    obtain ⟨β, bx, v, u, h1, h2, h3, h4, h5, h6⟩ := hq
    exact ⟨β, bx, v, u, h1, h2, h3, h4, ha.symm.trans h5, h6⟩
  suffices hgoal : wpAny P .any ops (Lift G N ds X β0 bx0 w0 Q) ops0.size (Array.replicate ops0.size false) a { w with drawn := w.drawn + 1 } by
    rcases hpre with ⟨rfl, rfl⟩ | ⟨hp1, hp2, hpl, hp3⟩
    · have e : ops = ops0 := by rw [hops, lateL_nil, tightL_nil]
      rw [e] at hgoal; exact hgoal
    · have hp1' : preFit ops0 [] pre = true := by simpa using hp1
      have hns1 : noSel ops1 = true := by
        have hp2' : noSel ops0 = true := by simpa using hp2
        rw [noSel, Array.all_eq_true_iff_forall_mem] at hp2' ⊢
        intro o ho
        obtain ⟨j, hj⟩ := Array.getElem?_of_mem ho
        rw [hti j] at hj
        cases h0 : ops0[j]? with
        | none => rw [h0] at hj; cases hj
        | some o0 =>
          rw [h0] at hj
          simp only [Option.map_some, Option.some.injEq] at hj
          rw [← hj, (tighten_same pre j o0).1]
          exact hp2' o0 (Array.mem_of_getElem? h0)
      have hgoal := later_any hla hpl hns1 hQQ _ _ _ _ (by simp [hsz1]) hgoal
      obtain ⟨n1, n2, n3⟩ := preFit_nodup _ _ _ hp1'
      have hle : pre.length ≤ ops0.size := by
        have := List.Nodup.length_le_of_subset n1 (fun p hp => List.mem_range.2 (n3 p hp) : pre ⊆ List.range ops0.size)
        simpa using this
      obtain ⟨fuel, hfuel⟩ : ∃ fuel, ops0.size = pre.length + fuel := ⟨ops0.size - pre.length, by omega⟩
      rw [hfuel] at hgoal ⊢
      have hget : ∀ p, p < pre.length + fuel → (Array.replicate (pre.length + fuel) false).getD p true = false := by intro p hp; simp [hp]
      refine pre_chain (G := G) (N := N) hti (by simpa using hp2) hQQ fuel _ pre [] _ a s.sl hp1' hp3 ?_ hF.size (by simp) (fun p hp _ => hget p (by have := n3 p hp; omega)) (fun p hp => .inr hp) (fun p hp => hp) (by simp [hfuel]) n1 hgoal
      intro t k z hk
      have := hF.rep t
      rw [hk] at this
      simpa only [RepA, RepD] using this
  rw [← hsz]
  have hfit' : drawFit ops (befores ops.toList []) 0 ops.toList = true := by simpa using hfit
  obtain ⟨its, k', g1, g2, g3, g4⟩ := seg_unroll _ _ _ _ hop
  have hff : ∀ x, at_ (Array.replicate ops.size false) x = false := by
    intro x; unfold at_
    rcases Nat.lt_or_ge x ops.size with h | h <;> simp [h]
  have hsame := sameMem_drawn w
  have f1 := foldS_ff (m := at_ (Array.replicate ops.size false)) its 0 s.sl (fun j _ => hff _)
  have f2 := foldB_ff (m := at_ (Array.replicate ops.size false)) its 0 (s.bx ++ List.replicate (births ops0.toList) .unborn) (fun j _ => hff _)
  refine draw_any hT hfit' ops.size _ 0 0 its ⟨s.sl, s.bx ++ List.replicate (births ops0.toList) .unborn⟩ β _ a (by simp) ?_ (fun x hx => by omega) (fun x _ => hff x) ?_ (by simpa using g2) g1 ?_ ?_ ?_ ?_
  · intro x o _ hx; rw [hff] at hx; cases hx
  · simp
  · intro j it hj
    obtain ⟨o, q1, q2, q3, q4⟩ := g3 j it hj
    exact ⟨o, by simpa using q1, q2, q3, q4⟩
  · rcases g4 with ⟨q1, q2⟩ | ⟨o, rest, q1, q2, q3, q4⟩
    · exact .inl ⟨by simpa using q1, q2⟩
    · exact .inr ⟨k', o, rest, by simpa using q1, q2, q3, q4⟩
  · rw [f2]
    exact (ex.trans (ext_unborn _)).trans (ext_same hsame)
  · rw [f1, f2]
    have c1 := ctx_same (ctx_unborn hF.cx (births ops0.toList)) hsame
    refine ⟨c1, hF.defers, hF.size, fun t => ?_⟩
    exact RepA.mono (((ext_unborn (births ops0.toList)).trans (ext_same hsame)).lasts X) _ _ (hF.rep t)

end
end Dem
