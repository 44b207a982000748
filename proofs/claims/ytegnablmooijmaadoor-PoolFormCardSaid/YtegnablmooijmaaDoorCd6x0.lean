/- JOINED TEXTS: Pl8, Pl9, Co33, Rw6. -/
import Derived.Test.YtegnablmooijmaaDoorJ29
import Derived.Test.YtegnablmooijmaaDoorJ30
import Derived.Test.YtegnablmooijmaaDoorJ32
import Derived.Test.YtegnablmooijmaaDoorJ34
import Derived.Test.YtegnablmooijmaaDoorRows
set_option linter.unusedSimpArgs false
set_option linter.unusedVariables false
section
/- PLAIN LAW: nodes that are added by names of their own. -/
open Go
namespace Dem
def zch (i : Nat) : Nat := 97 + i * 7 % 24
def zN (i : Nat) : Str := [122, UInt8.ofNat (zch i)]
def zNode (i : Nat) : Node := ⟨zN i, ⟨1, 2, 3, 4⟩, [], false⟩
theorem zN_right : ∀ i < 24, wright (zN i) = true := by decide +kernel
theorem zN_node : ∀ i < 24, ∀ s ∈ nodesL, s ≠ zN i := by decide +kernel
theorem zN_inj : ∀ i < 24, ∀ j < i, zN j ≠ zN i := by decide +kernel
/-- a pool to which so many were added -/
structure Pool.zs (p : Pool) (k : Nat) : Prop where
  ok : p.ok
  w : p.w
  names : ∀ n ∈ p.nodes, n.name ∈ nodesL ∨ ∃ j < k, n.name = zN j
  sm : ∀ n ∈ p.nodes, n.sm
  places : p.places.length ≤ 120
theorem fill_zs (l : List Laid) : (fillS l).zs 0 := by
  have lim := fill_lim l
  exact ⟨(fillS_ok l).1, (fillS_ok l).2, fun n hn => .inl (lim.names n hn), lim.sm, lim.places⟩
theorem adds_cases {P : Pool} {k : Nat} (h : P.zs k) (hk : k < 24) :
    (16 ≤ P.nodes.length ∧ padd P (zNode k) = (P, 9)) ∨
    (P.nodes.length < 16 ∧ (padd P (zNode k)).2 = 0 ∧ (padd P (zNode k)).1.zs (k + 1) ∧ pfind (zN k) (padd P (zNode k)).1.nodes = ({ zNode k with up := true }, true) ∧
      (∀ c up, (padd (padd P (zNode k)).1 ⟨zN k, c, [], up⟩).2 = 8) ∧ (padd P (zNode k)).1.nodes.length = P.nodes.length + 1 ∧ pright (padd P (zNode k)).1 = true) := by
  have hr := zN_right k hk
  have hno : ∀ m ∈ P.nodes, m.name ≠ zN k := by
    intro m hm e
    rcases h.names m hm with h1 | ⟨j, hj, h1⟩
    · exact zN_node k hk _ h1 e
    · exact zN_inj k hk j hj (h1.symm.trans e)
  have hidx : decide (0 ≤ idxOf (fun x => decide (x.name = zN k)) P.nodes) = false := by
    rw [← idxOf_any, List.any_eq_false]
    intro m hm
    simpa using hno m hm
  by_cases hl : 16 ≤ P.nodes.length
  · left
    refine ⟨hl, ?_⟩
    unfold padd
    simp [zNode, hr, hl, lright, lrightF]
    exact hidx
  · right
    have hz : (zNode k).cap.w := by rw [Vec.w, lt4]; simp only [zNode, Vec.at_]; omega
    obtain ⟨g1, g2⟩ := add_ok h.ok h.w hz
    have e : padd P (zNode k) = (⟨P.nodes.take (pat P.nodes (zN k)) ++ { zNode k with up := true } :: P.nodes.drop (pat P.nodes (zN k)), P.places⟩, 0) := by
      unfold padd
      simp [zNode, hr, hl, lright, lrightF]
      exact hidx
    have hm : ∀ m, m ∈ (padd P (zNode k)).1.nodes → m ∈ P.nodes ∨ m = { zNode k with up := true } := by
      intro m hm; rw [e] at hm; exact mem_ins.1 hm
    have hin : { zNode k with up := true } ∈ (padd P (zNode k)).1.nodes := by rw [e]; exact mem_ins.2 (.inr rfl)
    refine ⟨by omega, by rw [e], ⟨g1, g2, ?_, ?_, by rw [e]; exact h.places⟩, ?_, ?_, ?_, pright_iff.2 g1⟩
    · intro m hmm
      rcases hm m hmm with h1 | rfl
      · rcases h.names m h1 with h2 | ⟨j, hj, h2⟩
        · exact .inl h2
        · exact .inr ⟨j, by omega, h2⟩
      · exact .inr ⟨k, by omega, rfl⟩
    · intro m hmm
      rcases hm m hmm with h1 | rfl
      · exact h.sm m h1
      · exact ⟨by simp [zNode, zN], by simp [zNode], by simp [zNode]⟩
    · have := find_mem g1.asc hin
      unfold pfind
      rw [show (zN k) = ({ zNode k with up := true } : Node).name from rfl, this]
    · intro c up
      unfold padd
      have : decide (0 ≤ idxOf (fun x => decide (x.name = zN k)) (padd P (zNode k)).1.nodes) = true := by
        rw [← idxOf_any]; exact List.any_eq_true.2 ⟨_, hin, by simp [zNode]⟩
      unfold padd at this
      simp only [hr, this]
      simp [lright, lrightF]
    · rw [e]
      have := (pat_spec P.nodes (zN k)).1
      simp; omega
end Dem
end
section
/- PLAIN LAW: a pool as bytes: how long; what is read of it. -/
open Go
namespace Dem
theorem flat_len {α : Type} {f : α → Str} {b : Nat} : ∀ (l : List α), (∀ x ∈ l, (f x).length ≤ b) → (l.map f).flatten.length ≤ l.length * b
  | [], _ => by simp
  | x :: r, h => by
    have := flat_len r (fun y hy => h y (by simp [hy]))
    have := h x (by simp)
    simp only [List.map_cons, List.flatten_cons, List.length_append, List.length_cons, Nat.succ_mul]
    omega
theorem text_len (s : Str) : (wputText s).length ≤ s.length + 10 := by
  have := wput_len s.length
  simp only [wputText, List.length_append]; omega
theorem lput_len {l : List Pair} (h : ∀ q ∈ l, q.key.length ≤ 32 ∧ q.value.length ≤ 32) (hl : l.length ≤ 8) : (lput l).length ≤ 1000 := by
  unfold lput
  split
  · have h1 := wput_len l.length
    have h2 := flat_len (f := lput1) (b := 84) l (fun q hq => by
      have := text_len q.key; have := text_len q.value; have := h q hq
      simp only [lput1, List.length_append]; omega)
    simp only [List.length_append]; omega
  · simp
theorem pput_bound {p : Pool} (h : p.form) (h16 : p.nodes.length ≤ 16) (hl : ∀ n ∈ p.nodes, n.labels.length ≤ 8) : (pput p).length ≤ 100000 := by
  have h1 := wput_len p.nodes.length
  have h2 := wput_len p.places.length
  have h3 := flat_len (f := nput) (b := 1100) p.nodes (fun n hn => by
    have hf := h.nodes n hn
    have a1 := text_len n.name; have a2 := vput_len n.cap; have a3 := lput_len hf.pairs (hl n hn)
    have a4 := wput_len (if n.up then 1 else 0)
    have a5 := hf.name
    simp only [nput, List.length_append]; omega)
  have h4 := flat_len (f := xput) (b := 100) p.places (fun x hx => by
    have hf := h.places x hx
    have a1 := text_len x.node; have a2 := vput_len x.v; have a4 := wput_len x.job
    have a5 := hf.name
    simp only [xput, List.length_append]; omega)
  have h5 := h.most
  have h6 : p.nodes.length * 1100 ≤ 16 * 1100 := Nat.mul_le_mul h16 (Nat.le_refl _)
  have h7 : p.places.length * 100 ≤ 256 * 100 := Nat.mul_le_mul h5 (Nat.le_refl _)
  simp only [pput, List.length_append]; omega
theorem pput_pos (p : Pool) : 0 < (pput p).length := by
  have := wputF_pos 9 p.nodes.length
  simp only [pput, wput, List.length_append]; omega
theorem w_u {v : Vec} (h : v.w) : v.u := ⟨(h 0 (by decide)).2, (h 1 (by decide)).2, (h 2 (by decide)).2, (h 3 (by decide)).2⟩
theorem labels_most {n : Node} (h : n.fine = true) : n.labels.length ≤ 8 := by
  unfold Node.fine lright at h
  simp only [Bool.and_eq_true, decide_eq_true_eq] at h
  exact h.2.2
end Dem
end
section
/- CONTRACTS: the law of the form of a pool. -/
open Go Dem Go.Proofs
namespace Dem
set_option maxRecDepth 100000
set_option maxHeartbeats 4000000
variable {t : Th}
theorem form_cut {n c : Nat} (h : 0 < n) (hn : n ≤ 100000) (hc : c < 65536) : IntKind.i64.wrap (IntKind.i64.wrap ((n : Int) - 1) - (IntKind.i64.wrap (c : Int)).tmod (n : Int)) = ((n - 1 - c % n : Nat) : Int) := by
  have h1 : c % n < n := Nat.mod_lt _ h
  rw [wrap64 (x := (n : Int) - 1) (by omega) (by omega), wrap64 (x := (c : Int)) (by omega) (by omega), Int.tmod_eq_emod_of_nonneg (by omega)]
  have h2 : (c : Int) % (n : Int) = ((c % n : Nat) : Int) := by simp
  rw [h2, wrap64 (by omega) (by omega)]; omega
theorem c_poolForm (ht : TT t) {l : List Laid} {es : List (List D)} (hes : es = l.map Laid.cells) (hu : ∀ x ∈ l, x.u) (hl : l.length < 9223372036854775808) (ah bh : Str) (hah : ah.length ≤ 140737488355328) (hbh : bh.length ≤ 140737488355328) (cut : Nat) (hcut : cut < 65536) {a : Int} (ea : a = cut) :
    FC 6 [SL es, ST ah, ST bh, .d (.int .u16 a)] [] (.ret (BL true)) [] := by
  obtain ⟨⟨nl, pl⟩, hP⟩ : ∃ P, P = fillS l := ⟨_, rfl⟩
  have oks := (fillS_ok l).1
  have okw := (fillS_ok l).2
  have lim := fill_lim l
  have form := fill_form l
  rw [← hP] at oks okw lim form
  have bn : nl.length ≤ 16 := oks.most
  have bp : pl.length ≤ 120 := lim.places
  have sm : ∀ x ∈ nl, x.sm := lim.sm
  have hls : ∀ x ∈ nl, x.labels.length < 1000000000 := fun x hx => (sm x hx).2.1
  have hcu : ∀ x ∈ nl, x.cap.u := fun x hx => w_u (okw.cap x hx)
  have hxu : ∀ x ∈ pl, x.v.u ∧ x.job < 18446744073709551616 := fun x hx => ⟨w_u (okw.v x hx), (form.places x hx).job.2⟩
  have law := pool_law form
  have blen := pput_bound form bn (fun n hn => labels_most (oks.fine n hn))
  have bpos := pput_pos ⟨nl, pl⟩
  obtain ⟨b, hb⟩ : ∃ b, b = pput ⟨nl, pl⟩ := ⟨_, rfl⟩
  rw [← hb] at law blen bpos
  have hbl : (pput ⟨nl, pl⟩).length < 9223372036854775000 := by rw [← hb]; omega
  have hb0 : decide (b = []) = false := by simp; intro h; rw [h] at bpos; simp at bpos
  obtain ⟨nx, hnx⟩ : ∃ nx : Int, nx = ah.length + b.length := ⟨_, rfl⟩
  have hw : IntKind.i64.wrap ((ah.length : Int) + b.length) = nx := by rw [wrap64 (by omega) (by omega), hnx]
  have hg1 : pget (ah ++ b ++ bh) ah.length = ⟨⟨nl, pl⟩, nx, true⟩ := by rw [hnx]; exact law.whole _ ah bh _ (by simp) rfl
  obtain ⟨kc, hkc⟩ : ∃ k, k = b.length - 1 - cut % b.length := ⟨_, rfl⟩
  have hkl : kc < b.length := by omega
  have hce : IntKind.i64.wrap (IntKind.i64.wrap ((b.length : Int) - 1) - (IntKind.i64.wrap a).tmod (b.length : Int)) = kc := by rw [ea, form_cut bpos blen hcut, hkc]
  have hg2k : (pget (b.take kc) 0).ok = false := law.torn _ [] _ kc hkl (by simp) (by simp)
  obtain ⟨⟨⟨gn, gp⟩, gx, gok⟩, hg2⟩ : ∃ g, g = pget (b.take kc) 0 := ⟨_, rfl⟩
  rw [← hg2] at hg2k
  simp only at hg2k
  refine fc' ht (bx0 := []) Tryd.func6 (c := _) rfl rfl (N := 88) rfl (rs := _) rfl (n := 0) rfl rfl ?_
  cbv
  have len_es : es.length = l.length := by rw [hes, List.length_map]
  refine callF trivial (c_examples ht) trivial rfl rfl ?_
  cbv
  refine condI (fun h0 => ?_) (fun h0 => ?_)
  · simp [ht, ncast, len_es, hb0, hg2k] at h0
  · simp [ht, ncast, len_es, hb0, hg2k] at h0
    cbv
    refine callES trivial (c_filledE ht (by assumption) (by assumption) (by assumption)) trivial rfl rfl rfl (fun r1 er1 => ?_)
    simp only [ht] at er1
    rw [← hP] at er1
    subst r1
    cbv
    refine callEF trivial (c_pputE ht (thE ht rfl) (thE ht rfl) (by ((try simp only [ncast] at *); omega)) (by ((try simp only [ncast] at *); omega)) (by assumption) (by assumption) (by assumption) (by assumption)) trivial rfl rfl (fun r2 er2 => ?_)
    simp only [ht] at er2
    rw [← hb] at er2
    subst r2
    cbv
    refine ⟨?_, ?_⟩
    · (simp only [ht, ncast] at *; omega)
    refine ⟨?_, ?_⟩
    · (simp only [ht, hce]; simp [cutC]; omega)
    cbv
    (refine callES trivial (c_pgetE ht _ _ (by simp only [ht, List.length_append]; omega) (by simp only [ht, ncast]; omega)) trivial rfl rfl rfl (fun r9 er9 => ?_); simp only [ht] at er9; replace er9 := er9.trans hg1; subst er9)
    cbv
    refine gI (by simp [ht, pickI_iff]) ?_
    refine gI (by simp [ht, pickI_iff]) ?_
    refine pI (by simp [ht, pickI_iff]) ?_
    refine condI (fun h3 => ?_) (fun h3 => ?_)
    · simp [ht, ncast, len_es, hb0, hg2k] at h3
      omega
    · simp [ht, ncast, len_es, hb0, hg2k] at h3
      cbv
      refine ⟨?_, ?_⟩
      · (simp only [ht, ncast] at *; omega)
      refine ⟨?_, ?_⟩
      · (simp only [ht, hce]; simp [cutC]; omega)
      cbv
      (refine callES trivial (c_pgetE ht _ _ (by simp only [ht, hce, cutL, List.length_take]; omega) (by omega)) trivial rfl rfl rfl (fun r9 er9 => ?_); simp only [ht, hce, cutL, Int.toNat_natCast] at er9; rw [← hg2] at er9; subst er9)
      cbv
      refine gI (by simp [ht, pickI_iff]) ?_
      refine pI (by simp [ht, pickI_iff]) ?_
      refine gI (by simp [ht, pickI_iff]) ?_
      refine gI (by simp [ht, pickI_iff]) ?_
      refine callEQ (fun g4 => ⟨(by first | (simp [ht]; done) | (simp [ht] at g4 ⊢; exact g4) | (simp [ht] at g4 ⊢; simp_all; done)), by simp [ht], c_sameE ht (thE ht rfl) (thE ht rfl) (thE ht rfl) (thE ht rfl) (by ((try simp only [ncast] at *); omega)) (by ((try simp only [ncast] at *); omega)) (by ((try simp only [ncast] at *); omega)) (by ((try simp only [ncast] at *); omega)) (by assumption) (by assumption)⟩) rfl rfl (fun r5 er5 => ?_)
      simp only [ht] at er5
      cbv
      refine pI (by simp [ht, pickI_iff]) ?_
      refine gI (by simp [ht, pickI_iff]) ?_
      refine gI (by simp [ht, pickI_iff]) ?_
      refine gI (by simp [ht, pickI_iff]) ?_
      refine gI (by simp [ht, pickI_iff]) ?_
      refine gI (by simp [ht, pickI_iff]) ?_
      refine gI (by simp [ht, pickI_iff]) ?_
      refine gI (by simp [ht, pickI_iff]) ?_
      refine pI (by simp [ht, pickI_iff]) ?_
      refine gI (by simp [ht, pickI_iff]) ?_
      refine gI (by simp [ht, pickI_iff]) ?_
      refine pI (by simp [ht, pickI_iff]) ?_
      refine retF trivial trivial rfl rfl rfl ?_
      (simp [ht, ncast, hw, hg2k, er5]; done)
end Dem
end
section
/- THE ROW: form. -/
open Go Go.Proofs Go.ChangeShapes Go.WideShapes Go.RowKit
open Go.Proofs.YtegnablmooijmaaDoor
namespace Dem
set_option maxRecDepth 100000
theorem prm6 : Tryd.f6.params.toList = [22, 9, 9, 62] := by kernel_rfl
theorem form_lifted (os : Os) (started : os.Started) (H : Type) (enc : TypeId × Value → H) :
    ReturnsInHanded {} Tryd.checked os 6 .any (fun w args => (Rows.poolFormSpec.pre enc Tryd.checked.prog Tryd.f6 [] false w args ∧ laidMetH Tryd.prog laidL w) ∧ sizedMet enc Tryd.checked.prog Tryd.f6 (OpenSpec.ofChange Rows.poolFormSpec) false w args)
      (Rows.poolFormSpec.post enc Tryd.checked.prog Tryd.f6 false true false false) := by
  refine lifted_ofZ started Tryd.func6 (by kernel_rfl) rfl (by kernel_rfl) (by kernel_rfl) ?_
    (ChangeSpec.witness_shaped (enc := enc) (C := Tryd.checked) (os := os) (X := fun w _ => laidMetH Tryd.prog laidL w) false (World.doorLaid Tryd.prog 400 os) #[.slice none 0 0, .string ⟨#[]⟩, .string ⟨#[]⟩, .int .u16 0] 8 rfl (World.shaped_of_RefB (by kernel_rfl) (by kernel_rfl)) (by kernel_rfl) (by kernel_rfl) (by kernel_rfl) (door_met os _)) ?_
  · intro ds hd
    rw [prm6] at hd
    match ds, hd with
    | [_d0, _d1, _d2, _d3], _ => exact ⟨rfl, rfl, rfl⟩
  · intro W args ds p hL hA hval hz
    rw [prm6] at hA
    obtain ⟨v0, vs0, d0, ds0, p0, q0, e0, f0, t0, hA⟩ := trodAll_cons hA
    obtain ⟨v1, vs1, d1, ds1, p1, q1, e1, f1, t1, hA⟩ := trodAll_cons hA
    obtain ⟨v2, vs2, d2, ds2, p2, q2, e2, f2, t2, hA⟩ := trodAll_cons hA
    obtain ⟨v3, vs3, d3, ds3, p3, q3, e3, f3, t3, hA⟩ := trodAll_cons hA
    obtain ⟨en, fn⟩ := trodAll_nil hA
    have ea : args = ⟨[v0, v1, v2, v3]⟩ := by cases args; simp_all
    subst ea
    have ed : ds = [d0, d1, d2, d3] := by simp_all
    subst ed
    rw [prm6] at hz
    obtain ⟨b0, hv0⟩ := hval 0 22 v0 (by kernel_rfl) rfl
    obtain ⟨l0, r0, hu0, hn0⟩ := arg_laids hv0 t0
    obtain ⟨b1, hv1⟩ := hval 1 9 v1 (by kernel_rfl) rfl
    obtain ⟨s1, r1, w1⟩ := arg_strZ hv1 t1
    obtain ⟨b2, hv2⟩ := hval 2 9 v2 (by kernel_rfl) rfl
    obtain ⟨s2, r2, w2⟩ := arg_strZ hv2 t2
    obtain ⟨b3, hv3⟩ := hval 3 62 v3 (by kernel_rfl) rfl
    obtain ⟨k3, r3, hk3⟩ := arg_u16 hv3 t3
    simp only [DataW.weightsEach, List.all_eq_true, decide_eq_true_eq] at hz
    exact calls_true hL (fun _ _ => rfl) (by simp only [RepAs]; exact ⟨v0, _, rfl, r0, v1, _, rfl, r1, v2, _, rfl, r2, v3, _, rfl, r3, rfl⟩) (c_poolForm (fun _ _ => rfl) rfl hu0 (by have : maxLen < 9223372036854775808 := (by decide); omega) s1 s2 (by rw [w1] at hz; have := (hz s1.length (by simp)); have : reachBytes ≤ 140737488355328 := (by decide); omega) (by rw [w2] at hz; have := (hz s2.length (by simp)); have : reachBytes ≤ 140737488355328 := (by decide); omega) k3 hk3 rfl)
theorem form_row : Rows.PoolFormSaid :=
  OpenClaim.holds_of_wide 6 Tryd.f6 rfl rfl rfl rfl rfl rfl rfl ⟨rfl, rfl, rfl, rfl, rfl⟩ rfl rfl rfl rfl rfl (by kernel_rfl) Tryd.func6 (by kernel_rfl)
    (of_decide_eq_true (by kernel_rfl)) (by unfold Func.isWrapper; first | (rw [if_pos (by decide +kernel)]; kernel_rfl) | (rw [if_neg (by decide +kernel)]; exact ⟨rfl, rfl⟩))
    (fun os started H enc _ => form_lifted os started H enc)
end Dem
end
