/- JOINED TEXTS: Pl8, Co31, Rw5. -/
import Derived.Test.YtegnablmooijmaaDoorJ32
import Derived.Test.YtegnablmooijmaaDoorJ34
import Derived.Test.YtegnablmooijmaaDoorRows
set_option linter.unusedSimpArgs false
set_option linter.unusedVariables false
section
/- PLAIN LAW: nodes that are added by names of their own. -/
open Go
namespace Dem
def zch (i : Nat) : Nat := 97 + i * 7 % 24
def zN (i : Nat) : Str := [122, UInt8.ofNat (zch i)]
def zNode (i : Nat) : Node := ⟨zN i, ⟨1, 2, 3, 4⟩, [], false⟩
theorem zN_right : ∀ i < 24, wright (zN i) = true := by decide +kernel
theorem zN_node : ∀ i < 24, ∀ s ∈ nodesL, s ≠ zN i := by decide +kernel
theorem zN_inj : ∀ i < 24, ∀ j < i, zN j ≠ zN i := by decide +kernel
/-- a pool to which so many were added -/
structure Pool.zs (p : Pool) (k : Nat) : Prop where
  ok : p.ok
  w : p.w
  names : ∀ n ∈ p.nodes, n.name ∈ nodesL ∨ ∃ j < k, n.name = zN j
  sm : ∀ n ∈ p.nodes, n.sm
  places : p.places.length ≤ 120
theorem fill_zs (l : List Laid) : (fillS l).zs 0 := by
  have lim := fill_lim l
  exact ⟨(fillS_ok l).1, (fillS_ok l).2, fun n hn => .inl (lim.names n hn), lim.sm, lim.places⟩
theorem adds_cases {P : Pool} {k : Nat} (h : P.zs k) (hk : k < 24) :
    (16 ≤ P.nodes.length ∧ padd P (zNode k) = (P, 9)) ∨
    (P.nodes.length < 16 ∧ (padd P (zNode k)).2 = 0 ∧ (padd P (zNode k)).1.zs (k + 1) ∧ pfind (zN k) (padd P (zNode k)).1.nodes = ({ zNode k with up := true }, true) ∧
      (∀ c up, (padd (padd P (zNode k)).1 ⟨zN k, c, [], up⟩).2 = 8) ∧ (padd P (zNode k)).1.nodes.length = P.nodes.length + 1 ∧ pright (padd P (zNode k)).1 = true) := by
  have hr := zN_right k hk
  have hno : ∀ m ∈ P.nodes, m.name ≠ zN k := by
    intro m hm e
    rcases h.names m hm with h1 | ⟨j, hj, h1⟩
    · exact zN_node k hk _ h1 e
    · exact zN_inj k hk j hj (h1.symm.trans e)
  have hidx : decide (0 ≤ idxOf (fun x => decide (x.name = zN k)) P.nodes) = false := by
    rw [← idxOf_any, List.any_eq_false]
    intro m hm
    simpa using hno m hm
  by_cases hl : 16 ≤ P.nodes.length
  · left
    refine ⟨hl, ?_⟩
    unfold padd
    simp [zNode, hr, hl, lright, lrightF]
    exact hidx
  · right
    have hz : (zNode k).cap.w := by rw [Vec.w, lt4]; simp only [zNode, Vec.at_]; omega
    obtain ⟨g1, g2⟩ := add_ok h.ok h.w hz
    have e : padd P (zNode k) = (⟨P.nodes.take (pat P.nodes (zN k)) ++ { zNode k with up := true } :: P.nodes.drop (pat P.nodes (zN k)), P.places⟩, 0) := by
      unfold padd
      simp [zNode, hr, hl, lright, lrightF]
      exact hidx
    have hm : ∀ m, m ∈ (padd P (zNode k)).1.nodes → m ∈ P.nodes ∨ m = { zNode k with up := true } := by
      intro m hm; rw [e] at hm; exact mem_ins.1 hm
    have hin : { zNode k with up := true } ∈ (padd P (zNode k)).1.nodes := by rw [e]; exact mem_ins.2 (.inr rfl)
    refine ⟨by omega, by rw [e], ⟨g1, g2, ?_, ?_, by rw [e]; exact h.places⟩, ?_, ?_, ?_, pright_iff.2 g1⟩
    · intro m hmm
      rcases hm m hmm with h1 | rfl
      · rcases h.names m h1 with h2 | ⟨j, hj, h2⟩
        · exact .inl h2
        · exact .inr ⟨j, by omega, h2⟩
      · exact .inr ⟨k, by omega, rfl⟩
    · intro m hmm
      rcases hm m hmm with h1 | rfl
      · exact h.sm m h1
      · exact ⟨by simp [zNode, zN], by simp [zNode], by simp [zNode]⟩
    · have := find_mem g1.asc hin
      unfold pfind
      rw [show (zN k) = ({ zNode k with up := true } : Node).name from rfl, this]
    · intro c up
      unfold padd
      have : decide (0 ≤ idxOf (fun x => decide (x.name = zN k)) (padd P (zNode k)).1.nodes) = true := by
        rw [← idxOf_any]; exact List.any_eq_true.2 ⟨_, hin, by simp [zNode]⟩
      unfold padd at this
      simp only [hr, this]
      simp [lright, lrightF]
    · rw [e]
      have := (pat_spec P.nodes (zN k)).1
      simp; omega
end Dem
end
section
/- CONTRACTS: the law of adding. -/
open Go Dem Go.Proofs
namespace Dem
set_option maxRecDepth 100000
set_option maxHeartbeats 4000000
variable {t : Th}
theorem zbyte {i : Nat} (h : i < 24) : IntKind.u8.wrap (97 + IntKind.u8.wrap ((IntKind.i64.wrap ((i : Int) * 7)).tmod 24)) = (zch i : Nat) := by
  rw [wrap64 (x := (i : Int) * 7) (by omega) (by omega), Int.tmod_eq_emod_of_nonneg (by omega)]
  have h2 : ((i : Int) * 7) % 24 = ((i * 7 % 24 : Nat) : Int) := by omega
  rw [h2, wu8 _ (by omega)]
  have h3 : (97 : Int) + ((i * 7 % 24 : Nat) : Int) = ((97 + i * 7 % 24 : Nat) : Int) := by omega
  rw [h3, wu8 _ (by omega)]; rfl
theorem adds_facts {nl pl ql qp : _} {k : Nat} {e : Int} (zk : Pool.zs ⟨nl, pl⟩ k) (h : (16 ≤ (⟨nl, pl⟩ : Pool).nodes.length ∧ ((⟨ql, qp⟩ : Pool), e) = (⟨nl, pl⟩, 9)) ∨
    ((⟨nl, pl⟩ : Pool).nodes.length < 16 ∧ ((⟨ql, qp⟩ : Pool), e).2 = 0 ∧ ((⟨ql, qp⟩ : Pool), e).1.zs (k + 1) ∧ pfind (zN k) ((⟨ql, qp⟩ : Pool), e).1.nodes = ({ zNode k with up := true }, true) ∧
      (∀ c up, (padd ((⟨ql, qp⟩ : Pool), e).1 ⟨zN k, c, [], up⟩).2 = 8) ∧ ((⟨ql, qp⟩ : Pool), e).1.nodes.length = (⟨nl, pl⟩ : Pool).nodes.length + 1 ∧ pright ((⟨ql, qp⟩ : Pool), e).1 = true)) :
    ((e = 9 ∧ 16 ≤ nl.length ∧ ql = nl ∧ qp = pl) ∨ (e = 0 ∧ nl.length < 16)) ∧
    (e = 0 → (⟨ql, qp⟩ : Pool).zs (k + 1) ∧ pfind (zN k) ql = (⟨zN k, ⟨1, 2, 3, 4⟩, [], true⟩, true) ∧ (∀ c up, (padd ⟨ql, qp⟩ ⟨zN k, c, [], up⟩).2 = 8) ∧ ql.length = nl.length + 1 ∧ pright ⟨ql, qp⟩ = true) ∧
    (ql.length ≤ 16 ∧ qp.length ≤ 120) ∧ (∀ x ∈ ql, x.labels.length < 1000000000) ∧ ∀ x ∈ ql, x.sm := by
  rcases h with ⟨h1, h2⟩ | ⟨h1, h2, h3, h4, h5, h6, h7⟩
  · simp only [Prod.mk.injEq, Pool.mk.injEq] at h2
    obtain ⟨⟨rfl, rfl⟩, rfl⟩ := h2
    exact ⟨.inl ⟨rfl, h1, rfl, rfl⟩, fun h => by simp at h, ⟨zk.ok.most, zk.places⟩, fun x hx => (zk.sm x hx).2.1, zk.sm⟩
  · simp only at h1 h2 h3 h4 h5 h6 h7
    exact ⟨.inr ⟨h2, h1⟩, fun _ => ⟨h3, h4, h5, h6, h7⟩, ⟨h3.ok.most, h3.places⟩, fun x hx => (h3.sm x hx).2.1, h3.sm⟩
theorem adds_no {e : Int} {nl ql : List Node} {pl qp : List Place} {u : List (List D)} {r : Bool} (he : (e = 9 ∧ 16 ≤ nl.length ∧ ql = nl ∧ qp = pl) ∨ (e = 0 ∧ nl.length < 16)) (hu : u.length = nl.length)
    (h : ¬(e = 9 ↔ (16 : Int) ≤ u.length) ∨ ¬ e = 0 ∧ r = false) (hr : r = decide (nl = ql ∧ pl = qp)) : False := by
  rcases he with ⟨h1, h2, rfl, rfl⟩ | ⟨h1, h2⟩
  · rcases h with h | ⟨_, h⟩
    · exact h ⟨fun _ => by omega, fun _ => h1⟩
    · rw [hr] at h; simp at h
  · rcases h with h | ⟨h, _⟩
    · exact h ⟨fun h => by omega, fun h => by omega⟩
    · exact h h1
theorem c_poolAdds (ht : TT t) {l : List Laid} {es : List (List D)} (hes : es = l.map Laid.cells) (hu : ∀ x ∈ l, x.u) (hl : l.length < 9223372036854775808) (c : Nat) (hn : c < 256) {a : Int} (ea : a = c) :
    FC 5 [SL es, .d (.int .u8 a)] [] (.ret (BL true)) [] := by
  obtain ⟨⟨nl0, pl0⟩, hP⟩ : ∃ P, P = fillS l := ⟨_, rfl⟩
  have z0 := fill_zs l
  rw [← hP] at z0
  obtain ⟨m24, hm⟩ : ∃ m : Nat, m = c % 24 := ⟨_, rfl⟩
  have hm24 : m24 < 24 := by omega
  have hme : IntKind.i64.wrap (a.tmod 24) = (m24 : Int) := by rw [ea, Int.tmod_eq_emod_of_nonneg (by omega), hm, wrap64 (by omega) (by omega)]; omega
  refine fc' ht (bx0 := []) Tryd.func5 (c := _) rfl rfl (N := 110) rfl (rs := _) rfl (n := 0) rfl rfl ?_
  cbv
  have len_es : es.length = l.length := by rw [hes, List.length_map]
  refine callF trivial (c_examples ht) trivial rfl rfl ?_
  cbv
  refine condI (fun h0 => ?_) (fun h0 => ?_)
  · simp [ht, ncast, len_es] at h0
  · simp [ht, ncast, len_es] at h0
    cbv
    refine callES trivial (c_filledE ht (by assumption) (by assumption) (by assumption)) trivial rfl rfl rfl (fun r1 er1 => ?_)
    simp only [ht] at er1
    rw [← hP] at er1
    subst r1
    cbv
    obtain ⟨J2, hJ2⟩ : ∃ J2 : Nat → Int × List (List D) × List (List D) → Prop, ∀ n i u v, J2 n (i, u, v) ↔ (∃ (k : Nat) (P : Pool), i = k ∧ k + n = 24 ∧ k ≤ m24 ∧ u = P.nodes.map Node.cells ∧ v = P.places.map Place.cells ∧ P.zs k) := ⟨fun n v => match v with | (i, u, v) => (∃ (k : Nat) (P : Pool), i = k ∧ k + n = 24 ∧ k ≤ m24 ∧ u = P.nodes.map Node.cells ∧ v = P.places.map Place.cells ∧ P.zs k), fun _ _ _ _ => Iff.rfl⟩
    refine loopU ⟨[1, 5, 6, 7], [], []⟩ (σ := Int × List (List D) × List (List D)) (fun v => [(7, .d (.int .i64 (t _ fun _ => v.1)))]) (fun v => [(0, .var [.d (.sl (t _ fun _ => v.2.1)), .d (.sl (t _ fun _ => v.2.2))])]) J2 ?_
    cbv
    refine loopIn ⟨24, (_, _, _), (hJ2 _ _ _ _).2 ?_, by simp only [ht]; rfl, ?_⟩
    · exact ⟨0, ⟨nl0, pl0⟩, rfl, by omega, by omega, rfl, rfl, z0⟩
    rintro n ⟨i, u, v⟩ hj
    replace hj := (hJ2 _ _ _ _).1 hj
    obtain ⟨k, ⟨nl, pl⟩, rfl, j2, j2', j3, j4, zk⟩ := hj
    have hul : u.length = nl.length := by rw [j3, List.length_map]
    have hk24 : k < 24 := by omega
    have hzn : [122] ++ List.map rowByte [[D.int IntKind.u8 (IntKind.u8.wrap (97 + IntKind.u8.wrap ((IntKind.i64.wrap ((k : Int) * 7)).tmod 24)))]] = zN k := by rw [zbyte hk24]; rfl
    obtain ⟨⟨⟨ql, qp⟩, e⟩, hF⟩ : ∃ F, F = padd ⟨nl, pl⟩ (zNode k) := ⟨_, rfl⟩
    have ac := adds_cases zk hk24
    rw [← hF] at ac
    obtain ⟨he, hb2, hql, hlq, hqsm⟩ := adds_facts zk ac
    have hls : ∀ x ∈ nl, x.labels.length < 1000000000 := fun x hx => (zk.sm x hx).2.1
    have bn : nl.length ≤ 16 := zk.ok.most
    have bp : pl.length ≤ 120 := zk.places
    have bq : qp.length ≤ 120 := hql.2
    have bl : ql.length ≤ 16 := hql.1
    cbv
    refine ⟨?_, ?_⟩
    · (simp only [ht, ncast] at *; omega)
    cbv
    refine condI (fun h3 => ?_) (fun h3 => ?_)
    · simp [ht, ncast, len_es] at h3
      cbv
      refine ⟨?_, ?_⟩
      · (simp only [ht, ncast] at *; omega)
      refine ⟨?_, ?_⟩
      · (simp only [ht]; intro r hr; rw [List.mem_singleton] at hr; exact ⟨_, hr⟩)
      refine ⟨?_, ?_⟩
      · (simp [ht, ncast]; done)
      cbv
      (refine callES trivial (c_addE ht (l := nl) (ps := pl) (by simp only [ht]; exact j3) (by simp only [ht]; exact j4) _ _ _ _ _ (lb := []) (by first | rfl | (simp only [ht] <;> rfl)) _ (by omega) (by simp only [ht]; simp) (by decide) (by simp)) (by simp [ht]) rfl rfl rfl (fun r9 er9 => ?_); simp only [ht, ncast] at er9; rw [hzn] at er9; replace er9 := er9.trans hF.symm; subst er9)
      cbv
      refine gI (by simp [ht, pickI_iff]) ?_
      refine gI (by simp [ht, pickI_iff]) ?_
      refine gI (by simp [ht, pickI_iff]) ?_
      refine gI (by simp [ht, pickI_iff]) ?_
      refine gI (by simp [ht, pickI_iff]) ?_
      refine callEQ (fun g4 => ⟨by simp [ht] at g4 ⊢; exact g4, trivial, c_sameE ht (by (simp only [ht]; ((try simp only [ncast] at *); omega))) (thE ht rfl) (by (simp only [ht]; ((try simp only [ncast] at *); omega))) (thE ht rfl) (by omega) (by ((try simp only [ncast] at *); omega)) (by omega) (by ((try simp only [ncast] at *); omega)) (by assumption) (by assumption)⟩) rfl rfl (fun r5 er5 => ?_)
      simp only [ht] at er5
      cbv
      refine gI (by simp [ht, pickI_iff]) ?_
      refine gI (by simp [ht, pickI_iff]; intros; simp_all) ?_
      refine pI (by simp [ht, pickI_iff]) ?_
      refine condI (fun h6 => ?_) (fun h6 => ?_)
      · simp [ht, ncast, len_es] at h6
        cbv
        refine retF trivial trivial rfl rfl rfl ?_
        (exfalso; exact adds_no he hul (by assumption) er5)
      · simp [ht, ncast, len_es] at h6
        cbv
        refine condI (fun h7 => ?_) (fun h7 => ?_)
        · simp [ht, ncast, len_es] at h7
          cbv
          refine retF trivial trivial rfl rfl rfl ?_
          rfl
        · simp [ht, ncast, len_es] at h7
          cbv
          (refine callES trivial (c_findE ht _ (l := ql) (by simp only [ht]) (by omega)) (by simp [ht]) rfl rfl rfl (fun r10 er10 => ?_); simp only [ht, ncast] at er10; rw [hzn] at er10; replace er10 := er10.trans (hb2 (by assumption)).2.1; subst er10)
          cbv
          (refine callES trivial (c_addE ht (l := ql) (ps := qp) (by simp only [ht]) (by simp only [ht]) _ _ _ _ _ (lb := []) (by first | rfl | (simp only [ht] <;> rfl)) _ (by omega) (by simp only [ht]; simp) (by decide) (by simp)) (by simp [ht]) rfl rfl rfl (fun r11 er11 => ?_); simp only [ht, ncast] at er11; rw [hzn] at er11; have e11 : r11.2 = 8 := (by rw [er11]; exact (hb2 (by assumption)).2.2.1 _ _); clear er11; obtain ⟨⟨rn, rp⟩, re⟩ := r11; simp only at e11; subst e11)
          cbv
          refine gI (by simp [ht, pickI_iff]) ?_
          refine gI (by simp [ht, pickI_iff]) ?_
          refine gI (by simp [ht, pickI_iff]) ?_
          refine pI (by simp [ht, pickI_iff]) ?_
          refine gI (by simp [ht, pickI_iff]) ?_
          refine gI (by simp [ht, pickI_iff]) ?_
          refine gI (by simp [ht, pickI_iff]) ?_
          refine gI (by simp [ht, pickI_iff]) ?_
          refine pI (by simp [ht, pickI_iff]) ?_
          refine gI (by simp [ht, pickI_iff]) ?_
          refine gI (by simp [ht, pickI_iff]) ?_
          refine pI (by simp [ht, pickI_iff]) ?_
          refine gI (by simp [ht, pickI_iff]) ?_
          refine gI (by simp [ht, pickI_iff]) ?_
          refine gI (by simp [ht, pickI_iff]) ?_
          refine gI (by simp [ht, pickI_iff]) ?_
          refine gI (by simp [ht, pickI_iff]) ?_
          refine gI (by simp [ht, pickI_iff]) ?_
          refine gI (by simp [ht, pickI_iff]) ?_
          refine gI (by simp [ht, pickI_iff]) ?_
          refine pI (by simp [ht, pickI_iff]) ?_
          refine gI (by simp [ht, pickI_iff]) ?_
          refine callEQ (fun g8 => ⟨by simp [ht] at g8 ⊢; exact g8, trivial, c_prightE ht (thE ht rfl) (thE ht rfl) (by ((try simp only [ncast] at *); omega)) (by ((try simp only [ncast] at *); omega)) (by assumption)⟩) rfl rfl (fun r9 er9 => ?_)
          simp only [ht] at er9
          replace er9 := er9.trans (hb2 (by assumption)).2.2.2.2
          subst r9
          cbv
          refine gI (by simp [ht, pickI_iff]) ?_
          refine pI (by simp [ht, pickI_iff]) ?_
          refine condI (fun h10 => ?_) (fun h10 => ?_)
          · simp [ht, ncast, len_es] at h10
            cbv
            refine retF trivial trivial rfl rfl rfl ?_
            (exfalso; have hq := (hb2 (by assumption)).2.2.2.1; have hw : IntKind.i64.wrap ((u.length : Int) + 1) = (u.length : Int) + 1 := wrap64 (by omega) (by omega); simp only [ncast] at *; omega)
          · simp [ht, ncast, len_es] at h10
            cbv
            refine loopC (_, _, _) (by simp only [ht]; rfl) (n - 1) ?_ ((hJ2 _ _ _ _).2 ?_)
            · omega
            · simp only [ht, ncast]
              exact ⟨k + 1, ⟨ql, qp⟩, i64_upN (by ((try simp only [ncast] at *); omega)), by ((try simp only [ncast] at *); omega), by ((try simp only [ncast] at *); omega), rfl, rfl, (hb2 (by assumption)).1⟩
    · simp [ht, ncast, len_es] at h3
      cbv
      refine retF trivial trivial rfl rfl rfl ?_
      rfl
end Dem
end
section
/- THE ROW: adds. -/
open Go Go.Proofs Go.ChangeShapes Go.WideShapes Go.RowKit
open Go.Proofs.YtegnablmooijmaaDoor
namespace Dem
set_option maxRecDepth 100000
theorem prm5 : Tryd.f5.params.toList = [22, 5] := by kernel_rfl
theorem adds_lifted (os : Os) (started : os.Started) (H : Type) (enc : TypeId × Value → H) :
    ReturnsInHanded {} Tryd.checked os 5 .any (fun w args => (Rows.poolAddsSpec.pre enc Tryd.checked.prog Tryd.f5 [] false w args ∧ laidMetH Tryd.prog laidL w) ∧ sizedMet enc Tryd.checked.prog Tryd.f5 (OpenSpec.ofChange Rows.poolAddsSpec) false w args)
      (Rows.poolAddsSpec.post enc Tryd.checked.prog Tryd.f5 false true false false) := by
  refine lifted_of started Tryd.func5 (by kernel_rfl) rfl (by kernel_rfl) (by kernel_rfl) ?_
    (ChangeSpec.witness_shaped (enc := enc) (C := Tryd.checked) (os := os) (X := fun w _ => laidMetH Tryd.prog laidL w) false (World.doorLaid Tryd.prog 400 os) #[.slice none 0 0, .int .u8 0] 8 rfl (World.shaped_of_RefB (by kernel_rfl) (by kernel_rfl)) (by kernel_rfl) (by kernel_rfl) (by kernel_rfl) (door_met os _)) ?_
  · intro ds hd
    rw [prm5] at hd
    match ds, hd with
    | [_d0, _d1], _ => exact ⟨rfl, rfl, rfl⟩
  · intro W args ds p hL hA hval
    rw [prm5] at hA
    obtain ⟨v0, vs0, d0, ds0, p0, q0, e0, f0, t0, hA⟩ := trodAll_cons hA
    obtain ⟨v1, vs1, d1, ds1, p1, q1, e1, f1, t1, hA⟩ := trodAll_cons hA
    obtain ⟨en, fn⟩ := trodAll_nil hA
    have ea : args = ⟨[v0, v1]⟩ := by cases args; simp_all
    subst ea
    obtain ⟨b0, hv0⟩ := hval 0 22 v0 (by kernel_rfl) rfl
    obtain ⟨l0, r0, hu0, hn0⟩ := arg_laids hv0 t0
    obtain ⟨b1, hv1⟩ := hval 1 5 v1 (by kernel_rfl) rfl
    obtain ⟨k1, r1, hk1⟩ := arg_byte hv1 t1
    exact calls_true hL (fun _ _ => rfl) (by simp only [RepAs]; exact ⟨v0, _, rfl, r0, v1, _, rfl, r1, rfl⟩) (c_poolAdds (fun _ _ => rfl) rfl hu0 (by have : maxLen < 9223372036854775808 := (by decide); omega) k1 hk1 rfl)
theorem adds_row : Rows.PoolAddsSaid :=
  OpenClaim.holds_of_wide 5 Tryd.f5 rfl rfl rfl rfl rfl rfl rfl ⟨rfl, rfl, rfl, rfl, rfl⟩ rfl rfl rfl rfl rfl (by kernel_rfl) Tryd.func5 (by kernel_rfl)
    (of_decide_eq_true (by kernel_rfl)) (by unfold Func.isWrapper; first | (rw [if_pos (by decide +kernel)]; kernel_rfl) | (rw [if_neg (by decide +kernel)]; exact ⟨rfl, rfl⟩))
    (fun os started H enc _ => adds_lifted os started H enc)
end Dem
end
