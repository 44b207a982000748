/- JOINED TEXTS: Co21, Co22, Sp9, KsS, KsT, Co23, Ls1. -/
import Derived.Test.YtegnablmooijmaaDoorJ00
import Derived.Test.YtegnablmooijmaaDoorJ01
import Derived.Test.YtegnablmooijmaaDoorJ21
import Derived.Sort.Defs
import Derived.Sort.LotA
import Derived.RangeFuncBound
set_option linter.unusedSimpArgs false
set_option linter.unusedVariables false
section
/- CONTRACTS: the library's sort at uint64: what is short. -/
open Go Dem Go.Proofs
namespace Dem
set_option maxRecDepth 100000
set_option maxHeartbeats 2000000
variable {t : Th}
def u64Row (x : Int) : List D := [.int .u64 x]
def u64RowT (_ : Th) (x : Int) : List D := [.int .u64 x]
def ltI (x y : Int) : Bool := decide (x < y)
theorem c_nanE (ht : TT t) (x : Int) : FC 109 [U64 x] [] (.ret (EBool (t _ fun _ => false))) [] := by
  refine fc' ht (bx0 := []) Tryd.func109 (c := _) rfl rfl (N := 6) rfl (rs := _) rfl (n := 0) rfl rfl ?_
  cbv
  refine retF trivial trivial rfl rfl rfl ?_
  (simp [ht, EBool]; done)
theorem c_lessE (ht : TT t) (x y : Int) : FC 98 [U64 x, U64 y] [] (.ret (EBool (t _ fun _ => ltI x y))) [] := by
  refine fc' ht (bx0 := []) Tryd.func98 (c := _) rfl rfl (N := 17) rfl (rs := _) rfl (n := 0) rfl rfl ?_
  cbv
  refine callEF trivial (c_nanE ht _) trivial rfl rfl (fun r0 er0 => ?_)
  simp only [ht] at er0
  cbv
  refine gI (by simp [ht, pickI_iff]) ?_
  refine callEQ (fun g1 => ⟨by simp [ht] at g1 ⊢; exact g1, trivial, c_nanE ht _⟩) rfl rfl (fun r2 er2 => ?_)
  simp only [ht] at er2
  cbv
  refine gI (by simp [ht, pickI_iff]) ?_
  refine pI (by simp [ht, pickI_iff]) ?_
  refine gI (by simp [ht, pickI_iff]) ?_
  refine gI (by simp [ht, pickI_iff]) ?_
  refine gI (by simp [ht, pickI_iff]) ?_
  refine pI (by simp [ht, pickI_iff]; intros; simp_all) ?_
  refine retF trivial trivial rfl rfl rfl ?_
  (simp [ht, EBool, ltI, *]; done)
theorem insOuter_step (a b i : Nat) (d : Array Int) (h : i < b) : Sort.insOuter ltI a b i d = Sort.insOuter ltI a b (i + 1) (Sort.insInner ltI a i d) := by rw [Sort.insOuter, if_pos h]
theorem insOuter_end (a b i : Nat) (d : Array Int) (h : b ≤ i) : Sort.insOuter ltI a b i d = d := by rw [Sort.insOuter, if_neg (by omega)]
theorem u64_get {q : Array Int} {u : List (List D)} (hu : u = q.toList.map u64Row) {j : Nat} (h : j < q.size) : u.getD j [] = [.int .u64 q[j]!] := by
  subst hu; simp [List.getD, h, u64Row]
theorem rowU {q : Array Int} {u : List (List D)} (hu : u = q.toList.map u64Row) (j : Nat) {g : Bool} {c : Prop} {ds : List D} {K : List D → Prop} (h : g = true → j < q.size ∧ u.getD j [] = ds ∧ (j < u.length → c)) (hK : ∀ x, x = q[j]! → K [.int .u64 x]) : RowWp g c ds K := by
  refine rowG _ (fun hg => ?_) (hK _ rfl)
  obtain ⟨h1, h2, h3⟩ := h hg
  exact ⟨h3 (by rw [hu]; simpa using h1), by rw [← h2, u64_get hu h1]⟩
theorem u64_swp {q : Array Int} {u : List (List D)} (hu : u = q.toList.map u64Row) {i j : Nat} (hi : i < q.size) (hj : j < q.size) : (u.set i [.int .u64 q[j]!]).set j [.int .u64 q[i]!] = (Sort.swp q i j).toList.map u64Row := by
  subst hu; simp [Sort.swp, List.map_set, u64Row]
theorem swp_size (q : Array Int) (i j : Nat) : (Sort.swp q i j).size = q.size := by simp [Sort.swp]
theorem u64_st {q : Array Int} {u : List (List D)} (hu : u = q.toList.map u64Row) {i : Nat} (h : i < q.size) (y : Int) : u.set i (spliceD (u.getD i []) 0 [.int .u64 y]) = (q.setIfInBounds i y).toList.map u64Row := by
  rw [u64_get hu h]; subst hu; simp [spliceD, List.map_set, u64Row]
theorem u64_ok {q : Array Int} {u : List (List D)} (hu : u = q.toList.map u64Row) {i : Nat} (h : i < q.size) (x : D) : i < u.length ∧ 0 + [x].length ≤ (u.getD i []).length := by
  refine ⟨by rw [hu]; simpa using h, ?_⟩
  rw [u64_get hu h]; exact Nat.le_refl _
theorem insInner_go {a j : Nat} {q : Array Int} (h : a < j) (hl : ltI q[j]! q[j - 1]! = true) : Sort.insInner ltI a j q = Sort.insInner ltI a (j - 1) (Sort.swp q j (j - 1)) := by
  cases j with
  | zero => omega
  | succ j => rw [Sort.insInner, if_pos (by simpa using ⟨h, hl⟩)]; simp
theorem insInner_stop {a j : Nat} {q : Array Int} (h : a < j → ltI q[j]! q[j - 1]! = false) : Sort.insInner ltI a j q = q := by
  cases j with
  | zero => rfl
  | succ j => rw [Sort.insInner, if_neg (by simp; intro g; simpa using h (by omega))]
theorem c_insE (ht : TT t) (a b n : Nat) (d : Array Int) {es : List (List D)} {ai bi : Int} (ha : ai = a) (hbi : bi = b) (hes : es = d.toList.map u64Row) (hn : n = d.size) (hb : b ≤ n) (hl : n < 1000000000) (haa : a < 1000000000) :
    FC 92 [.ow 0 1 n, I64 ai, I64 bi] [.row 1 es] (.ret (.tup [])) [.row 1 (t _ fun _ => (Sort.insertionSort ltI d a b).toList.map u64Row)] := by
  refine fc' ht (bx0 := [.row 1 es]) Tryd.func92 (c := _) rfl rfl (N := 49) rfl (rs := _) rfl (n := 1) rfl rfl ?_
  cbv
  obtain ⟨J0, hJ0⟩ : ∃ J0 : Nat → Int × List (List D) → Prop, ∀ m i u, J0 m (i, u) ↔ (∃ (k : Nat) (r : Array Int), i = k ∧ b ≤ k + m ∧ a + 1 ≤ k ∧ k ≤ 1000000000 ∧ r.size = n ∧ u = r.toList.map u64Row ∧ Sort.insertionSort ltI d a b = Sort.insOuter ltI a b k r) := ⟨fun m v => match v with | (i, u) => (∃ (k : Nat) (r : Array Int), i = k ∧ b ≤ k + m ∧ a + 1 ≤ k ∧ k ≤ 1000000000 ∧ r.size = n ∧ u = r.toList.map u64Row ∧ Sort.insertionSort ltI d a b = Sort.insOuter ltI a b k r), fun _ _ _ => Iff.rfl⟩
  refine loopU ⟨[0, 1, 2, 6], [], []⟩ (σ := Int × List (List D)) (fun v => [(6, .d (.int .i64 (t _ fun _ => v.1)))]) (fun v => [(0, .row 1 (t _ fun _ => v.2))]) J0 ?_
  cbv
  refine loopIn ⟨b, (_, _), (hJ0 _ _ _).2 ?_, by simp only [ht]; rfl, ?_⟩
  · exact ⟨a + 1, d, by rw [ha]; exact i64_upN (by ((try simp only [ncast] at *); omega)), by ((try simp only [ncast] at *); omega), by ((try simp only [ncast] at *); omega), by ((try simp only [ncast] at *); omega), hn.symm, hes, rfl⟩
  rintro m ⟨i, u⟩ hj
  replace hj := (hJ0 _ _ _).1 hj
  obtain ⟨k, r, rfl, j1, j2, j3, j5, j6, j4⟩ := hj
  cbv
  refine condI (fun h1 => ?_) (fun h1 => ?_)
  · simp [ht, ncast] at h1
    cbv
    obtain ⟨J2, hJ2⟩ : ∃ J2 : Nat → Int × List (List D) → Prop, ∀ m2 jj u, J2 m2 (jj, u) ↔ (∃ (j : Nat) (q : Array Int), jj = j ∧ j ≤ m2 ∧ j ≤ k ∧ q.size = n ∧ u = q.toList.map u64Row ∧ Sort.insertionSort ltI d a b = Sort.insOuter ltI a b (k + 1) (Sort.insInner ltI a j q)) := ⟨fun m2 v => match v with | (jj, u) => (∃ (j : Nat) (q : Array Int), jj = j ∧ j ≤ m2 ∧ j ≤ k ∧ q.size = n ∧ u = q.toList.map u64Row ∧ Sort.insertionSort ltI d a b = Sort.insOuter ltI a b (k + 1) (Sort.insInner ltI a j q)), fun _ _ _ => Iff.rfl⟩
    refine loopU ⟨[0, 1, 2, 6, 7], [], []⟩ (σ := Int × List (List D)) (fun v => [(7, .d (.int .i64 (t _ fun _ => v.1)))]) (fun v => [(0, .row 1 (t _ fun _ => v.2))]) J2 ?_
    cbv
    refine loopIn ⟨k, (_, _), (hJ2 _ _ _).2 ?_, rfl, ?_⟩
    · exact ⟨k, r, rfl, by ((try simp only [ncast] at *); omega), by ((try simp only [ncast] at *); omega), j5, j6, by rw [j4, insOuter_step]; ((try simp only [ncast] at *); omega)⟩
    rintro m2 ⟨jj, u⟩ hj
    replace hj := (hJ2 _ _ _).1 hj
    obtain ⟨j, q, rfl, q1, q2, q5, q6, q4⟩ := hj
    cbv
    refine drawI [false, false, true, true, false, false, false, false, false, false, false, false, false, true, true] (by kernel_rfl) (by kernel_rfl) ?_
    cbv
    refine gI (by simp [ht, pickI_iff]) ?_
    refine gI (by simp [ht, pickI_iff]) ?_
    refine gI (by simp [ht, pickI_iff]) ?_
    refine gI (by simp [ht, pickI_iff]) ?_
    refine gI (by simp [ht, pickI_iff, cutC, ncast, ltI]; grind) ?_
    (refine rowU q6 j (fun g => (by simp [ht, ncast] at g ⊢; exact ⟨by ((try simp only [ncast] at *); omega), fun h => (by first | exact h | exact ⟨g, h⟩ | exact g | ((try simp only [ncast] at *); omega))⟩))  (fun y ey => ?_))
    cbv
    refine gI (by simp [ht, pickI_iff]) ?_
    refine gI (by simp [ht, pickI_iff]) ?_
    refine gI (by simp [ht, pickI_iff]) ?_
    refine gI (by (simp [ht, ncast]; intro g; rw [wrap64 (by ((try simp only [ncast] at *); omega)) (by ((try simp only [ncast] at *); omega))]; ((try simp only [ncast] at *); omega))) ?_
    (refine rowU q6 (j - 1) (fun g => (by simp only [ht, decide_eq_true_eq, ncast] at g ⊢; rw [wrap64 (by ((try simp only [ncast] at *); omega)) (by ((try simp only [ncast] at *); omega)), show ((j : Int) - 1).toNat = j - 1 by ((try simp only [ncast] at *); omega)]; exact ⟨by ((try simp only [ncast] at *); omega), rfl, fun h => (by first | exact h | exact ⟨g, h⟩ | exact ⟨trivial, h⟩)⟩))  (fun z ez => ?_))
    cbv
    refine callEQ (fun g3 => ⟨by simp [ht] at g3 ⊢; exact g3, trivial, c_lessE ht _ _⟩) rfl rfl (fun r4 er4 => ?_)
    simp only [ht] at er4
    cbv
    refine pI (by simp [ht, pickI_iff]) ?_
    refine condI (fun h5 => ?_) (fun h5 => ?_)
    · simp [ht, ncast] at h5
      cbv
      refine drawP [0, 1, 2, 3, 4, 5, 6, 7, 10, 11] [false, false, false, false, false, false, false, false, false, false, false, false, false, false, true, true, true, true] (by kernel_rfl) (by kernel_rfl) (by kernel_rfl) (by kernel_rfl) (by kernel_rfl) ?_
      cbv
      refine gI (by simp [ht, pickI_iff]) ?_
      refine gI (by simp [ht, pickI_iff]) ?_
      refine gI (by simp [ht, pickI_iff]) ?_
      refine gI (by simp [ht, pickI_iff]) ?_
      refine gI (by simp [ht, pickI_iff]) ?_
      refine gI (by simp [ht, pickI_iff]) ?_
      refine gI (by simp [ht, pickI_iff]) ?_
      refine gI (by simp [ht, pickI_iff]) ?_
      refine gI (by (simp [ht, ncast]; rw [wrap64 (by ((try simp only [ncast] at *); omega)) (by ((try simp only [ncast] at *); omega))]; ((try simp only [ncast] at *); omega))) ?_
      (refine rowU q6 (j - 1) (fun g => (by simp only [ht, ncast]; rw [wrap64 (by ((try simp only [ncast] at *); omega)) (by ((try simp only [ncast] at *); omega)), show ((j : Int) - 1).toNat = j - 1 by ((try simp only [ncast] at *); omega)]; exact ⟨by ((try simp only [ncast] at *); omega), rfl, fun h => h⟩))  (fun z2 ez2 => ?_))
      cbv
      refine gI (by simp [ht, pickI_iff]) ?_
      refine gI (by simp [ht, pickI_iff]) ?_
      refine gI (by simp [ht, pickI_iff, cutC, ncast, ltI]; grind) ?_
      (refine rowU q6 j (fun g => (by simp only [ht, ncast, Int.toNat_natCast]; exact ⟨by ((try simp only [ncast] at *); omega), trivial, fun h => h⟩))  (fun y2 ey2 => ?_))
      cbv
      refine ⟨?_, ?_⟩
      · (simp only [ht, ncast] at *; omega)
      refine ⟨?_, ?_⟩
      · (simp only [ht, ncast, Int.toNat_natCast]; exact u64_ok q6 (by ((try simp only [ncast] at *); omega)) _)
      refine ⟨?_, ?_⟩
      · (simp only [ht, ncast]; rw [wrap64 (by ((try simp only [ncast] at *); omega)) (by ((try simp only [ncast] at *); omega))]; ((try simp only [ncast] at *); omega))
      refine ⟨?_, ?_⟩
      · (simp only [ht, ncast, Int.toNat_natCast]; rw [wrap64 (by ((try simp only [ncast] at *); omega)) (by ((try simp only [ncast] at *); omega)), show ((j : Int) - 1).toNat = j - 1 by ((try simp only [ncast] at *); omega), u64_st q6 (by ((try simp only [ncast] at *); omega))]; exact u64_ok rfl (by simp; ((try simp only [ncast] at *); omega)) _)
      cbv
      refine loopC (_, _) (by simp only [ht]; rfl) (m2 - 1) ?_ ((hJ2 _ _ _).2 ?_)
      · ((try simp only [ncast] at *); omega)
      · simp only [ht, ncast]
        exact ⟨j - 1, Sort.swp q j (j - 1), wrapSub (by ((try simp only [ncast] at *); omega)) (by ((try simp only [ncast] at *); omega)), by ((try simp only [ncast] at *); omega), by ((try simp only [ncast] at *); omega), by rw [swp_size]; exact q5, by rw [wrap64 (by ((try simp only [ncast] at *); omega)) (by ((try simp only [ncast] at *); omega)), show ((j : Int) - 1).toNat = j - 1 by ((try simp only [ncast] at *); omega), Int.toNat_natCast, u64_st q6 (by ((try simp only [ncast] at *); omega)), u64_st rfl (by simp; ((try simp only [ncast] at *); omega)), ez2, ey2]; rfl, by rw [q4, insInner_go (by ((try simp only [ncast] at *); omega)) (by rw [← ey, ← ez, ← er4]; exact h5.2)]⟩
    · simp [ht, ncast] at h5
      cbv
      refine loopC (_, _) (by simp only [ht]; rfl) (m - 1) ?_ ((hJ0 _ _ _).2 ?_)
      · ((try simp only [ncast] at *); omega)
      · simp only [ht, ncast]
        exact ⟨k + 1, q, i64_upN (by ((try simp only [ncast] at *); omega)), by ((try simp only [ncast] at *); omega), by ((try simp only [ncast] at *); omega), by ((try simp only [ncast] at *); omega), q5, q6, by rw [q4, insInner_stop (fun g => by rw [← ey, ← ez, ← er4]; exact h5 (by ((try simp only [ncast] at *); omega)))]⟩
  · simp [ht, ncast] at h1
    cbv
    refine retF trivial trivial rfl ?_ rfl rfl
    (simp only [ht]; rw [j4, insOuter_end _ _ _ _ (by ((try simp only [ncast] at *); omega)), ← j6]; rfl)
end Dem
end
section
/- CONTRACTS: the library's sort at uint64: at most twelve. -/
open Go Dem Go.Proofs
namespace Dem
set_option maxRecDepth 100000
set_option maxHeartbeats 2000000
variable {t : Th}
def lenTab : List UInt8 := 0 :: 1 :: List.replicate 2 2 ++ List.replicate 4 3 ++ List.replicate 8 4 ++ List.replicate 16 5 ++ List.replicate 32 6 ++ List.replicate 64 7 ++ List.replicate 128 8
def len8 (x : Int) : Int := (lenTab.getD x.toNat 0).toNat
theorem wrapU8 {x : Int} (h0 : 0 ≤ x) (h1 : x < 256) : IntKind.u8.wrap x = x := by
  simp only [IntKind.wrap]; simp [IntKind.bits, IntKind.signed]; omega
theorem w64_byte (b : UInt8) : IntKind.i64.wrap (0 + IntKind.i64.wrap (b.toNat : Int)) = b.toNat := by
  have := b.toNat_lt
  rw [wrap64 (x := (b.toNat : Int)) (by omega) (by omega), Int.zero_add, wrap64 (by omega) (by omega)]
theorem c_len64E (ht : TT t) (x : Int) (hx0 : 0 ≤ x) (hx : x < 256) : FC 102 [U64 x] [] (.ret (EInt (t _ fun _ => len8 x))) [] := by
  have hw := wrapU8 hx0 hx
  refine fc' ht (bx0 := []) Tryd.func102 (c := _) rfl rfl (N := 25) rfl (rs := _) rfl (n := 0) rfl rfl ?_
  cbv
  refine condI (fun h0 => ?_) (fun h0 => ?_)
  · simp [ht, ncast] at h0
    omega
  · simp [ht, ncast] at h0
    cbv
    refine condI (fun h1 => ?_) (fun h1 => ?_)
    · simp [ht, ncast] at h1
      omega
    · simp [ht, ncast] at h1
      cbv
      refine condI (fun h2 => ?_) (fun h2 => ?_)
      · simp [ht, ncast] at h2
        omega
      · simp [ht, ncast] at h2
        cbv
        refine ⟨?_, ?_⟩
        · (simp only [ht, hw]; exact ⟨hx0, by simpa using hx⟩)
        cbv
        refine retF trivial trivial rfl rfl rfl ?_
        (simp only [ht, hw, w64_byte, EInt, len8]; rfl)
theorem c_lenE (ht : TT t) (x : Int) (hx0 : 0 ≤ x) (hx : x < 256) : FC 85 [U64 x] [] (.ret (EInt (t _ fun _ => len8 x))) [] := by
  refine fc' ht (bx0 := []) Tryd.func85 (c := _) rfl rfl (N := 8) rfl (rs := _) rfl (n := 0) rfl rfl ?_
  cbv
  refine condI (fun h0 => ?_) (fun h0 => ?_)
  · simp [ht, ncast] at h0
  · simp [ht, ncast] at h0
    cbv
    refine callEF trivial (c_len64E ht _ (by assumption) (by assumption)) trivial rfl rfl (fun r1 er1 => ?_)
    simp only [ht] at er1
    cbv
    refine retF trivial trivial rfl rfl rfl ?_
    (simp [ht, EInt, *]; done)
theorem c_pdqE (ht : TT t) (n : Nat) (lim : Int) (d : Array Int) {es : List (List D)} {ni : Int} (hni : ni = n) (hes : es = d.toList.map u64Row) (hn : n = d.size) (hl : n ≤ 12) :
    FC 84 [.ow 0 1 n, I64 0, I64 ni, I64 lim] [.row 1 es] (.ret (.tup [])) [.row 1 (t _ fun _ => (Sort.insertionSort ltI d 0 n).toList.map u64Row)] := by
  have hw : IntKind.i64.wrap ni = ni := wrap64 (by omega) (by omega)
  refine fc' ht (bx0 := [.row 1 es]) Tryd.func84 (c := _) rfl rfl (N := 134) rfl (rs := _) rfl (n := 1) rfl rfl ?_
  cbv
  obtain ⟨J0, hJ0⟩ : ∃ J0 : Nat → Int × Int × Int × Bool × Bool → Prop, ∀ m a b c f g, J0 m (a, b, c, f, g) ↔ (a = 0 ∧ b = ni) := ⟨fun m v => match v with | (a, b, c, f, g) => (a = 0 ∧ b = ni), fun _ _ _ _ _ _ => Iff.rfl⟩
  refine loopU ⟨[0, 1, 2, 3, 8, 9], [], []⟩ (σ := Int × Int × Int × Bool × Bool) (fun v => [(1, .d (.int .i64 (t _ fun _ => v.1))), (2, .d (.int .i64 (t _ fun _ => v.2.1))), (3, .d (.int .i64 (t _ fun _ => v.2.2.1))), (8, .d (.bool (t _ fun _ => v.2.2.2.1))), (9, .d (.bool (t _ fun _ => v.2.2.2.2)))]) (fun v => []) J0 ?_
  cbv
  refine loopIn ⟨1, (_, _, _, _, _), (hJ0 _ _ _ _ _ _).2 ?_, by simp only [ht]; rfl, ?_⟩
  · exact ⟨rfl, rfl⟩
  rintro m ⟨a, b, c, f, g⟩ hj
  replace hj := (hJ0 _ _ _ _ _ _).1 hj
  obtain ⟨ha1, hb1⟩ := hj
  have hw2 : IntKind.i64.wrap (b - a) = ni := by rw [ha1, hb1, Int.sub_zero, hw]
  cbv
  refine condI (fun h1 => ?_) (fun h1 => ?_)
  · simp [ht, ncast, hw] at h1
    cbv
    refine callB [0] trivial rfl rfl (c_insE ht 0 n n d (by simp only [ht]; ((try simp only [ncast] at *); omega)) (by simp only [ht]; ((try simp only [ncast] at *); omega)) hes hn (Nat.le_refl _) (by ((try simp only [ncast] at *); omega)) (by ((try simp only [ncast] at *); omega))) (backIn ?_)
    cbv
    refine retF trivial trivial rfl rfl rfl ?_
    rfl
  · simp [ht, ncast, hw] at h1
    (simp only [ncast] at *; omega)
theorem c_sortE (ht : TT t) (n : Nat) (d : Array Int) {es : List (List D)} (hes : es = d.toList.map u64Row) (hn : n = d.size) (hl : n ≤ 12) :
    FC 69 [.ow 0 1 n] [.row 1 es] (.ret (.tup [])) [.row 1 (t _ fun _ => (Sort.insertionSort ltI d 0 n).toList.map u64Row)] := by
  have hw : IntKind.u64.wrap (n : Int) = n := by simp only [IntKind.wrap]; simp [IntKind.bits, IntKind.signed]; omega
  have hel : (es.length : Int) = n := by rw [hes, hn]; simp
  refine fc' ht (bx0 := [.row 1 es]) Tryd.func69 (c := _) rfl rfl (N := 11) rfl (rs := _) rfl (n := 1) rfl rfl ?_
  cbv
  refine ⟨?_, ?_⟩
  · (simp only [ht, ncast] at *; omega)
  cbv
  refine callEF trivial (c_lenE ht _ (by simp only [ht]; simp only [ncast] at *; rw [hel, hw]; omega) (by simp only [ht]; simp only [ncast] at *; rw [hel, hw]; omega)) trivial rfl rfl (fun r1 er1 => ?_)
  cbv
  refine callB [0] trivial rfl rfl (c_pdqE ht n _ d (by simp only [ht]; exact hel) hes hn hl) (backIn ?_)
  cbv
  refine retF trivial trivial rfl rfl rfl ?_
  rfl
end Dem
end
section
/- PLAIN WORDS: jobs that a node's failing meets. -/
open Go
namespace Dem
structure Met where
  job : Int
  cnt : Int
def Met.cells (m : Met) : List D := [.int .u64 m.job, .int .i64 m.cnt]
def msort (l : List Int) : List Int := l.mergeSort (fun x y => decide (x ≤ y))
theorem asc_unique {l m : List Int} (hl : l.Pairwise (fun x y => x ≤ y)) (hm : m.Pairwise (fun x y => x ≤ y)) (h : l.Perm m) : l = m :=
  h.eq_of_pairwise (fun a b _ _ h1 h2 => Int.le_antisymm h1 h2) hl hm
theorem msort_perm (l : List Int) : (msort l).Perm l := List.mergeSort_perm _ _
@[simp] theorem msort_length (l : List Int) : (msort l).length = l.length := (msort_perm l).length_eq
theorem msort_asc (l : List Int) : (msort l).Pairwise (fun x y => x ≤ y) := by
  have := List.pairwise_mergeSort (le := fun x y : Int => decide (x ≤ y)) (by intro a b c; simp; omega) (by intro a b; simp; omega) l
  exact this.imp (by simp)
def metStep (name : Str) (js : List Int) (x : Place) : List Int := if x.node = name then (if x.job ∈ js then js else js ++ [x.job]) else js
def metKeys (name : Str) (ps : List Place) : List Int := ps.foldl (metStep name) []
def pmet (name : Str) (ps : List Place) : List Int := msort (metKeys name ps)
def pfail (p : Pool) (name : Str) : Pool × List Int × Int :=
  if (pturn p name false).2 = 0 then ((pturn p name false).1, pmet name p.places, 0) else ((pturn p name false).1, [], (pturn p name false).2)
def setMet : List Met → Int → Int → List Met
  | [], j, c => [⟨j, c⟩]
  | m :: l, j, c => if j = m.job then ⟨j, c⟩ :: l else m :: setMet l j c
theorem mget_met : ∀ (l : List Met) (j : Int), mget (l.map Met.cells) (.int .u64 j) = none ∨ ∃ x, mget (l.map Met.cells) (.int .u64 j) = some [.int .i64 x]
  | [], _ => .inl rfl
  | m :: l, j => by
    simp only [List.map_cons, Met.cells, mget, keyEq]
    by_cases h : j = m.job
    · subst h; exact .inr ⟨m.cnt, by simp⟩
    · have := mget_met l j
      simpa [h] using this
theorem mput_met : ∀ (l : List Met) (j c : Int), mput (l.map Met.cells) (.int .u64 j) [.int .i64 c] = (setMet l j c).map Met.cells
  | [], _, _ => rfl
  | m :: l, j, c => by
    simp only [List.map_cons, setMet]
    by_cases h : j = m.job
    · subst h; simp [Met.cells, mput, keyEq]
    · simp only [if_neg h, List.map_cons]
      rw [← mput_met l j c]
      simp [Met.cells, mput, keyEq, h]
theorem setMet_jobs : ∀ (l : List Met) (j c : Int), (setMet l j c).map Met.job = if j ∈ l.map Met.job then l.map Met.job else l.map Met.job ++ [j]
  | [], _, _ => by simp [setMet]
  | m :: l, j, c => by
    simp only [setMet]
    by_cases h : j = m.job
    · subst h; simp
    · rw [if_neg h, List.map_cons, List.map_cons, setMet_jobs l j c]
      by_cases h2 : j ∈ l.map Met.job
      · simp [h2]
      · rw [if_neg h2, if_neg (by simp only [List.mem_cons]; rintro (g | g); exact h g; exact h2 g)]; rfl
theorem metKeys_nodup (name : Str) : ∀ (ps : List Place) (js : List Int), js.Nodup → (ps.foldl (metStep name) js).Nodup
  | [], _, h => h
  | x :: r, js, h => by
    rw [List.foldl_cons]
    refine metKeys_nodup name r _ ?_
    unfold metStep
    split
    · split
      · exact h
      · rename_i g
        rw [List.nodup_append]
        exact ⟨h, by simp, fun a ha b hb e => g (by simp at hb; rw [← hb, ← e]; exact ha)⟩
    · exact h
theorem metKeys_mem (name : Str) (j : Int) : ∀ (ps : List Place) (js : List Int), j ∈ ps.foldl (metStep name) js ↔ j ∈ js ∨ ∃ x ∈ ps, x.node = name ∧ x.job = j
  | [], js => by simp
  | x :: r, js => by
    rw [List.foldl_cons, metKeys_mem name j r]
    unfold metStep
    by_cases hx : x.node = name
    · rw [if_pos hx]
      by_cases hj : x.job ∈ js
      · rw [if_pos hj]
        constructor
        · rintro (h | ⟨y, hy, g⟩)
          · exact .inl h
          · exact .inr ⟨y, by simp [hy], g⟩
        · rintro (h | ⟨y, hy, g1, g2⟩)
          · exact .inl h
          · rcases List.mem_cons.1 hy with rfl | hy
            · exact .inl (by rw [← g2]; exact hj)
            · exact .inr ⟨y, hy, g1, g2⟩
      · rw [if_neg hj]
        constructor
        · rintro (h | ⟨y, hy, g⟩)
          · rcases List.mem_append.1 h with h | h
            · exact .inl h
            · simp at h; exact .inr ⟨x, by simp, hx, h.symm⟩
          · exact .inr ⟨y, by simp [hy], g⟩
        · rintro (h | ⟨y, hy, g1, g2⟩)
          · exact .inl (by simp [h])
          · rcases List.mem_cons.1 hy with rfl | hy
            · exact .inl (by simp [g2])
            · exact .inr ⟨y, hy, g1, g2⟩
    · rw [if_neg hx]
      constructor
      · rintro (h | ⟨y, hy, g⟩)
        · exact .inl h
        · exact .inr ⟨y, by simp [hy], g⟩
      · rintro (h | ⟨y, hy, g1, g2⟩)
        · exact .inl h
        · rcases List.mem_cons.1 hy with rfl | hy
          · exact absurd g1 hx
          · exact .inr ⟨y, hy, g1, g2⟩
theorem metKeys_grow (name : Str) : ∀ (ps : List Place) (js : List Int), js.length ≤ (ps.foldl (metStep name) js).length
  | [], _ => Nat.le_refl _
  | x :: r, js => by
    rw [List.foldl_cons]
    refine Nat.le_trans ?_ (metKeys_grow name r _)
    unfold metStep
    split
    · split <;> simp
    · exact Nat.le_refl _
theorem metKeys_len (name : Str) (ps : List Place) (k : Nat) : (metKeys name (ps.take k)).length ≤ (metKeys name ps).length := by
  have h := metKeys_grow name (ps.drop k) (metKeys name (ps.take k))
  unfold metKeys at h ⊢
  rwa [← List.foldl_append, List.take_append_drop] at h
theorem pmet_mem {name : Str} {ps : List Place} {j : Int} : j ∈ pmet name ps ↔ ∃ x ∈ ps, x.node = name ∧ x.job = j := by
  unfold pmet
  rw [(msort_perm _).mem_iff, metKeys, metKeys_mem]; simp
theorem pmet_asc (name : Str) (ps : List Place) : (pmet name ps).Pairwise (fun x y => x < y) := by
  have h1 := msort_asc (metKeys name ps)
  have h2 : (pmet name ps).Nodup := (msort_perm _).nodup_iff.2 (metKeys_nodup name ps [] List.nodup_nil)
  exact h1.imp₂ (fun a b h g => by have : a ≠ b := g; omega) h2
end Dem
end
section
/- THE KEYS OF A MAP, SORTED (uint64). -/
namespace Dem
open Go Go.Proofs Go.RowKit Go.Maps Go.Sort Go.Shelf
variable {t : Th}
theorem swo_ltI : SWO ltI := by
  refine ⟨?_, ?_, ?_⟩ <;> simp only [ltI] <;> simp <;> omega
theorem ins_sorts (ss : List Int) : (Sort.insertionSort ltI ss.toArray 0 ss.length).toList = msort ss := by
  obtain ⟨⟨h0, h1, h2⟩, h3⟩ := insertionSort_holds (lt := ltI) swo_ltI ss.toArray 0 ss.length (Nat.zero_le _) (by simp)
  refine asc_unique ?_ (msort_asc ss) ?_
  · rw [List.pairwise_iff_getElem]
    intro i j hi hj hij
    have hs : (Sort.insertionSort ltI ss.toArray 0 ss.length).size = ss.length := by rw [h0]; simp
    simp only [Array.length_toList] at hi hj
    have := h3 i j (Nat.zero_le _) hij (by omega)
    rw [getElem!_pos _ j hj, getElem!_pos _ i hi] at this
    simp only [Array.getElem_toList]
    simp [ltI] at this
    exact this
  · refine List.Perm.trans ?_ (msort_perm ss).symm
    have hs : (Sort.insertionSort ltI ss.toArray 0 ss.length).size = ss.length := by rw [h0]; simp
    have e1 : (Sort.insertionSort ltI ss.toArray 0 ss.length).extract 0 ss.length = Sort.insertionSort ltI ss.toArray 0 ss.length := by
      apply Array.extract_eq_self_of_le; omega
    have e2 : ss.toArray.extract 0 ss.length = ss.toArray := by apply Array.extract_eq_self_of_le; simp
    rw [e1, e2] at h2
    simpa using h2
end Dem
end
section
/- slices.Sorted(maps.Keys(m)) IN THE CALCULUS (uint64). -/
namespace Go.Proofs
open Go Go.RowKit Go.Maps Go.Sort Go.Shelf
open Dem (encU u64Keys keyOf_u64 u64Of)
theorem Ks.sorted_in (F : Fence) (n : Nat) (h6 : F.fn 44) (h8 : F.fn 68) (h9 : F.fn 69) (h11 : F.fn 83) (hro : F.round = none) (hn : 4 ≤ n) (g : Nat) (lb : Array Value) (hFg : F.fn g) (eg : ∀ args w, (callFunc g args).run Tryd.prog w = .ok (.enter g args) w)
    (S : List Int → Prop) (N : Nat) (hN : N ≤ maxLen) (hNb : N * 8 ≤ 140737488355328) (w : World) (hseq : SeqGives F (n - 1 - 1 - 1) Tryd.prog g lb encU S N w)
    (Post : Value → List Int → World → Prop)
    (hsort : ∀ (v : Value) (ss : List Int) (W : World), S ss → W.ownsRow w.heap.size 33 1 v ss.length (ss.map encU) → (v = .slice none 0 0 ↔ ss = []) → Below w.heap.size w W → CallsIn F (n - 1) Tryd.prog 69 #[v] W fun e w' => e = .returned (.tuple #[]) ∧ Post v ss w') :
    CallsIn F n Tryd.prog 44 #[.func (.func g) #[] lb] w fun e w' => ∃ (v : Value) (ss : List Int), e = .returned v ∧ S ss ∧ Post v ss w' := by
  have h1 : 1 ≤ n := by omega
  refine callsIn_of_wp Tryd.func44 rfl h6 ?_ hro
  simp only [Tryd.ntmps44, List.size_toArray, List.length_cons, List.length_nil, Nat.reduceAdd, Nat.reduceSub, Array.replicate_succ, Array.replicate_zero, List.push_toArray, List.append_toArray, List.nil_append, List.cons_append]
  gi_wp2_with (gi_at_call 68; refine (Ks.collect_in F (n - 1) h8 h11 hro (by omega) g lb hFg eg S N hN hNb _ hseq).mono ?_; rintro e W ⟨v, ss, rfl, hS, hrow, hnil, hb⟩)
  have cS := hsort v ss W hS hrow hnil hb
  gi_wp2_with (gi_at_call 69; refine cS.mono ?_; rintro e w' ⟨rfl, hp⟩)
  go_ret
  exact ⟨v, ss, rfl, hS, hp⟩
end Go.Proofs
namespace Dem
open Go Go.Proofs Go.RowKit Go.Maps Go.Sort Go.Shelf
variable {t : Th}
/-- entries that stand in a map -/
theorem ents_met {w : World} {ok : Nat → Prop} : ∀ (l : List Met) (ms : List MapEntry), RepEnts w ok false (l.map Met.cells) ms → ms.map (·.key) = l.map (fun m => encU m.job)
  | [], ms, h => by simp only [List.map_nil, RepEnts] at h; subst h; rfl
  | m :: l, ms, h => by
    simp only [List.map_cons, RepEnts] at h
    obtain ⟨e, r, rfl, h1, h2⟩ := h
    simp only [Met.cells, RepEnt, RepD] at h1
    rw [List.map_cons, List.map_cons, ents_met l r h2, h1.1]
def anyR {H : Type} (_ : Value) : Option (DataW H × List MemPlace) := some (.nil, [])
theorem keyOf_mk {x : Int} (h0 : 0 ≤ x) (h1 : x < 18446744073709551616) : keyOf Tryd.prog 33 (encU x) = some (.int .u64 x) := by
  simp only [keyOf, Tryd.underlying33, mapKey, encU]
  rw [if_pos (by simp [Lit.wf, IntKind.min, IntKind.max, IntKind.signed, IntKind.bits]; omega)]
theorem owns_met {w : World} {ok : Nat → Prop} {l : List Met} {ms : Array MapEntry} {clock b : Nat} (hh : w.heap[b]? = some (.map ms clock)) (hs : stampsOk ms clock) (hr : RepEnts w ok false (l.map Met.cells) ms.toList)
    (hnd : (l.map Met.job).Nodup) (hw : ∀ m ∈ l, 0 ≤ m.job ∧ m.job < 18446744073709551616) (hlen : l.length ≤ 1000000) :
    ∃ D0 : DataW Unit, w.ownsMap Tryd.prog 33 anyR b ms.size D0 ∧ (u64Keys D0).Perm (l.map Met.job) ∧ Maps.size D0 = l.length := by
  have hk := ents_met l ms.toList hr
  have hl : ms.size = l.length := by have := congrArg List.length hk; simpa using this
  have hrd : ∀ x ∈ ms.toList, ∃ m ∈ l, x.key = encU m.job := by
    intro x hx
    have : x.key ∈ ms.toList.map (·.key) := List.mem_map.2 ⟨x, hx, rfl⟩
    rw [hk] at this
    obtain ⟨m, hm, e⟩ := List.mem_map.1 this
    exact ⟨m, hm, e.symm⟩
  have hread : ∀ x ∈ ms.toList, ∃ m ∈ l, x.key = encU m.job ∧ WideElems.rd Tryd.prog 33 (anyR (H := Unit)) x = some (.int .u64 m.job, .nil) := by
    intro x hx
    obtain ⟨m, hm, e⟩ := hrd x hx
    refine ⟨m, hm, e, ?_⟩
    unfold WideElems.rd
    rw [e, keyOf_mk (hw m hm).1 (hw m hm).2]
    rfl
  refine ⟨_, ⟨ms, clock, hh, ⟨?_, ⟨?_, hs.2, ?_⟩, ?_⟩, Nat.le_refl _, rfl⟩, ?_, ?_⟩
  · rw [hl]; exact Nat.le_trans hlen (by decide)
  · intro x hx
    have := hs.1
    rw [Array.all_eq_true_iff_forall_mem] at this
    simpa using this x (by simpa using hx)
  · rw [hk]
    have : (l.map (fun m => encU m.job)) = (l.map Met.job).map encU := by simp
    rw [this]
    exact List.pairwise_map.2 (hnd.imp (fun h e => h (encU_inj e)))
  · intro x hx
    obtain ⟨m, hm, e, h⟩ := hread x hx
    exact ⟨_, h⟩
  · show (List.map (fun p => u64Of p.1) ((ms.toList.map (WideElems.rg Tryd.prog 33 anyR)).foldr DataW.insert [])).Perm _
    refine ((WideShapes.sorted_perm _).map _).trans ?_
    have e1 : (ms.toList.map (WideElems.rg Tryd.prog 33 (anyR (H := Unit)))).map (fun p => u64Of p.1) = ms.toList.map (fun x => match x.key with | .int _ a => a | _ => 0) := by
      rw [List.map_map]
      refine List.map_congr_left fun x hx => ?_
      obtain ⟨m, hm, e, h⟩ := hread x hx
      simp only [Function.comp, WideElems.rg, h, e, encU]
      rfl
    have e2 : ms.toList.map (fun x => match x.key with | .int _ a => a | _ => 0) = (ms.toList.map (·.key)).map (fun k => match k with | .int _ a => a | _ => 0) := by rw [List.map_map]; rfl
    rw [e1, e2, hk, List.map_map]
    exact List.Perm.refl _
  · rw [Maps.size_eq, Go.length_sorted, List.length_map, Array.length_toList, hl]
end Dem
end
section
/- CONTRACTS: maps.Keys, slices.Sorted (uint64). -/
open Go Dem Go.Proofs
namespace Dem
set_option maxRecDepth 100000
set_option maxHeartbeats 2000000
variable {t : Th}
theorem c_keys1 (ht : TT t) (es : List (List D)) : FC 45 [.d (.mp false es)] [] (.ret (.fn 70 [.ptr 0 0])) [.var [.d (.mp false es)]] := by
  refine fc' ht (bx0 := []) Tryd.func45 (c := _) rfl rfl (N := 4) rfl (rs := _) rfl (n := 0) rfl rfl ?_
  cbv
  refine retS trivial ?_ ?_
  · rfl
  · rfl
/-- a variable that nobody writes any more, captured: told as data -/
theorem fcalls_capt {P : Program} {G : Nat → Option (List D)} {f g : Nat} {args : List AV} {x : D} (h : FCalls P G f args [] (.ret (.fn g [.ptr 0 0])) [.var [.d x]]) : FCalls P G f args [] (.ret (.fn g [.ep [x]])) [] := by
  intro β w vs X cx hx
  refine (h β w vs X cx hx).mono ?_
  rintro e w' ⟨β', ex, cx', hr⟩
  have hok : ∀ blk, okp β' [.var [.d x]] w' X blk → okp β' [] w' X blk := fun blk ⟨h1, h2, _⟩ => ⟨h1, h2, fun i b h => by simp at h⟩
  have hk : Keeps w' w' (okp β' [.var [.d x]] w' X) (okp β' [] w' X) := fun blk hb => ⟨hok blk hb, rfl⟩
  have b0 := cx'.box 0 _ rfl
  simp only [BoxOk] at b0
  obtain ⟨c, e', v1, v2⟩ := b0
  simp only [RepAs, RepA] at v2
  obtain ⟨u, r, hc, hu, rfl⟩ := v2
  refine ⟨β', ⟨ex.os, ex.tape, ex.output, ex.size, ex.block, ex.shape, fun i hi => by obtain ⟨b, h1, _⟩ := hi; simp at h1, fun i b h => by simp at h⟩, ?_, ?_⟩
  · refine ⟨cx'.xs, fun g ds hg => ?_, by simp, by simp, by simp⟩
    obtain ⟨h1, h2⟩ := cx'.glob g ds hg
    exact ⟨hok g h1, RepRow.mono hk g (fun _ => rfl) _ _ h2⟩
  · cases e with
    | returned v =>
      simp only [RepRes, RepA, RepAs] at hr ⊢
      obtain ⟨cs, rfl, p, ps, rfl, ⟨rfl, _⟩, rfl⟩ := hr
      refine ⟨_, rfl, _, _, rfl, ⟨β' 0, 0, rfl, ⟨(Array.getElem?_eq_some_iff.1 v1).1, cx'.apart 0 _ rfl rfl, fun i b h => by simp at h⟩, ?_⟩, rfl⟩
      simp only [RepRow, and_true]
      refine ⟨u, ?_, RepD.mono hk _ _ hu⟩
      simp only [World.cell?, v1]
      have : c[0]? = some u := by rw [← Array.getElem?_toList, hc]; rfl
      simpa using this
    | _ => exact hr.elim
theorem c_keysE (ht : TT t) (es : List (List D)) : FC 45 [.d (.mp false es)] [] (.ret (.fn 70 [.ep [.mp false es]])) [] := fcalls_capt (c_keys1 ht es)
theorem rep_u64 {w : World} {ok : Nat → Prop} {g : Nat} {cur : Array Value} {e : TypeId} (hg : w.heap[g]? = some (.cells cur e (0, 0))) : ∀ (ss : List Int) (off : Nat), (∀ i x, ss[i]? = some x → cur[off + i]? = some (encU x)) → RepRows w ok g 1 (ss.map u64Row) off
  | [], _, _ => by simp [RepRows]
  | x :: ss, off, h => by
    simp only [List.map_cons, RepRows, u64Row, List.length_cons, List.length_nil, RepRow, RepD, and_true, true_and]
    refine ⟨?_, rep_u64 hg ss (off + 1) (fun i y hy => by rw [show off + 1 + i = off + (i + 1) by omega]; exact h (i + 1) y (by simpa using hy))⟩
    refine ⟨encU x, ?_, rfl⟩
    have := h 0 x rfl
    simp only [World.cell?, hg]
    simpa using this
theorem callsIn_of_callF {n f : Nat} {vs : Array Value} {w : World} {R : Ending → World → Prop} (he : ∀ args w, (callFunc f args).run Tryd.prog w = .ok (.enter f args) w) (h : CallF Tryd.prog f vs w R) : CallsIn Fence.wide n Tryd.prog f vs w R := by
  rcases h with ⟨_, h⟩ | ⟨v, w', h, _⟩
  · exact callsIn_wide.2 h
  · rw [he] at h; cases h
theorem c_sortedKeysE (ht : TT t) {l : List Met} {es : List (List D)} (hes : es = l.map Met.cells) (hnd : (l.map Met.job).Nodup) (hw : ∀ m ∈ l, 0 ≤ m.job ∧ m.job < 18446744073709551616) (hlen : l.length ≤ 12) :
    FC 44 [.fn 70 [.ep [.mp false es]]] [] (.ret (.ow 0 1 (t _ fun _ => l.length))) [.row 1 (t _ fun _ => (msort (l.map Met.job)).map u64Row)] := by
  simp only [ht]
  intro β w vs X cx hx
  subst hes
  simp only [RepAs, RepA] at hx
  obtain ⟨u, us, rfl, ⟨cs, rfl, ⟨p, ps, rfl, ⟨bk, off, rfl, _, hrow0⟩, rfl⟩⟩, rfl⟩ := hx
  simp only [RepRow, RepD, and_true] at hrow0
  obtain ⟨mv, hcell0, bm, ms, clock, rfl, _, m1, m2, m3⟩ := hrow0
  obtain ⟨D0, o1, o2, o3⟩ := owns_met m1 m2 m3 hnd hw (by omega)
  have hbk : bk < w.heap.size := by
    rcases Nat.lt_or_ge bk w.heap.size with h | h
    · exact h
    · simp [World.cell?, h] at hcell0
  have hseq := Ks.keys_gives Fence.wide 1 trivial rfl (Nat.le_refl _) bk off bm _ D0 w hbk hcell0 o1
  have hps : ∀ ss : List Int, ss.Perm (u64Keys D0) → ss.Perm (l.map Met.job) := fun ss h => h.trans o2
  have key := Ks.sorted_in Fence.wide 4 trivial trivial trivial trivial rfl (Nat.le_refl _) 70 _ trivial (enters_of Tryd.func70 (by kernel_rfl) rfl) _ _ (by rw [o3]; exact Nat.le_trans hlen (by decide)) (by rw [o3]; omega) w hseq
    (fun v ss w' => ∃ β', Ext β [] w β' [.row 1 ((msort (l.map Met.job)).map u64Row)] w' ∧ Ctx gl β' [.row 1 ((msort (l.map Met.job)).map u64Row)] w' X ∧
      RepA β' [.row 1 ((msort (l.map Met.job)).map u64Row)] w' (okp β' [.row 1 ((msort (l.map Met.job)).map u64Row)] w' X) (.ow 0 1 l.length) v) ?_
  · refine .inl ⟨enters_of Tryd.func44 (by kernel_rfl) rfl _ _, (callsIn_wide.1 key).mono ?_⟩
    rintro e w' ⟨v, ss, rfl, _, β', h1, h2, h3⟩
    exact ⟨β', h1, h2, h3⟩
  · intro v ss W hS hrow hnil hb
    have hp := hps ss hS
    have hn : ss.length = l.length := by rw [hp.length_eq]; simp
    -- the row that was collected
    have hrep : ∃ β1, Ext β [] w β1 [.row 1 (ss.map u64Row)] W ∧ Ctx gl β1 [.row 1 (ss.map u64Row)] W X ∧ RepA β1 [.row 1 (ss.map u64Row)] W (okp β1 [.row 1 (ss.map u64Row)] W X) (.ow 0 1 ss.length) v := by
      rcases hrow.2 with ⟨rfl, hz⟩ | ⟨g, cap, cur, rfl, hbase, hg, r1, r2, r3, r4⟩
      · have hss : ss = [] := List.eq_nil_of_length_eq_zero hz
        subst hss
        have ex : Ext β [] w β [.row 1 (([] : List Int).map u64Row)] W := by
          refine ⟨hb.os, hb.tape, hb.output, hb.size, fun k hk _ => hb.block k hk, fun k c e f hk => ⟨c, by rw [hb.block k (Array.getElem?_eq_some_iff.1 hk).1]; exact hk, rfl⟩, fun i h => ?_, fun i b h hl => ?_⟩
          · obtain ⟨b, h1, _⟩ := h; simp at h1
          · cases i with
            | zero => simp at h; subst h; simp [Box.live] at hl
            | succ i => simp at h
        refine ⟨β, ex, ?_, ?_⟩
        · refine cx.step ex (fun i b h => ?_) (fun i j bi bj hi hj hli hlj _ => ?_)
          · cases i with
            | zero => simp at h; subst h; exact .inr (by simp [BoxOk])
            | succ i => simp at h
          · cases i with
            | zero => simp at hi; subst hi; simp [Box.live] at hli
            | succ i => simp at hi
        · simp only [RepA]
          exact ⟨⟨_, rfl, rfl⟩, .inl ⟨rfl, none, rfl⟩⟩
      · have ex : Ext β [] w (fun _ => g) [.row 1 (ss.map u64Row)] W := by
          refine ⟨hb.os, hb.tape, hb.output, hb.size, fun k hk _ => hb.block k hk, fun k c e f hk => ⟨c, by rw [hb.block k (Array.getElem?_eq_some_iff.1 hk).1]; exact hk, rfl⟩, fun i h => ?_, fun i b h hl => .inl hbase⟩
          obtain ⟨b, h1, _⟩ := h; simp at h1
        have hget : ∀ i x, ss[i]? = some x → cur[0 + i]? = some (encU x) := by
          intro i x hx
          have h1 : (cur.toList.take (ss.length * 1))[i]? = some (encU x) := by rw [r4]; simp [hx]
          rw [List.getElem?_take] at h1
          split at h1
          · simpa using h1
          · cases h1
        refine ⟨fun _ => g, ex, ?_, ?_⟩
        · refine cx.step ex (fun i b h => ?_) (fun i j bi bj hi hj hli hlj _ => ?_)
          · cases i with
            | zero =>
              simp only [List.getElem?_cons_zero, Option.some.injEq] at h; subst h
              refine .inr ?_
              simp only [BoxOk]
              exact .inr ⟨cur, _, hg, rep_u64 hg ss 0 hget⟩
            | succ i => simp at h
          · cases i with
            | zero => cases j with
              | zero => rfl
              | succ j => simp at hj
            | succ i => simp at hi
        · simp only [RepA]
          refine ⟨⟨_, rfl, rfl⟩, ?_⟩
          by_cases hz : ss.length = 0
          · exact absurd (hnil.2 (List.eq_nil_of_length_eq_zero hz)) (by simp)
          · exact .inr ⟨hz, cap, cur, _, (0, 0), rfl, r1, hg, by rw [r3]; exact Nat.le_refl _⟩
    obtain ⟨β1, x1, x2, x3⟩ := hrep
    have hs := c_sortE ht ss.length ss.toArray (es := ss.map u64Row) (by simp) (by simp) (by omega)
    simp only [ht] at hs
    have hc := hs β1 W [v] _ x2 (by simp only [RepAs]; exact ⟨v, [], rfl, x3, rfl⟩)
    refine callsIn_of_callF (enters_of Tryd.func69 (by kernel_rfl) rfl) (hc.mono ?_)
    rintro e w' ⟨β2, y1, y2, y3⟩
    cases e with
    | returned u =>
      simp only [RepRes, RepA] at y3
      obtain ⟨us, rfl, hu⟩ := y3
      simp only [RepAs] at hu; subst hu
      refine ⟨rfl, ?_⟩
      rw [ins_sorts, show msort ss = msort (l.map Met.job) from asc_unique (msort_asc _) (msort_asc _) ((msort_perm _).trans (hp.trans (msort_perm _).symm))] at y1 y2
      have x4 := RepA.mono (y1.lasts _) _ _ x3
      rw [hn] at x4
      exact ⟨_, x1.trans y1, y2, x4⟩
    | _ => exact y3.elim
end Dem
end
section
/- PLAIN WORDS: lists (what Insert, DeleteFunc come to). -/
namespace Dem
theorem ins_grow {es : List (List D)} {row z : List D} {i : Nat} (h : i ≤ es.length) : wrote (wrote (es.take i ++ List.replicate (es.length + 1 - i) z) i [row]) (i + 1) (es.drop i) = es.take i ++ row :: es.drop i := by
  have hl : (es.take i).length = i := by simp; omega
  have e1 : wrote (es.take i ++ List.replicate (es.length + 1 - i) z) i [row] = es.take i ++ row :: List.replicate (es.length - i) z := by
    unfold wrote
    rw [List.take_left' hl, show i + [row].length = (es.take i).length + 1 by rw [hl]; rfl, List.drop_length_add_append, List.drop_replicate]
    simp; omega
  rw [e1]
  unfold wrote
  rw [show i + 1 = (es.take i).length + 1 by rw [hl], List.take_length_add_append]
  have e2 : List.drop ((es.take i).length + 1 + (es.drop i).length) (es.take i ++ row :: List.replicate (es.length - i) z) = [] := by
    rw [List.drop_eq_nil_iff]; simp; omega
  rw [e2]
  simp
theorem ins_in {es : List (List D)} {row : List D} {i : Nat} (h : i < es.length) : wrote (wrote es (i + 1) (es.drop i)) i [row] = es.take i ++ row :: es.drop i := by
  have e1 : wrote es (i + 1) (es.drop i) = es.take (i + 1) ++ es.drop i := by
    unfold wrote
    have : es.drop (i + 1 + (es.drop i).length) = [] := by rw [List.drop_eq_nil_iff]; simp; omega
    rw [this, List.append_nil]
  rw [e1]
  unfold wrote
  have hl : (es.take (i + 1)).length = i + 1 := by simp; omega
  rw [List.take_append_of_le_length (by omega), List.take_take, show i + [row].length = (es.take (i + 1)).length by rw [hl]; rfl, List.drop_left]
  rw [Nat.min_eq_left (by omega)]; simp

/-- a whole row set anew -/
theorem spliceD_whole : ∀ (xs ys : List D), ys.length = xs.length → spliceD xs 0 ys = ys
  | [], [], _ => by simp [spliceD]
  | [], _ :: _, h => by simp at h
  | _ :: _, [], h => by simp at h
  | x :: xs, y :: ys, h => by
    simp only [spliceD]
    rw [spliceD_whole xs ys (by simpa using h)]

theorem take_set_succ {α : Type} : ∀ (l : List α) (i : Nat) (x : α), i < l.length → (l.set i x).take (i + 1) = l.take i ++ [x]
  | [], i, x, h => by simp at h
  | y :: l, 0, x, h => by simp
  | y :: l, i + 1, x, h => by
    simp only [List.set_cons_succ, List.take_succ_cons, List.cons_append]
    rw [take_set_succ l i x (by simpa using h)]
theorem drop_set_lt {α : Type} : ∀ (l : List α) (i j : Nat) (x : α), i < j → (l.set i x).drop j = l.drop j
  | [], i, j, x, h => by simp
  | y :: l, 0, j + 1, x, h => by simp
  | y :: l, i + 1, j + 1, x, h => by
    simp only [List.set_cons_succ, List.drop_succ_cons]
    exact drop_set_lt l i j x (by omega)
  | y :: l, _, 0, x, h => by omega
end Dem
end
