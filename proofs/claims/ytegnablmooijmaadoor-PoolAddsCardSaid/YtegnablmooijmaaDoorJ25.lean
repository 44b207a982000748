/- JOINED TEXTS: Co24, Sp5, Sp6, Sp7, Sp8, Pl1. -/
import Derived.Test.YtegnablmooijmaaDoorJ21
import Derived.Test.YtegnablmooijmaaDoorJ22
import Derived.Test.YtegnablmooijmaaDoorJ24
set_option linter.unusedSimpArgs false
set_option linter.unusedVariables false
section
/- CONTRACTS: pool.Fail. -/
open Go Dem Go.Proofs
namespace Dem
set_option maxRecDepth 100000
set_option maxHeartbeats 2000000
variable {t : Th}
def EFail (t : Th) (r : Pool × List Int × Int) : AV := .tup [EPool t r.1, SL (t _ fun _ => r.2.1.map u64Row), I64 r.2.2]
theorem lookMet {u : List (List D)} {l : List Met} (hu : u = l.map Met.cells) {j : Int} {c : Prop} {o : Option (List D)} {K : Option (List D) → Prop} (hc : c) (ho : o = mget u (.int .u64 j)) (h0 : K none) (h1 : ∀ x, K (some [.int .i64 x])) : LookWp true c o K := by
  subst hu
  rcases mget_met l j with h | ⟨x, h⟩
  · exact ⟨none, fun _ => ⟨hc, ho.trans h⟩, h0⟩
  · exact ⟨_, fun _ => ⟨hc, ho.trans h⟩, h1 x⟩
theorem fit_met {u : List (List D)} {l : List Met} (hu : u = l.map Met.cells) : ∀ r ∈ u, rowIs (.int .u64) 1 r := by
  subst hu; intro r hr; obtain ⟨m, _, rfl⟩ := List.mem_map.1 hr; exact ⟨_, _, rfl, rfl, rfl⟩
theorem metKeys_take {name : Str} {ps : List Place} {k : Nat} {x : Place} (h : ps[k]? = some x) : metKeys name (ps.take (k + 1)) = metStep name (metKeys name (ps.take k)) x := by
  unfold metKeys; rw [take_snoc h, List.foldl_append]; rfl
theorem c_turnFE (ht : TT t) (name : Str) {l : List Node} {ps : List Place} {es qs : List (List D)} (hes : es = l.map Node.cells) (hqs : qs = ps.map Place.cells) (hl : l.length < 1000000000) :
    FC 43 [.agg [SL es, SL qs], ST name, BL false] [] (.ret (EPoolE t (t _ fun _ => pturn ⟨l, ps⟩ name false))) [] := c_turnE ht name false hes hqs hl
theorem c_failE (ht : TT t) (name : Str) {l : List Node} {ps : List Place} {es qs : List (List D)} (hes : es = l.map Node.cells) (hqs : qs = ps.map Place.cells) (hl : l.length < 1000000000) (hpl : ps.length < 1000000000)
    (hj : ∀ x ∈ ps, 0 ≤ x.job ∧ x.job < 18446744073709551616) (h12 : (metKeys name ps).length ≤ 12) :
    FC 20 [.agg [SL es, SL qs], ST name] [] (.ret (EFail t (t _ fun _ => pfail ⟨l, ps⟩ name))) [] := by
  refine fc' ht (bx0 := []) Tryd.func20 (c := _) rfl rfl (N := 44) rfl (rs := _) rfl (n := 0) rfl rfl ?_
  cbv
  have len_es : es.length = l.length := by rw [hes, List.length_map]
  have len_qs : qs.length = ps.length := by rw [hqs, List.length_map]
  refine callES trivial (c_turnE ht _ _ (by assumption) (by assumption) (by assumption)) trivial rfl rfl rfl (fun r0 er0 => ?_)
  simp only [ht] at er0
  cbv
  refine condI (fun h1 => ?_) (fun h1 => ?_)
  · simp [ht, ncast, len_es, len_qs] at h1
    cbv
    refine retF trivial trivial rfl rfl rfl ?_
    (simp only [ht, ncast, EFail, EPoolE, EPool, pfail]; grind)
  · simp [ht, ncast, len_es, len_qs] at h1
    cbv
    obtain ⟨J2, hJ2⟩ : ∃ J2 : Nat → Int × List (List D) → Prop, ∀ n i u, J2 n (i, u) ↔ (∃ (k : Nat) (w : List Met), i = k ∧ k + n = ps.length ∧ u = w.map Met.cells ∧ w.map Met.job = metKeys name (ps.take k)) := ⟨fun n v => match v with | (i, u) => (∃ (k : Nat) (w : List Met), i = k ∧ k + n = ps.length ∧ u = w.map Met.cells ∧ w.map Met.job = metKeys name (ps.take k)), fun _ _ _ => Iff.rfl⟩
    refine loopU ⟨[1, 4, 7, 9, 24, 25, 26], [], []⟩ (σ := Int × List (List D)) (fun v => [(26, .d (.int .i64 (t _ fun _ => v.1)))]) (fun v => [(2, .mp false (t _ fun _ => v.2))]) J2 ?_
    cbv
    refine loopIn ⟨ps.length, (_, _), (hJ2 _ _ _).2 ?_, by simp only [ht]; rfl, ?_⟩
    · exact ⟨0, [], rfl, by simp, by simp [ht], rfl⟩
    rintro n ⟨i, u⟩ hj
    replace hj := (hJ2 _ _ _).1 hj
    obtain ⟨k, w, rfl, q1, q6, q4⟩ := hj
    have len_u : u.length = w.length := by rw [q6, List.length_map]
    have hnd : (w.map Met.job).Nodup := by rw [q4]; exact metKeys_nodup _ _ _ List.nodup_nil
    have hwj : ∀ m ∈ w, 0 ≤ m.job ∧ m.job < 18446744073709551616 := (by intro m hm; have h9 : m.job ∈ metKeys name (ps.take k) := (by rw [← q4]; exact List.mem_map.2 ⟨m, hm, rfl⟩); rw [metKeys, metKeys_mem] at h9; obtain ⟨x, hx, _, e⟩ := h9.resolve_left (by simp); rw [← e]; exact hj x (List.mem_of_mem_take hx))
    have hlen : w.length ≤ 12 := by have := congrArg List.length q4; rw [List.length_map] at this; have := metKeys_len name ps k; omega
    have hmk : ps.length ≤ k → msort (w.map Met.job) = pmet name ps := (by intro h9; rw [q4, List.take_of_length_le h9]; rfl)
    cbv
    refine condI (fun h3 => ?_) (fun h3 => ?_)
    · simp [ht, ncast, len_es, len_qs, len_u] at h3
      cbv
      refine idxM ht hqs (cT := Place.cellsT t) (by (simp only [ht, ncast]; omega)) (by (simp only [ht, ncast]; omega)) (fun _ => rfl) (fun _ => rfl) (fun x4 mx4 => ?_)
      simp [ht, ncast] at mx4
      cbv
      refine condI (fun h5 => ?_) (fun h5 => ?_)
      · simp [ht, ncast, len_es, len_qs, len_u] at h5
        cbv
        (refine lookMet q6 (by simp only [ht]; exact ⟨rfl, rfl, fit_met q6⟩) (by simp only [ht] <;> rfl) ?_ (fun c9 => ?_))
        · cbv
          refine ⟨?_, ?_⟩
          · (simp only [ht]; exact ⟨⟨rfl, rfl, fit_met q6⟩, trivial⟩)
          cbv
          refine loopC (_, _) (by simp only [ht]; rfl) (n - 1) ?_ ((hJ2 _ _ _).2 ?_)
          · omega
          · simp only [ht, ncast]
            first | exact ⟨k + 1, w, i64_upN (by ((try simp only [ncast] at *); omega)), by ((try simp only [ncast] at *); omega), q6, by rw [metKeys_take mx4, metStep, if_neg (by assumption)]; exact q4⟩ | exact ⟨k + 1, setMet w (x4).job _, i64_upN (by ((try simp only [ncast] at *); omega)), by ((try simp only [ncast] at *); omega), by rw [q6, mput_met], by rw [metKeys_take mx4, metStep, if_pos (by assumption), setMet_jobs, q4]⟩
        · cbv
          refine ⟨?_, ?_⟩
          · (simp only [ht]; exact ⟨⟨rfl, rfl, fit_met q6⟩, trivial⟩)
          cbv
          refine loopC (_, _) (by simp only [ht]; rfl) (n - 1) ?_ ((hJ2 _ _ _).2 ?_)
          · omega
          · simp only [ht, ncast]
            first | exact ⟨k + 1, w, i64_upN (by ((try simp only [ncast] at *); omega)), by ((try simp only [ncast] at *); omega), q6, by rw [metKeys_take mx4, metStep, if_neg (by assumption)]; exact q4⟩ | exact ⟨k + 1, setMet w (x4).job _, i64_upN (by ((try simp only [ncast] at *); omega)), by ((try simp only [ncast] at *); omega), by rw [q6, mput_met], by rw [metKeys_take mx4, metStep, if_pos (by assumption), setMet_jobs, q4]⟩
      · simp [ht, ncast, len_es, len_qs, len_u] at h5
        cbv
        refine loopC (_, _) (by simp only [ht]; rfl) (n - 1) ?_ ((hJ2 _ _ _).2 ?_)
        · omega
        · simp only [ht, ncast]
          first | exact ⟨k + 1, w, i64_upN (by ((try simp only [ncast] at *); omega)), by ((try simp only [ncast] at *); omega), q6, by rw [metKeys_take mx4, metStep, if_neg (by assumption)]; exact q4⟩ | exact ⟨k + 1, setMet w (x4).job _, i64_upN (by ((try simp only [ncast] at *); omega)), by ((try simp only [ncast] at *); omega), by rw [q6, mput_met], by rw [metKeys_take mx4, metStep, if_pos (by assumption), setMet_jobs, q4]⟩
    · simp [ht, ncast, len_es, len_qs, len_u] at h3
      cbv
      (refine ⟨.inr ⟨2, false, _, rfl, ?_⟩⟩)
      cbv
      refine drawI [false, false, false, false, true, true, true] (by kernel_rfl) (by kernel_rfl) ?_
      cbv
      refine gI (by simp [ht, pickI_iff]) ?_
      refine gI (by simp [ht, pickI_iff]) ?_
      refine .inl ?_
      refine callQS (fun g9 => ⟨trivial, trivial, c_keysE ht _⟩) rfl rfl rfl ?_
      cbv
      refine .inr (bornO trivial (c_sortedKeysE ht (by (simp only [ht]; ((try simp only [ncast] at *); omega))) (by assumption) (by assumption) (by assumption)) trivial rfl (.inr rfl) rfl ?_)
      cbv
      refine retF trivial (by simp [ht]) rfl rfl rfl ?_
      (simp only [ht, EFail, EPool, pfail]; rw [← er0, if_pos h1]; simp only [hmk (by ((try simp only [ncast] at *); omega))]; done)
end Dem
end
section
/- PLAIN WORDS: numbers that are got of bytes. -/
open Go
namespace Dem
set_option maxRecDepth 100000
/-- seven bits more -/
def wor (u : Int) (b : UInt8) (j : Nat) : Int := u + (((b.toNat % 128) * 2 ^ (7 * j) % 18446744073709551616 : Nat) : Int)
/-- the number that bytes begin with, and how many they are -/
def wscan : Nat → Nat → Str → Int → Option (Int × Nat)
  | 0, _, _, _ => none
  | _ + 1, _, [], _ => none
  | n + 1, j, b :: r, u => if b.toNat < 128 then some (wor u b j, j + 1) else wscan n (j + 1) r (wor u b j)
def wfound (s : Str) (p : Int) : Option (Int × Nat) := if p < 0 ∨ (s.length : Int) ≤ p then none else wscan 10 0 (s.drop p.toNat) 0
structure Got where
  u : Int
  next : Int
  ok : Bool
def Got.no : Got := ⟨0, 0, false⟩
def wget (s : Str) (p : Int) : Got := match wfound s p with
  | some (u, c) => if wput u = (s.drop p.toNat).take c then ⟨u, p + c, true⟩ else Got.no
  | none => Got.no
theorem or_add {a b i : Nat} (h : b < 2 ^ i) : b ||| (2 ^ i * a) = b + 2 ^ i * a := by
  rw [Nat.or_comm, ← Nat.two_pow_add_eq_or_of_lt h, Nat.add_comm]
end Dem
namespace Dem
set_option maxRecDepth 100000
theorem u8low (b : UInt8) : IntKind.u8.wrap ((BitVec.ofInt IntKind.u8.bits (b.toNat : Int) &&& ~~~BitVec.ofInt IntKind.u8.bits 128).toNat : Int) = ((b.toNat % 128 : Nat) : Int) := by
  have key : ∀ n : Nat, n < 256 → IntKind.u8.wrap ((BitVec.ofInt IntKind.u8.bits (n : Int) &&& ~~~BitVec.ofInt IntKind.u8.bits 128).toNat : Int) = ((n % 128 : Nat) : Int) := by decide
  exact key _ b.toNat_lt
theorem wrapU64 (x : Int) : IntKind.u64.wrap x = x % 18446744073709551616 := by simp [IntKind.wrap, IntKind.signed, IntKind.bits]
theorem wrapI64 {x : Int} (h0 : -9223372036854775808 ≤ x) (h1 : x < 9223372036854775808) : IntKind.i64.wrap x = x := by
  simp [IntKind.wrap, IntKind.signed, IntKind.bits]; omega
theorem shOk {i p : Int} {j : Nat} (hi : i = p + j) (hj : j < 10) : 0 ≤ IntKind.i64.wrap (7 * IntKind.i64.wrap (i - p)) := by
  have e : i - p = j := by omega
  rw [e, wrapI64 (x := (j : Int)) (by omega) (by omega), wrapI64 (by omega) (by omega)]; omega
theorem mul_mod_pow (c j : Nat) (hj : j < 10) : ∃ y, c * 2 ^ (7 * j) % 18446744073709551616 = 2 ^ (7 * j) * y ∧ 2 ^ (7 * j) * y + 2 ^ (7 * j) ≤ 18446744073709551616 := by
  have h64 : (18446744073709551616 : Nat) = 2 ^ (7 * j) * 2 ^ (64 - 7 * j) := by rw [← Nat.pow_add, show 7 * j + (64 - 7 * j) = 64 by omega]
  refine ⟨c % 2 ^ (64 - 7 * j), ?_, ?_⟩
  · rw [h64, Nat.mul_comm c, Nat.mul_mod_mul_left]
  · rw [h64, ← Nat.mul_succ]; exact Nat.mul_le_mul_left _ (Nat.mod_lt _ (Nat.two_pow_pos _))
theorem wor_bd {u : Int} {b : UInt8} {j : Nat} (hj : j < 10) (hu : 0 ≤ u ∧ u < 2 ^ (7 * j) ∧ u < 18446744073709551616) : 0 ≤ wor u b j ∧ wor u b j < 2 ^ (7 * (j + 1)) ∧ wor u b j < 18446744073709551616 := by
  obtain ⟨h0, h1, _⟩ := hu
  obtain ⟨v, rfl⟩ := Int.eq_ofNat_of_zero_le h0
  have h1 : v < 2 ^ (7 * j) := by exact_mod_cast h1
  obtain ⟨y, e1, e2⟩ := mul_mod_pow (b.toNat % 128) j hj
  have h3 : b.toNat % 128 * 2 ^ (7 * j) % 18446744073709551616 ≤ 127 * 2 ^ (7 * j) := Nat.le_trans (Nat.mod_le _ _) (Nat.mul_le_mul_right _ (by omega))
  have h4 : (2 : Nat) ^ (7 * (j + 1)) = 128 * 2 ^ (7 * j) := by rw [show 7 * (j + 1) = 7 + 7 * j by omega, Nat.pow_add]
  unfold wor
  refine ⟨by omega, ?_, by omega⟩
  have : v + b.toNat % 128 * 2 ^ (7 * j) % 18446744073709551616 < 2 ^ (7 * (j + 1)) := by omega
  exact_mod_cast this
theorem orStep {u i p : Int} {b : UInt8} {j : Nat} (hi : i = p + j) (hj : j < 10) (hu : 0 ≤ u ∧ u < 2 ^ (7 * j) ∧ u < 18446744073709551616) :
    IntKind.u64.wrap ((BitVec.ofInt IntKind.u64.bits u ||| BitVec.ofInt IntKind.u64.bits (IntKind.u64.wrap (IntKind.u64.wrap (IntKind.u8.wrap ((BitVec.ofInt IntKind.u8.bits (b.toNat : Int) &&& ~~~BitVec.ofInt IntKind.u8.bits 128).toNat : Int)) * 2 ^ (min (IntKind.i64.wrap (7 * IntKind.i64.wrap (i - p))).toNat IntKind.u64.bits)))).toNat : Int) = wor u b j := by
  have hb := wor_bd (b := b) hj hu
  obtain ⟨h0, h1, h2⟩ := hu
  have e : i - p = j := by omega
  rw [e, wrapI64 (x := (j : Int)) (by omega) (by omega), wrapI64 (x := 7 * (j : Int)) (by omega) (by omega), u8low, wrapU64 ((b.toNat % 128 : Nat) : Int)]
  have e2 : (7 * (j : Int)).toNat = 7 * j := by omega
  have e3 : min (7 * j) IntKind.u64.bits = 7 * j := by show min (7 * j) 64 = 7 * j; omega
  have e4 : ((b.toNat % 128 : Nat) : Int) % 18446744073709551616 = ((b.toNat % 128 : Nat) : Int) := by omega
  rw [e2, e3, e4]
  have e5 : (((b.toNat % 128 : Nat) : Int) * 2 ^ (7 * j)) = ((b.toNat % 128 * 2 ^ (7 * j) : Nat) : Int) := by push_cast; rfl
  rw [e5, wrapU64 ((b.toNat % 128 * 2 ^ (7 * j) : Nat) : Int)]
  obtain ⟨y, g1, g2⟩ := mul_mod_pow (b.toNat % 128) j hj
  have e6 : (((b.toNat % 128 * 2 ^ (7 * j) : Nat) : Int)) % 18446744073709551616 = ((2 ^ (7 * j) * y : Nat) : Int) := by rw [← g1]; rfl
  rw [e6]
  obtain ⟨v, rfl⟩ := Int.eq_ofNat_of_zero_le h0
  have h1 : v < 2 ^ (7 * j) := by exact_mod_cast h1
  have e7 : (BitVec.ofInt IntKind.u64.bits (v : Int) ||| BitVec.ofInt IntKind.u64.bits ((2 ^ (7 * j) * y : Nat) : Int)).toNat = v + 2 ^ (7 * j) * y := by
    show (BitVec.ofInt 64 (v : Int) ||| BitVec.ofInt 64 ((2 ^ (7 * j) * y : Nat) : Int)).toNat = v + 2 ^ (7 * j) * y
    rw [BitVec.toNat_or, BitVec.toNat_ofInt, BitVec.toNat_ofInt, ← or_add h1]
    congr 1 <;> omega
  rw [e7, wrapU64]
  unfold wor
  rw [g1]
  omega
theorem wscan_step {s : Str} {a j n : Nat} {u : Int} (hj : a + j < s.length) (hn : 0 < n) :
    wscan n j (s.drop (a + j)) u = if (s.getD (a + j) 0).toNat < 128 then some (wor u (s.getD (a + j) 0) j, j + 1) else wscan (n - 1) (j + 1) (s.drop (a + (j + 1))) (wor u (s.getD (a + j) 0) j) := by
  obtain ⟨m, rfl⟩ : ∃ m, n = m + 1 := ⟨n - 1, by omega⟩
  rw [List.drop_eq_getElem_cons hj, wscan]
  have e : s.getD (a + j) 0 = s[a + j] := by simp [hj]
  rw [e]; rfl
theorem wget_found {s : Str} {p : Int} {a j n : Nat} {u : Int} (ha : p = a) (hj : a + j < s.length) (hn : 0 < n) (j4 : wscan 10 0 (s.drop a) 0 = wscan n j (s.drop (a + j)) u) (hb : (s.getD (a + j) 0).toNat < 128) :
    wfound s p = some (wor u (s.getD (a + j) 0) j, j + 1) := by
  rw [wfound, if_neg (by omega), ha, Int.toNat_natCast, j4, wscan_step hj hn, if_pos hb]
theorem wget_none {s : Str} {p : Int} {a j n : Nat} {u : Int} (ha : p = a) (hj : s.length ≤ a + j ∨ n = 0) (j4 : wscan 10 0 (s.drop a) 0 = wscan n j (s.drop (a + j)) u) : wfound s p = none := by
  rw [wfound]
  split
  · rfl
  rw [ha, Int.toNat_natCast, j4]
  rcases hj with hj | rfl
  · rw [List.drop_eq_nil_of_le hj]; cases n <;> rfl
  · rfl
end Dem
namespace Dem
def wclose (s : Str) (p u next : Int) : Got := if 0 < next ∧ wput u = (s.drop p.toNat).take (next.toNat - p.toNat) then ⟨u, next, true⟩ else Got.no
theorem wget_close {s : Str} {p i : Int} {a j n : Nat} {u : Int} (ha : p = a) (hi : i = p + j) (hj : a + j < s.length) (hn : 0 < n) (j4 : wscan 10 0 (s.drop a) 0 = wscan n j (s.drop (a + j)) u) (hb : ((s.getD i.toNat 0).toNat : Int) < 128) :
    wget s p = wclose s p (wor u (s.getD i.toNat 0) j) (i + 1) := by
  have e0 : i.toNat = a + j := by omega
  rw [e0] at hb ⊢
  rw [wget, wget_found ha hj hn j4 (by omega), wclose]
  have e5 : (i + 1).toNat - p.toNat = j + 1 := by omega
  have e6 : 0 < i + 1 := by omega
  have e7 : p + ((j + 1 : Nat) : Int) = i + 1 := by omega
  simp only [e5, e6, true_and, e7]
end Dem
namespace Dem
theorem wscan_bd : ∀ (n j : Nat) (r : Str) (u : Int) {u' : Int} {c : Nat}, n + j = 10 → (0 ≤ u ∧ u < 2 ^ (7 * j) ∧ u < 18446744073709551616) → wscan n j r u = some (u', c) → 0 ≤ u' ∧ u' < 18446744073709551616 ∧ j < c ∧ c ≤ j + r.length
  | 0, _, _, _, _, _, _, _, h => by simp [wscan] at h
  | n + 1, _, [], _, _, _, _, _, h => by simp [wscan] at h
  | n + 1, j, b :: r, u, u', c, hn, hu, h => by
    have hb := wor_bd (b := b) (show j < 10 by omega) hu
    unfold wscan at h
    split at h
    · simp only [Option.some.injEq, Prod.mk.injEq] at h
      obtain ⟨rfl, rfl⟩ := h
      simp only [List.length_cons]; exact ⟨hb.1, hb.2.2, by omega, by omega⟩
    · have := wscan_bd n (j + 1) r _ (by omega) hb h
      simp only [List.length_cons]; omega
theorem wget_bd {s : Str} {p : Int} (h : (wget s p).ok = true) : 0 ≤ p ∧ p < (wget s p).next ∧ (wget s p).next ≤ s.length ∧ 0 ≤ (wget s p).u ∧ (wget s p).u < 18446744073709551616 := by
  unfold wget at h ⊢
  cases hw : wfound s p with
  | none => simp [hw, Got.no] at h
  | some x =>
    obtain ⟨u, c⟩ := x
    simp only [hw] at h ⊢
    split at h
    · rename_i he
      rw [if_pos he]
      unfold wfound at hw
      split at hw
      · simp at hw
      · rename_i hp
        have hp : 0 ≤ p ∧ p < s.length := by omega
        have := wscan_bd 10 0 _ 0 rfl (by simp) hw
        simp only [List.length_drop] at this
        refine ⟨hp.1, ?_, ?_, this.1, this.2.1⟩ <;> simp only <;> omega
    · simp [Got.no] at h
structure GotT where
  t : Str
  next : Int
  ok : Bool
def GotT.no : GotT := ⟨[], 0, false⟩
def wgetText (s : Str) (p most : Int) : GotT :=
  if (wget s p).ok = true ∧ 0 ≤ most ∧ (wget s p).u ≤ most ∧ (wget s p).u ≤ s.length - (wget s p).next then ⟨(s.drop (wget s p).next.toNat).take (wget s p).u.toNat, (wget s p).next + (wget s p).u, true⟩ else GotT.no
/-- how the code asks whether there is room -/
theorem text_raw {s : Str} {r : Got} {most : Int} (hs : s.length < 9223372036854775000) (hm : most < 9223372036854775808) (h0 : 0 ≤ most) (h1 : 0 ≤ r.next) (h2 : r.next ≤ s.length) :
    IntKind.u64.wrap (min most (IntKind.i64.wrap ((s.length : Int) - r.next))) = min most ((s.length : Int) - r.next) := by
  rw [wrapI64 (by omega) (by omega), wrapU64]; omega
structure GotV where
  v : Vec
  next : Int
  ok : Bool
def GotV.no : GotV := ⟨Vec.zero, 0, false⟩
def Vec.put (v : Vec) : Nat → Int → Vec
  | 0, x => { v with a := x }
  | 1, x => { v with b := x }
  | 2, x => { v with c := x }
  | _, x => { v with d := x }
def vgetGo (s : Str) : Nat → Vec → Int → GotV
  | 0, v, p => ⟨v, p, true⟩
  | n + 1, v, p => if (wget s p).ok then vgetGo s n (v.put (3 - n) (wget s p).u) (wget s p).next else GotV.no
def vget (s : Str) (p : Int) : GotV := vgetGo s 4 Vec.zero p
end Dem
namespace Dem
theorem text_no {s : Str} {p most : Int} {r : Got} (e : r = wget s p) (gb : r.ok = true → 0 ≤ p ∧ p < r.next ∧ r.next ≤ s.length ∧ 0 ≤ r.u ∧ r.u < 18446744073709551616) (hs : s.length < 9223372036854775000) (hm : most < 9223372036854775808)
    (h : (r.ok = false ∨ most < 0) ∨ IntKind.u64.wrap (min most (IntKind.i64.wrap ((s.length : Int) - r.next))) < r.u) : wgetText s p most = GotT.no := by
  rw [wgetText, if_neg]
  rw [← e]
  rintro ⟨h1, h2, h3, h4⟩
  obtain ⟨g1, g2, g3, g4, g5⟩ := gb h1
  rw [text_raw hs hm h2 (by omega) g3] at h
  rcases h with (h | h) | h
  · rw [h1] at h; cases h
  · omega
  · omega
theorem text_yes {s : Str} {p most : Int} {r : Got} (e : r = wget s p) (gb : r.ok = true → 0 ≤ p ∧ p < r.next ∧ r.next ≤ s.length ∧ 0 ≤ r.u ∧ r.u < 18446744073709551616) (hs : s.length < 9223372036854775000) (hm : most < 9223372036854775808)
    (h : (r.ok = true ∧ 0 ≤ most) ∧ r.u ≤ IntKind.u64.wrap (min most (IntKind.i64.wrap ((s.length : Int) - r.next)))) :
    wgetText s p most = ⟨cutL s (some r.next) (some (IntKind.i64.wrap (r.next + IntKind.i64.wrap r.u))), IntKind.i64.wrap (r.next + IntKind.i64.wrap r.u), true⟩ ∧ cutC s.length (some r.next) (some (IntKind.i64.wrap (r.next + IntKind.i64.wrap r.u))) := by
  obtain ⟨⟨h1, h2⟩, h3⟩ := h
  obtain ⟨g1, g2, g3, g4, g5⟩ := gb h1
  rw [text_raw hs hm h2 (by omega) g3] at h3
  rw [wrapI64 (x := r.u) (by omega) (by omega), wrapI64 (by omega) (by omega)]
  refine ⟨?_, by simp only [cutC]; omega⟩
  rw [wgetText, if_pos (by rw [← e]; exact ⟨h1, h2, by omega, by omega⟩), ← e]
  have : (r.next + r.u).toNat - r.next.toNat = r.u.toNat := by omega
  simp only [cutL, this]
theorem vgetGo_step {s : Str} {n : Nat} {v : Vec} {p : Int} {r : Got} (e : r = wget s p) : vgetGo s (n + 1) v p = if r.ok then vgetGo s n (v.put (3 - n) r.u) r.next else GotV.no := by rw [vgetGo, e]
end Dem
end
section
/- PLAIN WORDS: lists that are got of bytes. -/
open Go
namespace Dem
structure GotX (α : Type) where
  x : α
  next : Int
  ok : Bool
def GotX.noL {α : Type} : GotX (List α) := ⟨[], 0, false⟩
def gpair (s : Str) (p : Int) : GotX Pair :=
  if (wgetText s p 32).ok then ⟨⟨(wgetText s p 32).t, (wgetText s (wgetText s p 32).next 32).t⟩, (wgetText s (wgetText s p 32).next 32).next, (wgetText s (wgetText s p 32).next 32).ok⟩
  else ⟨⟨(wgetText s p 32).t, []⟩, (wgetText s p 32).next, (wgetText s p 32).ok⟩
def gsome {α : Type} (get : Int → GotX α) : Nat → List α → Int → GotX (List α)
  | 0, l, p => ⟨l, p, true⟩
  | n + 1, l, p => if (get p).ok then gsome get n (l ++ [(get p).x]) (get p).next else GotX.noL
def gall {α : Type} (s : Str) (p most : Int) (get : Int → GotX α) : GotX (List α) :=
  if (wget s p).ok = true ∧ (wget s p).u ≤ most then gsome get (wget s p).u.toNat [] (wget s p).next else GotX.noL
theorem gsome_step {α : Type} {get : Int → GotX α} {n : Nat} {l : List α} {p : Int} {r : GotX α} (e : r = get p) : gsome get (n + 1) l p = if r.ok then gsome get n (l ++ [r.x]) r.next else GotX.noL := by rw [gsome, e]
theorem wgetText_bd {s : Str} {p m : Int} (hs : s.length < 9223372036854775000) : 0 ≤ (wgetText s p m).next ∧ (wgetText s p m).next ≤ s.length ∧ (wgetText s p m).t.length ≤ s.length := by
  unfold wgetText
  split
  · rename_i h
    have := wget_bd h.1
    simp only [List.length_take, List.length_drop]; omega
  · simp [GotT.no]
theorem gpair_bd {s : Str} {p : Int} (hs : s.length < 9223372036854775000) : (gpair s p).next ≤ s.length := by
  unfold gpair; split
  · exact (wgetText_bd hs).2.1
  · exact (wgetText_bd hs).2.1
theorem gpair_sm {s : Str} {p : Int} (hs : s.length < 9223372036854775000) : (gpair s p).x.sm := by
  have h1 := (wgetText_bd (s := s) (p := p) (m := 32) hs).2.2
  unfold gpair Pair.sm; split
  · have h2 := (wgetText_bd (s := s) (p := (wgetText s p 32).next) (m := 32) hs).2.2
    exact ⟨by simp only; omega, by simp only; omega⟩
  · exact ⟨by simp only; omega, by simp⟩
theorem gsome_all {α : Type} {get : Int → GotX α} {q : α → Prop} (hq : ∀ p, q (get p).x) : ∀ (n : Nat) (l : List α) (p : Int), (∀ x ∈ l, q x) → ∀ x ∈ (gsome get n l p).x, q x
  | 0, l, p, hl => hl
  | n + 1, l, p, hl => by
    unfold gsome; split
    · exact gsome_all hq n _ _ (by intro x hx; rcases List.mem_append.1 hx with h | h; · exact hl x h
                                   · simp at h; subst h; exact hq p)
    · simp [GotX.noL]
theorem gall_all {α : Type} {s : Str} {p m : Int} {get : Int → GotX α} {q : α → Prop} (hq : ∀ p, q (get p).x) : ∀ x ∈ (gall s p m get).x, q x := by
  unfold gall; split
  · exact gsome_all hq _ _ _ (by simp)
  · simp [GotX.noL]
theorem gsome_len {α : Type} {get : Int → GotX α} : ∀ (n : Nat) (l : List α) (p : Int), (gsome get n l p).x.length ≤ l.length + n
  | 0, l, p => by simp [gsome]
  | n + 1, l, p => by
    unfold gsome; split
    · have := gsome_len (get := get) n (l ++ [(get p).x]) (get p).next; simp at this; omega
    · simp [GotX.noL]
theorem gall_len {α : Type} {s : Str} {p m : Int} {get : Int → GotX α} : ((gall s p m get).x.length : Int) ≤ max m 0 := by
  unfold gall; split
  · rename_i h
    have := gsome_len (get := get) (wget s p).u.toNat [] (wget s p).next
    have h2 := wget_bd h.1
    simp at this; omega
  · simp [GotX.noL]; omega
theorem gsome_bd {α : Type} {get : Int → GotX α} {L : Int} (hL : 0 ≤ L) (hg : ∀ p, (get p).next ≤ L) : ∀ (n : Nat) (l : List α) (p : Int), p ≤ L → (gsome get n l p).next ≤ L
  | 0, l, p, h => h
  | n + 1, l, p, h => by
    unfold gsome; split
    · exact gsome_bd hL hg n _ _ (hg p)
    · exact hL
theorem gall_bd {α : Type} {s : Str} {p m : Int} {get : Int → GotX α} (hg : ∀ p, (get p).next ≤ s.length) : (gall s p m get).next ≤ s.length := by
  unfold gall; split
  · rename_i h
    exact gsome_bd (by omega) hg _ _ _ (wget_bd h.1).2.2.1
  · simp [GotX.noL]
def lget (s : Str) (p : Int) : GotX (List Pair) := if (gall s p 8 (gpair s)).ok && lright (gall s p 8 (gpair s)).x then gall s p 8 (gpair s) else GotX.noL
end Dem
end
section
/- PLAIN WORDS: pools that are got of bytes, and put. -/
open Go
namespace Dem
theorem vgetGo_bd {s : Str} : ∀ (n : Nat) (v : Vec) (p : Int), p ≤ s.length → (vgetGo s n v p).next ≤ s.length
  | 0, v, p, h => h
  | n + 1, v, p, h => by
    unfold vgetGo; split
    · rename_i h1; exact vgetGo_bd n _ _ (wget_bd h1).2.2.1
    · simp [GotV.no]
theorem vget_bd {s : Str} {p : Int} : (vget s p).next ≤ s.length := by
  unfold vget vgetGo; split
  · rename_i h1; exact vgetGo_bd 3 _ _ (wget_bd h1).2.2.1
  · simp [GotV.no]
theorem lget_bd {s : Str} {p : Int} (hs : s.length < 9223372036854775000) : (lget s p).next ≤ s.length := by
  unfold lget; split
  · exact gall_bd (fun p => gpair_bd hs)
  · simp [GotX.noL]
theorem lget_sm {s : Str} {p : Int} (hs : s.length < 9223372036854775000) : (lget s p).x.length < 1000000000 ∧ ∀ q ∈ (lget s p).x, q.sm := by
  unfold lget; split
  · have := gall_len (s := s) (p := p) (m := 8) (get := gpair s)
    exact ⟨by omega, gall_all (fun p => gpair_sm hs)⟩
  · simp [GotX.noL]
def GotX.noN : GotX Node := ⟨Node.zero, 0, false⟩
def gnode (s : Str) (p : Int) : GotX Node :=
  if !(wgetText s p 32).ok then GotX.noN else
  if !(vget s (wgetText s p 32).next).ok then GotX.noN else
  if !(lget s (vget s (wgetText s p 32).next).next).ok then GotX.noN else
  ⟨⟨(wgetText s p 32).t, (vget s (wgetText s p 32).next).v, (lget s (vget s (wgetText s p 32).next).next).x, decide ((wget s (lget s (vget s (wgetText s p 32).next).next).next).u = 1)⟩,
    (wget s (lget s (vget s (wgetText s p 32).next).next).next).next, (wget s (lget s (vget s (wgetText s p 32).next).next).next).ok && decide ((wget s (lget s (vget s (wgetText s p 32).next).next).next).u ≤ 1)⟩
def GotX.noP : GotX Place := ⟨⟨0, [], Vec.zero⟩, 0, false⟩
def gcopy (s : Str) (p : Int) : GotX Place :=
  if !(wget s p).ok then GotX.noP else
  if !(wgetText s (wget s p).next 32).ok then GotX.noP else
  ⟨⟨(wget s p).u, (wgetText s (wget s p).next 32).t, (vget s (wgetText s (wget s p).next 32).next).v⟩, (vget s (wgetText s (wget s p).next 32).next).next, (vget s (wgetText s (wget s p).next 32).next).ok⟩
theorem wget_le {s : Str} {p : Int} : (wget s p).next ≤ s.length := by
  cases h : (wget s p).ok with
  | true => exact (wget_bd h).2.2.1
  | false =>
    unfold wget at h ⊢; split at h <;> rename_i h1
    · split at h
      · cases h
      · rename_i h2; simp only [h1, if_neg h2]; simp [Got.no]
    · simp [h1, Got.no]
theorem gnode_bd {s : Str} {p : Int} : (gnode s p).next ≤ s.length := by
  unfold gnode; split; · simp [GotX.noN]
  split; · simp [GotX.noN]
  split; · simp [GotX.noN]
  exact wget_le
theorem gcopy_bd {s : Str} {p : Int} : (gcopy s p).next ≤ s.length := by
  unfold gcopy; split; · simp [GotX.noP]
  split; · simp [GotX.noP]
  exact vget_bd
theorem gnode_sm {s : Str} {p : Int} (hs : s.length < 9223372036854775000) : (gnode s p).x.sm := by
  have z : Node.zero.sm := ⟨by simp [Node.zero], by simp [Node.zero], by simp [Node.zero]⟩
  unfold gnode; split; · exact z
  split; · exact z
  split; · exact z
  have h1 := (wgetText_bd (s := s) (p := p) (m := 32) hs).2.2
  have h2 := lget_sm (s := s) (p := (vget s (wgetText s p 32).next).next) hs
  exact ⟨by simp only; omega, h2.1, h2.2⟩
def GotX.noPool : GotX Pool := ⟨⟨[], []⟩, 0, false⟩
def pget (s : Str) (p : Int) : GotX Pool :=
  if !(gall s p 16 (gnode s)).ok then GotX.noPool else
  if (gall s (gall s p 16 (gnode s)).next 256 (gcopy s)).ok && pright ⟨(gall s p 16 (gnode s)).x, (gall s (gall s p 16 (gnode s)).next 256 (gcopy s)).x⟩
  then ⟨⟨(gall s p 16 (gnode s)).x, (gall s (gall s p 16 (gnode s)).next 256 (gcopy s)).x⟩, (gall s (gall s p 16 (gnode s)).next 256 (gcopy s)).next, true⟩ else GotX.noPool
end Dem
end
section
/- PLAIN WORDS: labels and pools as bytes. -/
open Go
namespace Dem
def lput1 (p : Pair) : Str := wputText p.key ++ wputText p.value
def lput (l : List Pair) : Str := if lright l then wput l.length ++ (l.map lput1).flatten else []
def nput (n : Node) : Str := wputText n.name ++ vput n.cap ++ lput n.labels ++ wput (if n.up then 1 else 0)
def xput (x : Place) : Str := wput x.job ++ wputText x.node ++ vput x.v
def pput (p : Pool) : Str := wput p.nodes.length ++ (p.nodes.map nput).flatten ++ wput p.places.length ++ (p.places.map xput).flatten
def Vec.u (v : Vec) : Prop := v.a < 18446744073709551616 ∧ v.b < 18446744073709551616 ∧ v.c < 18446744073709551616 ∧ v.d < 18446744073709551616
def Vec.at_ (v : Vec) : Nat → Int
  | 0 => v.a
  | 1 => v.b
  | 2 => v.c
  | _ => v.d
def vpre (v : Vec) : Nat → Str
  | 0 => []
  | k + 1 => vpre v k ++ wput (v.at_ k)
theorem vput_len (v : Vec) : (vput v).length ≤ 40 := by
  unfold vput
  have := wput_len v.a; have := wput_len v.b; have := wput_len v.c; have := wput_len v.d
  simp only [List.length_append]; omega
theorem flat_at {α : Type} {f : α → Str} {l : List α} {k : Nat} {x : α} (h : l[k]? = some x) : ((l.drop k).map f).flatten = f x ++ ((l.drop (k + 1)).map f).flatten := by
  obtain ⟨hk, rfl⟩ := List.getElem?_eq_some_iff.1 h
  rw [List.drop_eq_getElem_cons hk, List.map_cons, List.flatten_cons]
end Dem
end
section
/- PLAIN LAW: pools that stay right. No program in sight. -/
open Go
namespace Dem
/- names in order -/
theorem bl_lt : ∀ (x y : Str), Op.bytesLess x y = decide (x < y)
  | [], [] => by simp [Op.bytesLess]
  | a :: x, [] => by simp [Op.bytesLess]
  | [], b :: y => by simp [Op.bytesLess]
  | a :: x, b :: y => by
    have ih := bl_lt x y
    simp only [Op.bytesLess, ih]
    rw [Bool.eq_iff_iff]
    simp [List.cons_lt_cons_iff]
theorem slt_irrefl (x : Str) : ¬ x < x := List.lt_irrefl x
theorem slt_trans {x y z : Str} (h : x < y) (g : y < z) : x < z := List.lt_trans h g
theorem slt_tri (x y : Str) : x < y ∨ x = y ∨ y < x := by
  by_cases h : x < y
  · exact .inl h
  · by_cases g : y < x
    · exact .inr (.inr g)
    · exact .inr (.inl (List.le_antisymm (List.not_lt.1 g) (List.not_lt.1 h)))
theorem slt_asymm {x y : Str} (h : x < y) (g : y < x) : False := slt_irrefl x (slt_trans h g)
theorem sle_iff {x y : Str} : sle x y = true ↔ (x < y ∨ x = y) := by simp [sle, bl_lt]
theorem not_sle {x y : Str} : (!sle x y) = true ↔ y < x := by
  rcases slt_tri x y with h | rfl | h
  · have : ¬ y < x := fun g => slt_asymm h g
    simp [sle, bl_lt, h, this]
  · simp [sle]
  · simp only [sle, bl_lt]
    have h1 : ¬ x < y := fun g => slt_asymm h g
    have h2 : x ≠ y := fun e => by subst e; exact slt_irrefl x h
    simp [h1, h2, h]
abbrev Asc (l : List Node) : Prop := l.Pairwise (fun x y => x.name < y.name)
/-- a node that may be -/
def Node.fine (n : Node) : Bool := wright n.name && lright n.labels
structure Pool.ok (p : Pool) : Prop where
  asc : Asc p.nodes
  fine : ∀ n ∈ p.nodes, n.fine = true
  free : ∀ n ∈ p.nodes, (pfree n.name p.nodes p.places).2 = true
  most : p.nodes.length ≤ 16
  here : ∀ x ∈ p.places, ∃ n ∈ p.nodes, n.name = x.node
theorem prightF_iff {l : List Node} {ps : List Place} : ∀ (r : List Node) (q : Option Str), prightF l ps q r = true ↔
    ((∀ n ∈ r, n.fine = true) ∧ (∀ n ∈ r, (pfree n.name l ps).2 = true) ∧ Asc r ∧ ∀ a, q = some a → ∀ n ∈ r, a < n.name)
  | [], q => by simp [prightF]
  | n :: r, q => by
    have ih := prightF_iff (l := l) (ps := ps) r (some n.name)
    simp only [prightF, Bool.and_eq_true, ih]
    have hp : pvOk q n.name = true ↔ ∀ a, q = some a → a < n.name := by
      cases q with
      | none => simp [pvOk]
      | some a => simp only [pvOk, not_sle]; simp
    rw [hp]
    constructor
    · rintro ⟨⟨⟨⟨h1, h2⟩, h3⟩, h4⟩, g1, g2, g3, g4⟩
      refine ⟨?_, ?_, ?_, ?_⟩
      · intro m hm; rcases List.mem_cons.1 hm with rfl | hm
        · simp [Node.fine, h2, h3]
        · exact g1 m hm
      · intro m hm; rcases List.mem_cons.1 hm with rfl | hm
        · exact h1
        · exact g2 m hm
      · exact List.pairwise_cons.2 ⟨fun m hm => g4 _ rfl m hm, g3⟩
      · intro a ha m hm; rcases List.mem_cons.1 hm with rfl | hm
        · exact h4 a ha
        · exact slt_trans (h4 a ha) (g4 _ rfl m hm)
    · rintro ⟨h1, h2, h3, h4⟩
      have f := h1 n (by simp)
      simp only [Node.fine, Bool.and_eq_true] at f
      have h3' := List.pairwise_cons.1 h3
      exact ⟨⟨⟨⟨h2 n (by simp), f.1⟩, f.2⟩, fun a ha => h4 a ha n (by simp)⟩, fun m hm => h1 m (by simp [hm]), fun m hm => h2 m (by simp [hm]), h3'.2, fun a ha m hm => by cases ha; exact h3'.1 m hm⟩
theorem pright_iff {p : Pool} : pright p = true ↔ p.ok := by
  unfold pright
  simp only [Bool.and_eq_true, prightF_iff, decide_eq_true_eq, Bool.not_eq_true', List.any_eq_false, plost]
  constructor
  · rintro ⟨⟨⟨h1, h2, h3, _⟩, h5⟩, h6⟩
    refine ⟨h3, h1, h2, h5, fun x hx => ?_⟩
    have := h6 x hx
    simpa using this
  · rintro ⟨h1, h2, h3, h4, h5⟩
    refine ⟨⟨⟨h2, h3, h1, by simp⟩, h4⟩, fun x hx => ?_⟩
    obtain ⟨n, hn, e⟩ := h5 x hx
    simp; exact ⟨n, hn, e⟩
/- a node found -/
theorem find_mem {l : List Node} (ha : Asc l) {n : Node} (hn : n ∈ l) : l.find? (fun x => decide (x.name = n.name)) = some n := by
  induction l with
  | nil => cases hn
  | cons m r ih =>
    rw [List.find?_cons]
    have ha' := List.pairwise_cons.1 ha
    rcases List.mem_cons.1 hn with rfl | hn
    · simp
    · have : m.name ≠ n.name := fun e => by have := ha'.1 n hn; rw [e] at this; exact slt_irrefl _ this
      simp [this, ih ha'.2 hn]
theorem pfind_mem {l : List Node} (ha : Asc l) {n : Node} (hn : n ∈ l) : pfind n.name l = (n, true) := by
  unfold pfind; rw [find_mem ha hn]
theorem pfind_some {l : List Node} {name : Str} (h : (pfind name l).2 = true) : (pfind name l).1 ∈ l ∧ (pfind name l).1.name = name := by
  unfold pfind at h ⊢
  split at h
  · rename_i x hx
    have h1 := List.mem_of_find?_eq_some hx
    have h2 := List.find?_some hx
    exact ⟨h1, by simpa using h2⟩
  · cases h
theorem pfind_none {l : List Node} {name : Str} : (pfind name l).2 = false ↔ ∀ n ∈ l, n.name ≠ name := by
  unfold pfind
  split
  · rename_i x hx
    have h1 := List.mem_of_find?_eq_some hx
    have h2 := List.find?_some hx
    simp only [Bool.true_eq_false, false_iff]
    intro h; exact h x h1 (by simpa using h2)
  · rename_i hx
    rw [List.find?_eq_none] at hx
    simp only [true_iff]
    intro n hn e
    exact hx n hn (by simp [e])
/-- what is left of an amount behind copies -/
def left (name : Str) (ps : List Place) (v : Vec × Bool) : Vec × Bool := ps.foldl (freeStep name) v
theorem pfree_mem {l : List Node} (ha : Asc l) {n : Node} (hn : n ∈ l) (ps : List Place) : pfree n.name l ps = if (left n.name ps (n.cap, true)).2 then left n.name ps (n.cap, true) else (Vec.zero, false) := by
  unfold pfree; rw [pfind_mem ha hn]; rfl
theorem pfree_mem2 {l : List Node} (ha : Asc l) {n : Node} (hn : n ∈ l) (ps : List Place) : (pfree n.name l ps).2 = (left n.name ps (n.cap, true)).2 := by
  rw [pfree_mem ha hn]
  split
  · rfl
  · rename_i h; simp at h; simp [h]
theorem left_false (name : Str) (ps : List Place) : ∀ v, (left name ps (v, false)) = (v, false) := by
  induction ps with
  | nil => intro v; rfl
  | cons x r ih => intro v; simp only [left, List.foldl_cons]; rw [show freeStep name (v, false) x = (v, false) by simp [freeStep]]; exact ih v
theorem left_snoc (name : Str) (ps : List Place) (x : Place) (v : Vec × Bool) : left name (ps ++ [x]) v = freeStep name (left name ps v) x := by simp [left]
/- amounts, kind by kind -/
def Vec.w (v : Vec) : Prop := ∀ k < 4, 0 ≤ v.at_ k ∧ v.at_ k < 18446744073709551616
theorem Vec.ext_at {a b : Vec} (h : ∀ k < 4, a.at_ k = b.at_ k) : a = b := by
  rw [vec_eq]; exact ⟨h 0 (by decide), h 1 (by decide), h 2 (by decide), h 3 (by decide)⟩
theorem lt4 {P : Nat → Prop} : (∀ k < 4, P k) ↔ P 0 ∧ P 1 ∧ P 2 ∧ P 3 := by
  constructor
  · intro h; exact ⟨h 0 (by decide), h 1 (by decide), h 2 (by decide), h 3 (by decide)⟩
  · rintro ⟨h0, h1, h2, h3⟩ k hk
    match k, hk with
    | 0, _ => exact h0
    | 1, _ => exact h1
    | 2, _ => exact h2
    | 3, _ => exact h3
theorem subM_ok {x y : Int} : (subM x y).2 = true ↔ y.toNat ≤ x.toNat := by
  unfold subM; split <;> simp <;> omega
theorem addM_ok {x y : Int} : (addM x y).2 = true ↔ x.toNat + y.toNat < 18446744073709551616 := by
  unfold addM; split <;> simp <;> omega
theorem vsub_ok {a b : Vec} : (vsub a b).2 = true ↔ ∀ k < 4, (b.at_ k).toNat ≤ (a.at_ k).toNat := by
  rw [lt4]; simp only [Vec.at_, ← subM_ok]
  unfold vsub both; split
  · rename_i h; simp only [Bool.and_eq_true] at h; simp [h]
  · rename_i h; simp only [Bool.and_eq_true, not_and] at h; simp; intro h1 h2 h3; simpa using h ⟨⟨h1, h2⟩, h3⟩
theorem vadd_ok {a b : Vec} : (vadd a b).2 = true ↔ ∀ k < 4, (a.at_ k).toNat + (b.at_ k).toNat < 18446744073709551616 := by
  rw [lt4]; simp only [Vec.at_, ← addM_ok]
  unfold vadd both; split
  · rename_i h; simp only [Bool.and_eq_true] at h; simp [h]
  · rename_i h; simp only [Bool.and_eq_true, not_and] at h; simp; intro h1 h2 h3; simpa using h ⟨⟨h1, h2⟩, h3⟩
theorem vsub_at {a b : Vec} (h : (vsub a b).2 = true) : ∀ k < 4, (vsub a b).1.at_ k = ((((a.at_ k).toNat - (b.at_ k).toNat) % 18446744073709551616 : Nat) : Int) := by
  have h' := vsub_ok.1 h
  rw [lt4] at h' ⊢
  simp only [Vec.at_] at h' ⊢
  unfold vsub both at h ⊢
  split at h
  · rename_i g
    rw [if_pos g]
    simp only [subM]
    rw [if_neg (by omega), if_neg (by omega), if_neg (by omega), if_neg (by omega)]
    simp
  · cases h
theorem vadd_at {a b : Vec} (h : (vadd a b).2 = true) : ∀ k < 4, (vadd a b).1.at_ k = (((a.at_ k).toNat + (b.at_ k).toNat : Nat) : Int) := by
  have h' := vadd_ok.1 h
  rw [lt4] at h' ⊢
  simp only [Vec.at_] at h' ⊢
  unfold vadd both at h ⊢
  split at h
  · rename_i g
    rw [if_pos g]
    simp only [addM]
    rw [if_pos (by omega), if_pos (by omega), if_pos (by omega), if_pos (by omega)]
    simp
  · cases h
theorem vsub_w {a b : Vec} (h : (vsub a b).2 = true) : (vsub a b).1.w := by
  intro k hk; rw [vsub_at h k hk]; omega
def here (name : Str) (ps : List Place) : List Place := ps.filter (fun x => decide (x.node = name))
/-- what copies on a node have of a kind -/
def usedAt (k : Nat) (l : List Place) : Nat := (l.map (fun x => (x.v.at_ k).toNat)).sum
theorem left_spec (name : Str) : ∀ (ps : List Place) (v : Vec), v.w → ((left name ps (v, true)).2 = true ↔ ∀ k < 4, usedAt k (here name ps) ≤ (v.at_ k).toNat) ∧
    ((left name ps (v, true)).2 = true → ∀ k < 4, (left name ps (v, true)).1.at_ k = (((v.at_ k).toNat - usedAt k (here name ps) : Nat) : Int))
  | [], v, hv => by
    simp only [left, List.foldl_nil, here, List.filter_nil, usedAt, List.map_nil, List.sum_nil]
    exact ⟨by simp, fun _ k hk => by have := hv k hk; omega⟩
  | x :: r, v, hv => by
    by_cases hx : x.node = name
    · have e1 : left name (x :: r) (v, true) = left name r (vsub v x.v) := by simp [left, freeStep, hx]
      have e2 : here name (x :: r) = x :: here name r := by simp [here, hx]
      rw [e1, e2]
      cases hs : (vsub v x.v).2 with
      | false =>
        have e3 : vsub v x.v = ((vsub v x.v).1, false) := by rw [← hs]
        rw [e3, left_false]
        refine ⟨⟨fun h => Bool.noConfusion h, fun h => ?_⟩, fun h => Bool.noConfusion h⟩
        have : (vsub v x.v).2 = true := vsub_ok.2 fun k hk => by have := h k hk; simp [usedAt] at this; omega
        rw [hs] at this; cases this
      | true =>
        have e3 : vsub v x.v = ((vsub v x.v).1, true) := by rw [← hs]
        rw [e3]
        obtain ⟨i1, i2⟩ := left_spec name r (vsub v x.v).1 (vsub_w hs)
        have hat := vsub_at hs
        have hok := vsub_ok.1 hs
        constructor
        · rw [i1]
          constructor
          · intro h k hk; have a1 := h k hk; have a2 := hat k hk; have a3 := hok k hk; have a4 := hv k hk
            rw [a2] at a1; simp only [usedAt, List.map_cons, List.sum_cons] at a1 ⊢; omega
          · intro h k hk; have a1 := h k hk; have a2 := hat k hk; have a3 := hok k hk; have a4 := hv k hk
            rw [a2]; simp only [usedAt, List.map_cons, List.sum_cons] at a1 ⊢; omega
        · intro h k hk
          rw [i2 h k hk]; have a1 := (i1.1 h) k hk; have a2 := hat k hk; have a3 := hok k hk; have a4 := hv k hk
          rw [a2] at a1 ⊢; simp only [usedAt, List.map_cons, List.sum_cons] at a1 ⊢; omega
    · have e1 : left name (x :: r) (v, true) = left name r (v, true) := by simp [left, freeStep, hx]
      have e2 : here name (x :: r) = here name r := by simp [here, hx]
      rw [e1, e2]; exact left_spec name r v hv
theorem usedAt_sub {k : Nat} {l m : List Place} (h : l.Sublist m) : usedAt k l ≤ usedAt k m := by
  unfold usedAt
  induction h with
  | slnil => simp
  | cons a _ ih => simp; omega
  | cons_cons a _ ih => simp; omega
structure Pool.w (p : Pool) : Prop where
  cap : ∀ n ∈ p.nodes, n.cap.w
  v : ∀ x ∈ p.places, x.v.w
theorem Pool.ok_free {p : Pool} (h : p.ok) (hw : p.w) {n : Node} (hn : n ∈ p.nodes) : ∀ k < 4, usedAt k (Dem.here n.name p.places) ≤ (n.cap.at_ k).toNat := by
  have := h.free n hn
  rw [pfree_mem2 h.asc hn] at this
  exact (left_spec n.name p.places n.cap (hw.cap n hn)).1.1 this
end Dem
end
