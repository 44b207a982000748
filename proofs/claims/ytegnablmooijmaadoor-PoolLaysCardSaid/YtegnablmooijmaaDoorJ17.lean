/- JOINED TEXTS: Fe2. -/
import Derived.Test.YtegnablmooijmaaDoorJ16
set_option linter.unusedSimpArgs false
set_option linter.unusedVariables false
/- THE CALCULUS FOR EVALUATION: one step, a region, code. -/
open Go
namespace Dem

/- arguments and results as they are told: own rows as data -/
section
variable (t : Th)
def fzT (bx : List Box) : AV → Option (Prop × AV)
  | .cl es => some (True, .d (.sl es))
  | .ow b sz n => match (AV.ow b sz n).toDT t bx with
    | some (c, d) => some (c, .d d)
    | none => none
  | .vw b sz off n ca ex => match (AV.vw b sz off n ca ex).rowsT t bx with
    | some (c, es) => some (c, .d (.sl es))
    | none => none
  | v => some (True, v)

def fzsT (bx : List Box) : List AV → Option (Prop × List AV)
  | [] => some (True, [])
  | x :: xs => match fzT t bx x, fzsT bx xs with
    | some (c, y), some (d, ys) => some (c ∧ d, y :: ys)
    | _, _ => none

def frz1T (bx : List Box) : AV → Option (Prop × AV)
  | .agg cs => match fzsT t bx cs with
    | some (c, ys) => some (c, .agg ys)
    | none => none
  | v => fzT t bx v

def frzsT (bx : List Box) : List AV → Option (Prop × List AV)
  | [] => some (True, [])
  | x :: xs => match frz1T t bx x, frzsT bx xs with
    | some (c, y), some (d, ys) => some (c ∧ d, y :: ys)
    | _, _ => none

def frzTT (bx : List Box) : AV → Option (Prop × AV)
  | .tup vs => match frzsT t bx vs with
    | some (c, ys) => some (c, .tup ys)
    | none => none
  | v => frz1T t bx v
end

section
variable {bx : List Box}
theorem fzT_fz {x y : AV} {c : Prop} (h : fzT t0 bx x = some (c, y)) (hc : c) : fz bx x = some y := by
  unfold fzT at h
  split at h
  · simp only [Option.some.injEq, Prod.mk.injEq] at h; obtain ⟨rfl, rfl⟩ := h; rfl
  · rename_i b sz n
    split at h
    · rename_i c' d h1
      simp only [Option.some.injEq, Prod.mk.injEq] at h; obtain ⟨rfl, rfl⟩ := h
      simp only [fz, toDT_D h1 hc, Option.map_some]
    · simp at h
  · rename_i b sz off n ca ex
    split at h
    · rename_i c' es h1
      simp only [Option.some.injEq, Prod.mk.injEq] at h; obtain ⟨rfl, rfl⟩ := h
      simp only [fz, rowsT_rows h1 hc, Option.map_some]
    · simp at h
  · rename_i h1 h2 h3
    simp only [Option.some.injEq, Prod.mk.injEq] at h; obtain ⟨rfl, rfl⟩ := h
    unfold fz; split
    · exact absurd rfl (h1 _)
    · exact absurd rfl (h2 _ _ _)
    · exact absurd rfl (h3 _ _ _ _ _ _)
    · rfl
theorem fzsT_fzs : ∀ {xs ys : List AV} {c : Prop}, fzsT t0 bx xs = some (c, ys) → c → fzs bx xs = some ys
  | [], ys, c, h, _ => by simp [fzsT] at h; simp [fzs, h.2]
  | x :: xs, ys, c, h, hc => by
    simp only [fzsT] at h
    split at h
    · rename_i c1 y d ys' h1 h2
      simp only [Option.some.injEq, Prod.mk.injEq] at h
      obtain ⟨rfl, rfl⟩ := h
      simp [fzs, fzT_fz h1 hc.1, fzsT_fzs h2 hc.2]
    · simp at h
theorem frz1T_frz1 {x y : AV} {c : Prop} (h : frz1T t0 bx x = some (c, y)) (hc : c) : frz1 bx x = some y := by
  unfold frz1T at h
  split at h
  · split at h
    · rename_i cs c' ys h1
      simp only [Option.some.injEq, Prod.mk.injEq] at h
      obtain ⟨rfl, rfl⟩ := h
      simp [frz1, fzsT_fzs h1 hc]
    · simp at h
  · rename_i h1
    unfold frz1; split
    · exact absurd rfl (h1 _)
    · exact fzT_fz h hc
theorem frzsT_frzs : ∀ {xs ys : List AV} {c : Prop}, frzsT t0 bx xs = some (c, ys) → c → frzs bx xs = some ys
  | [], ys, c, h, _ => by simp [frzsT] at h; simp [frzs, h.2]
  | x :: xs, ys, c, h, hc => by
    simp only [frzsT] at h
    split at h
    · rename_i c1 y d ys' h1 h2
      simp only [Option.some.injEq, Prod.mk.injEq] at h
      obtain ⟨rfl, rfl⟩ := h
      simp [frzs, frz1T_frz1 h1 hc.1, frzsT_frzs h2 hc.2]
    · simp at h
theorem frzTT_frzT {x y : AV} {c : Prop} (h : frzTT t0 bx x = some (c, y)) (hc : c) : frzT bx x = some y := by
  unfold frzTT at h
  split at h
  · split at h
    · rename_i cs c' ys h1
      simp only [Option.some.injEq, Prod.mk.injEq] at h
      obtain ⟨rfl, rfl⟩ := h
      simp [frzT, frzsT_frzs h1 hc]
    · simp at h
  · rename_i h1
    unfold frzT; split
    · exact absurd rfl (h1 _)
    · exact frz1T_frz1 h hc
end

/-- A call, for evaluation: 'fz': its arguments with own rows told as data. -/
structure CallT (FC : Nat → List AV → List Box → Res → List Box → Prop) (oks : Prop) (f : Nat) (args : List AV) (fz : Option (Prop × List AV)) (bx : List Box)
    (K : AV → List Box → Prop) (Kp : AV → List Box → Prop) : Prop where
  ok : oks ∧ (
    (∃ c args', fz = some (c, args') ∧ c ∧ AV.shut.shuts args' = true ∧
      ((∃ v, FC f args' [] (.ret v) [] ∧ (v.flat = true ∨ frzs [] args = some args' ∧ v.shut = true) ∧ K v bx) ∨
       (∃ sz n es, FC f args' [] (.ret (.ow 0 sz n)) [.row sz es] ∧ ((∀ r ∈ es, ∀ x ∈ r, x.flat = true) ∨ frzs [] args = some args') ∧ K (.ow bx.length sz n) (bx ++ [.row sz es])))) ∨
    (∃ args' bx1 res bx2, (args' = args ∧ bx1 = bx ∨ (∃ c, fz = some (c, args') ∧ c) ∧ bx1 = seals1 bx args) ∧ FC f args' bx1 res bx2 ∧
      (match res with | .ret v => K v bx2 | .pan v => Kp v bx2)))

structure CallQT (FC : Nat → List AV → List Box → Res → List Box → Prop) (dr g : Bool) (oks : Prop) (f : Nat) (args : List AV) (bx : List Box) (fz : Option (Prop × List AV)) (K : AV → Prop) : Prop where
  ok : (dr = false ∧ ∃ v, (g = true → oks ∧ FC f args bx (.ret v) bx) ∧ K v) ∨ ∃ v, (g = true → oks ∧ ∃ args' bxV, (∃ c, fz = some (c, args') ∧ c) ∧ AV.namesIn.namesIns bxV args' = true ∧ looseBoxes bxV bxV = true ∧
    (∀ (i : Nat) (b : Box), bxV[i]? = some b → b.born = true → ∃ b', bx[i]? = some b' ∧ b'.born = true ∧ (b.live = true → b' = b)) ∧ FC f args' bxV (.ret v) bxV ∧
    (v.flat = true ∨ frzs [] args = some args' ∧ v.shut = true)) ∧ K v

/-- under a guard something must hold -/
structure GuardI (g : Bool) (p : Prop) : Prop where
  ok : g = true → p
/-- what is picked must be there -/
structure PickI (p : Bool) (a b : Prop) : Prop where
  ok : (p = true → a) ∧ (p = false → b)
theorem guardI_iff {g : Bool} {p : Prop} : GuardI g p ↔ (g = true → p) := ⟨fun h => h.ok, fun h => ⟨h⟩⟩
theorem pickI_iff {p : Bool} {a b : Prop} : PickI p a b ↔ ((p = true → a) ∧ (p = false → b)) := ⟨fun h => h.ok, fun h => ⟨h⟩⟩

/-- what stands in an own row at a place: its condition, its cells -/
structure RowWp (g : Bool) (c : Prop) (ds : List D) (K : List D → Prop) : Prop where
  ok : ∃ ds', (g = true → c ∧ ds = ds') ∧ K ds'

/-- what is done through a view: its value, and the boxes behind it, as the prover tells them -/
structure ViewWp (c : Prop) (v : AV) (bx : List Box) (K : AV → List Box → Prop) : Prop where
  ok : ∃ v' bx', c ∧ v = v' ∧ bx = bx' ∧ K v' bx'
structure ViewG (g : Bool) (c : Prop) (v : AV) (K : AV → Prop) : Prop where
  ok : ∃ v', (g = true → c ∧ v = v') ∧ K v'

def isBig (ev : Operand → AV) (o : Op) : Bool := bif isView ev o then (match o with
  | .slice _ _ _ _ _ => true
  | .call { callee := .builtin b, .. } => match b with
    | .copy => true
    | .clear => true
    | .append => true
    | _ => false
  | _ => false) else false

def idxT (t : Th) (T : Nat → Option TI) (ty : Nat) (x i : AV) : Option (Prop × List D) :=
  match T ty with
  | some ti => match ti.kd, x, i with
    | .slice e, .d (.sl es), .d (.int _ z) => match T e with
      | some te => some (t Prop (fun _ => 0 ≤ z ∧ z < es.length ∧ (∀ r ∈ es, r.length = te.size)), t _ fun _ => es.getD z.toNat [])
      | none => none
    | .slice e, .cl es, .d (.int _ z) => match T e with
      | some te => some (t Prop (fun _ => 0 ≤ z ∧ z < es.length ∧ (∀ r ∈ es, r.length = te.size)), t _ fun _ => es.getD z.toNat [])
      | none => none
    | _, _, _ => none
  | none => none

theorem idxT_R {T : Nat → Option TI} {ty : Nat} {x i : AV} : idxT t0 T ty x i = idxR T ty x i := by
  unfold idxT idxR; rfl

/-- which operations stand alone, from number i on -/
def barsFrom (b : List Nat) : Nat → List Oper → List Bool
  | _, [] => []
  | i, _ :: r => barrier b i :: barsFrom b (i + 1) r

/-- a call that makes an own row, in a region whose order is open -/
structure BornI (FC : Nat → List AV → List Box → Res → List Box → Prop) (oks : Prop) (f : Nat) (args : List AV) (fz : Option (Prop × List AV)) (at_ : Option Box) (x : Nat) (K : AV → Box → Prop) : Prop where
  ok : ∃ args' sz n es, oks ∧ (∃ c, fz = some (c, args') ∧ c) ∧ AV.shut.shuts args' = true ∧ FC f args' [] (.ret (.ow 0 sz n)) [.row sz es] ∧
    ((∀ r ∈ es, ∀ x ∈ r, x.flat = true) ∨ frzs [] args = some args') ∧ at_ = some .unborn ∧ K (.ow x sz n) (.row sz es)

def isCall : Op → Bool
  | .call { callee := .value _, .. } => true
  | _ => false

/-- a region whose order is open: which of its operations stand alone -/
structure DrawI (ops : List Oper) (A : Option Nat → List Bool → Prop) (X : List Nat → Prop) : Prop where
  ok : ∃ k pre late fs, ((pre = [] ∧ late = []) ∨ (preFit ops.toArray [] pre = true ∧ noSel ops.toArray = true ∧ lateFit (tightL pre 0 ops).toArray late = true ∧ (k = none ∧ X pre ∨ pre = []))) ∧
    (DrawFit (lateL (tightL pre 0 ops).toArray late 0 (tightL pre 0 ops)) ∧ barsFrom (befores (lateL (tightL pre 0 ops).toArray late 0 (tightL pre 0 ops)) []) 0 ops = fs) ∧ A k fs
theorem drawI {ops : List Oper} {A : Option Nat → List Bool → Prop} {X : List Nat → Prop} (fs : List Bool) (h1 : drawFit ops.toArray (befores ops []) 0 ops = true) (h2 : barsFrom (befores ops []) 0 ops = fs) (h : A none fs) : DrawI ops A X :=
  ⟨none, [], [], fs, .inl ⟨rfl, rfl⟩, by rw [tightL_nil, lateL_nil]; exact ⟨⟨h1⟩, h2⟩, h⟩
/-- an own row in a slot is told as data from now on -/
theorem drawS {ops : List Oper} {A : Option Nat → List Bool → Prop} {X : List Nat → Prop} (k : Nat) (fs : List Bool) (h1 : drawFit ops.toArray (befores ops []) 0 ops = true) (h2 : barsFrom (befores ops []) 0 ops = fs) (h : A (some k) fs) : DrawI ops A X :=
  ⟨some k, [], [], fs, .inl ⟨rfl, rfl⟩, by rw [tightL_nil, lateL_nil]; exact ⟨⟨h1⟩, h2⟩, h⟩
/-- the same, where some operations are carried out as soon as they may be -/
theorem drawSL {ops : List Oper} {A : Option Nat → List Bool → Prop} {X : List Nat → Prop} (k : Nat) (late : List Nat) (fs : List Bool) (hs : noSel ops.toArray = true) (hl : lateFit (tightL [] 0 ops).toArray late = true)
    (h1 : drawFit (lateL (tightL [] 0 ops).toArray late 0 (tightL [] 0 ops)).toArray (befores (lateL (tightL [] 0 ops).toArray late 0 (tightL [] 0 ops)) []) 0 (lateL (tightL [] 0 ops).toArray late 0 (tightL [] 0 ops)) = true)
    (h2 : barsFrom (befores (lateL (tightL [] 0 ops).toArray late 0 (tightL [] 0 ops)) []) 0 ops = fs) (h : A (some k) fs) : DrawI ops A X :=
  ⟨some k, [], late, fs, .inr ⟨rfl, hs, hl, .inr rfl⟩, ⟨⟨h1⟩, h2⟩, h⟩
/-- some of its operations are carried out first, some as soon as they may be -/
theorem drawL {ops : List Oper} {A : Option Nat → List Bool → Prop} {X : List Nat → Prop} (pre late : List Nat) (fs : List Bool) (hp : preFit ops.toArray [] pre = true) (hs : noSel ops.toArray = true) (hl : lateFit (tightL pre 0 ops).toArray late = true) (hx : X pre)
    (h1 : drawFit (lateL (tightL pre 0 ops).toArray late 0 (tightL pre 0 ops)).toArray (befores (lateL (tightL pre 0 ops).toArray late 0 (tightL pre 0 ops)) []) 0 (lateL (tightL pre 0 ops).toArray late 0 (tightL pre 0 ops)) = true)
    (h2 : barsFrom (befores (lateL (tightL pre 0 ops).toArray late 0 (tightL pre 0 ops)) []) 0 ops = fs) (h : A none fs) : DrawI ops A X :=
  ⟨none, pre, late, fs, .inr ⟨hp, hs, hl, .inl ⟨rfl, hx⟩⟩, ⟨⟨h1⟩, h2⟩, h⟩
theorem drawP {ops : List Oper} {A : Option Nat → List Bool → Prop} {X : List Nat → Prop} (pre : List Nat) (fs : List Bool) (hp : preFit ops.toArray [] pre = true) (hs : noSel ops.toArray = true) (hx : X pre)
    (h1 : drawFit (tightL pre 0 ops).toArray (befores (tightL pre 0 ops) []) 0 (tightL pre 0 ops) = true) (h2 : barsFrom (befores (tightL pre 0 ops) []) 0 ops = fs) (h : A none fs) : DrawI ops A X :=
  ⟨none, pre, [], fs, .inr ⟨hp, hs, rfl, .inl ⟨rfl, hx⟩⟩, by rw [lateL_nil]; exact ⟨⟨h1⟩, h2⟩, h⟩
/-- which ones may be carried out as soon as they may -/
def lateBits (all : Array Oper) : Nat → List Oper → List Bool
  | _, [] => []
  | i, o :: r => lateFit all [i] :: lateBits all (i + 1) r
/-- which ones may be -/
def preBits (all : Array Oper) : Nat → List Nat → List Oper → List Bool
  | _, _, [] => []
  | i, done, o :: r => bif (match o.op with | .move _ => true | .binOp .add _ _ _ _ => true | .binOp .sub _ _ _ _ => true | _ => false) && preFit all done [i] then true :: preBits all (i + 1) (i :: done) r else false :: preBits all (i + 1) done r
def idxs : Nat → List Bool → List Nat
  | _, [] => []
  | i, b :: r => bif b then i :: idxs (i + 1) r else idxs (i + 1) r
/-- a store that does not stand alone -/
def lateStore (bars : List Bool) : List Oper → Bool
  | [] => false
  | o :: r => (match o.op with | .store _ _ _ => !bars.headD true | _ => false) || lateStore bars.tail r

section
variable (t : Th) (FC : Nat → List AV → List Box → Res → List Box → Prop) (T : Nat → Option TI) (G : Nat → Option (List D)) (N : Nat)

def stepT (o : Oper) (s : St) (K : AV → List Box → Prop) (Q : Ex → St → Prop) : Prop :=
  match o.op with
  | .pick c a b => match (opd G s.sl c).strip with
    | .d (.bool p) => ((opd G s.sl c).ok ∧ PickI p (opd G s.sl a).ok (opd G s.sl b).ok) ∧ K (pickVT t p (opd G s.sl a).strip (opd G s.sl b).strip) s.bx
    | _ => False
  | .call { callee := .value f, args, .. } => match fnArgs (opd G s.sl f).strip (args.toList.map fun x => (opd G s.sl x).strip) with
    | some (i, as) => CallT FC ((opd G s.sl f).ok ∧ okAll (opds G s.sl args.toList)) i as (frzsT t s.bx as) s.bx (fun v bx => K v bx) (fun v bx => Q (.panic v) ⟨[], bx⟩)
    | none => False
  | .panic x => match (opd G s.sl x).strip with
    | .ifc ty v => (opd G s.sl x).ok ∧ Q (.panic (.ifc ty v)) ⟨[], s.bx⟩
    | _ => False
  | .range ty x => match T ty with
    | some ti => match ti.kd, (opd G s.sl x).strip with
      | .str, .d (.str str) => (opd G s.sl x).ok ∧ K (.ptr s.bx.length 0) (s.bx ++ [.it str 0])
      | _, _ => False
    | none => False
  | .next it true => match (opd G s.sl it).strip with
    | .ptr b 0 => match s.bx[b]? with
      | some (.it str pos) => (opd G s.sl it).ok ∧ NextWp str pos (fun c wd => K (.tup [.d (.bool true), .d (.int .i64 (t _ fun _ => pos)), .d (.int .i32 (t _ fun _ => c))]) (s.bx.set b (.it str (t _ fun _ => pos + wd)))) (fun _ => K (.tup [.d (.bool false)]) s.bx)
      | _ => False
    | _ => False
  | .binOp .eql ty x (.const (.slice none 0 0)) _ => match T ty, nilE (opd G s.sl x).strip with
    | some ti, some emp => match ti.kd with
      | .slice _ => (opd G s.sl x).ok ∧ NilWp (t Prop fun _ => emp) (fun b => K (.d (.bool b)) s.bx)
      | _ => False
    | _, _ => False
  | .binOp .neq ty x (.const (.slice none 0 0)) _ => match T ty, nilE (opd G s.sl x).strip with
    | some ti, some emp => match ti.kd with
      | .slice _ => (opd G s.sl x).ok ∧ NilWp (t Prop fun _ => emp) (fun b => K (.d (.bool (t _ fun _ => !b))) s.bx)
      | _ => False
    | _, _ => False
  | .makeMap ty none => match T ty with
    | some ti => match ti.kd with
      | .map _ e => match T e with
        | some te => K (.mpb s.bx.length) (s.bx ++ [.mp te.kd.isAgg []])
        | none => False
      | _ => False
    | none => False
  | .lookup ty m k cok => match mapAt T ty (opd G s.sl m).strip s.bx, (opd G s.sl k).strip with
    | some (tk, te, ag, es), .d kd => LookWp true (((opd G s.sl m).ok ∧ (opd G s.sl k).ok) ∧ (t Prop fun _ => mapFit tk te ag es kd)) (t _ fun _ => mget es kd) (foundK te cok (fun v => K v s.bx))
    | _, _ => False
  | .mapUpdate ty m k x => match mapBox T ty (opd G s.sl m).strip s.bx, (opd G s.sl k).strip, (opd G s.sl x).strip.cells? with
    | some (b, tk, te, ag, es), .d kd, some vs => match ownless vs, toDsT t s.bx vs with
      | true, some (c, ds) => (((opd G s.sl m).ok ∧ (opd G s.sl k).ok ∧ (opd G s.sl x).ok) ∧ c ∧ (t Prop fun _ => mapFit tk te ag es kd) ∧ Nat.beq ds.length te.size = true ∧ (opd G s.sl x).strip.isAgg = ag) ∧ K .any (s.bx.set b (.mp ag (t _ fun _ => mput es kd ds)))
      | _, _ => False
    | _, _, _ => False
  | .load ty a =>
    match rowAt t (opd G s.sl a).strip s.bx with
    | some (c, ds, j) => RowWp true ((opd G s.sl a).ok ∧ c) ds (fun ds => match T ty with
      | some ti => match splitA ti.kd.isAgg ti.size ((ds.drop j).map .d) with
        | some v => K v s.bx
        | none => False
      | none => False)
    | none => match opT t T (fun x => (opd G s.sl x).strip) (.load ty a) s.bx with
      | some ⟨c, v, b⟩ => (okAll (opds G s.sl (Op.load ty a).operands.toList) ∧ c) ∧ K v (orBx s.bx b)
      | none => False
  | op =>
    match (match op with | .indexAddr ty x i => idxT t T ty (opd G s.sl x).strip (opd G s.sl i).strip | _ => none) with
    | some (c, ds) => IdxWp true (okAll (opds G s.sl op.operands.toList) ∧ c) ds (fun ds => K (.ep ds) s.bx)
    | none => match opT t T (fun x => (opd G s.sl x).strip) op s.bx with
      | some ⟨c, v, b⟩ => bif isBig (fun x => (opd G s.sl x).strip) op then ViewWp (okAll (opds G s.sl op.operands.toList) ∧ c) v (orBx s.bx b) K
        else (okAll (opds G s.sl op.operands.toList) ∧ c) ∧ K v (orBx s.bx b)
      | none => False

def stepGT (dr g : Bool) (o : Oper) (s : St) (K : AV → Prop) : Prop :=
  match o.op with
  | .pick c a b => match (opd G s.sl c).strip with
    | .d (.bool p) => GuardI g ((opd G s.sl c).ok ∧ PickI p (opd G s.sl a).ok (opd G s.sl b).ok) ∧ K (pickVT t p (opd G s.sl a).strip (opd G s.sl b).strip)
    | _ => False
  | .call { callee := .value f, args, .. } => match fnArgs (opd G s.sl f).strip (args.toList.map fun x => (opd G s.sl x).strip) with
    | some (i, as) => CallQT FC dr g ((opd G s.sl f).ok ∧ okAll (opds G s.sl args.toList)) i as s.bx (frzsT t s.bx as) (fun v => K v)
    | none => False
  | .load ty a =>
    match rowAt t (opd G s.sl a).strip s.bx with
    | some (c, ds, j) => RowWp g ((opd G s.sl a).ok ∧ c) ds (fun ds => match T ty with
      | some ti => match splitA ti.kd.isAgg ti.size ((ds.drop j).map .d) with
        | some v => K v
        | none => False
      | none => False)
    | none => match opT t T (fun x => (opd G s.sl x).strip) (.load ty a) s.bx with
      | some ⟨c, v, none⟩ => GuardI g (okAll (opds G s.sl (Op.load ty a).operands.toList) ∧ c) ∧ K v
      | _ => False
  | op =>
    match (match op with | .indexAddr ty x i => idxT t T ty (opd G s.sl x).strip (opd G s.sl i).strip | _ => none) with
    | some (c, ds) => IdxWp g (okAll (opds G s.sl op.operands.toList) ∧ c) ds (fun ds => K (.ep ds))
    | none => match opT t T (fun x => (opd G s.sl x).strip) op s.bx with
      | some ⟨c, v, none⟩ => bif isBig (fun x => (opd G s.sl x).strip) op then ViewG g (okAll (opds G s.sl op.operands.toList) ∧ c) v K
        else GuardI g (okAll (opds G s.sl op.operands.toList) ∧ c) ∧ K v
      | _ => False

def guardOfT (sl : List (Nat × AV)) (ops : List Oper) (j : Nat) (want : Bool) : Option Bool :=
  match ops[j]? with
  | some o => match o.dst with
    | some u => match lok u sl with
      | .d (.bool q) => some (bif want then q else t _ fun _ => !q)
      | .cond g (.d (.bool q)) => some (t _ fun _ => g && (bif want then q else !q))
      | _ => none
    | none => none
  | none => none

def opsT (ops : List Oper) : List Oper → (Ex → St → Prop) → St → Prop
  | [], Q, s => Q .normal s
  | o :: rest, Q, s => bif dstOk N o.dst then
      match o.guard with
      | none => stepT t FC T G o s (fun v bx => opsT ops rest Q ⟨put1 o.dst v s.sl, bx⟩) Q
      | some (j, want) => match guardOfT t s.sl ops j want with
        | some g => stepGT t FC T G false g o s (fun v => opsT ops rest Q ⟨put1 o.dst (.cond g v) s.sl, s.bx⟩)
        | none => False
    else False

def bornT (o : Oper) (sl : List (Nat × AV)) (bxs : List Box) (x : Nat) (K : AV → Box → Prop) : Prop :=
  match o.op with
  | .call { callee := .value f, args, .. } => match fnArgs (opd G sl f).strip (args.toList.map fun x => (opd G sl x).strip) with
    | some (i, as) => BornI FC ((opd G sl f).ok ∧ okAll (opds G sl args.toList)) i as (frzsT t bxs as) bxs[x]? x K
    | none => False
  | _ => False

def opsDT (ops : List Oper) (base : Nat) : List Bool → List Box → Nat → List Oper → (Ex → St → Prop) → St → Prop
  | _, _, _, [], Q, s => Q .normal s
  | [], _, _, _ :: _, _, _ => False
  | f :: fs, bxs, k, o :: rest, Q, s => bif dstOk N o.dst then
      bif f then match o.guard with
        | none => stepT t FC T G o s (fun v bx => opsDT ops base fs bx k rest Q ⟨put1 o.dst v s.sl, bx⟩) Q
        | some (j, want) => match guardOfT t s.sl ops j want with
          | some g => stepGT t FC T G true g o s (fun v => opsDT ops base fs s.bx k rest Q ⟨put1 o.dst (.cond g v) s.sl, s.bx⟩)
          | none => False
      else match birthOf T G s.sl o with
        | some cs => match bxs[base + k]? with
          | some .unborn => opsDT ops base fs bxs (k + 1) rest Q ⟨put1 o.dst (.ptr (base + k) 0) s.sl, s.bx.set (base + k) (.var cs)⟩
          | _ => False
        | none => match o.guard with
          | none => bif isCall o.op then stepGT t FC T G true true o ⟨s.sl, bxs⟩ (fun v => opsDT ops base fs bxs k rest Q ⟨put1 o.dst v s.sl, s.bx⟩) ∨
              bornT t FC G o s.sl bxs (base + k) (fun v B => opsDT ops base fs bxs (k + 1) rest Q ⟨put1 o.dst v s.sl, s.bx.set (base + k) B⟩)
            else stepGT t FC T G true true o ⟨s.sl, bxs⟩ (fun v => opsDT ops base fs bxs k rest Q ⟨put1 o.dst v s.sl, s.bx⟩)
          | some (j, want) => match guardOfT t s.sl ops j want with
            | some g => stepGT t FC T G true g o ⟨s.sl, bxs⟩ (fun v => opsDT ops base fs bxs k rest Q ⟨put1 o.dst (.cond g v) s.sl, s.bx⟩)
            | none => False
    else False

def sealOT (i : Nat) (s : St) : Option (Prop × St) := match fzT t s.bx (lok i s.sl) with
  | some (c, y) => some (c, ⟨put i y s.sl, (lok i s.sl).sealB s.bx⟩)
  | none => none
def drawAt (k : Option Nat) (s : St) (K : St → Prop) : Prop := match k with
  | none => K s
  | some i => match sealOT t i s with
    | some (c, s1) => c ∧ K s1
    | none => False
def drawT (ops : List Oper) (Q : Ex → St → Prop) (s : St) : Prop :=
  DrawI ops (fun k fs => drawAt t k s fun s => opsDT t FC T G N ops s.bx.length fs (s.bx ++ List.replicate (births ops) .unborn) 0 ops Q ⟨s.sl, s.bx ++ List.replicate (births ops) .unborn⟩) (fun pre => preGo G N ops pre s.sl = true)
end

section
variable {FC : Nat → List AV → List Box → Res → List Box → Prop} {T : Nat → Option TI} {G : Nat → Option (List D)} {N : Nat}

theorem guardOfT_R (sl : List (Nat × AV)) (ops : List Oper) (j : Nat) (want : Bool) : guardOfT t0 sl ops j want = guardOf sl ops j want := by
  unfold guardOfT guardOf; rfl

theorem rowAt_R {ti : TI} {a : AV} {bx : List Box} {c : Prop} {ds : List D} {j : Nat} (h : rowAt t0 a bx = some (c, ds, j)) (hc : c) {v : AV} (hv : splitA ti.kd.isAgg ti.size ((ds.drop j).map .d) = some v) : Tells (loadR ti a bx) v none := by
  unfold rowAt at h
  split at h
  · rename_i b sz i j'
    split at h
    · rename_i s es hb
      cases hs : Nat.beq s sz with
      | false => simp [hs] at h
      | true =>
      simp only [hs, cond_true, Option.some.injEq, Prod.mk.injEq] at h
      obtain ⟨rfl, rfl, rfl⟩ := h
      have hv' : splitA ti.kd.isAgg ti.size (((es.getD i []).drop j').map .d) = some v := hv
      simp only [loadR, hb, hv']
      exact ⟨_, rfl, Nat.eq_of_beq_eq_true hs, hc⟩
    · rename_i s es hb
      cases hs : Nat.beq s sz with
      | false => simp [hs] at h
      | true =>
      simp only [hs, cond_true, Option.some.injEq, Prod.mk.injEq] at h
      obtain ⟨rfl, rfl, rfl⟩ := h
      have hv' : splitA ti.kd.isAgg ti.size (((es.getD i []).drop j').map .d) = some v := hv
      simp only [loadR, hb, hv']
      exact ⟨_, rfl, Nat.eq_of_beq_eq_true hs, hc⟩
    · simp at h
  · simp at h

theorem idxOp_R (T : Nat → Option TI) (G : Nat → Option (List D)) (s : St) (op : Op) : (match op with | .indexAddr ty x i => idxT t0 T ty (opd G s.sl x).strip (opd G s.sl i).strip | _ => none) = (match op with | .indexAddr ty x i => idxR T ty (opd G s.sl x).strip (opd G s.sl i).strip | _ => none) := by
  cases op <;> first | rfl | exact idxT_R

theorem callT_U {oks : Prop} {f : Nat} {args : List AV} {bx : List Box} {K K' : AV → List Box → Prop} {Kp : AV → List Box → Prop} (hK : ∀ v bx, K v bx → K' v bx)
    (h : CallT FC oks f args (frzsT t0 bx args) bx K Kp) : CallWp FC oks f args bx K' Kp := by
  obtain ⟨h0, h | h⟩ := h
  · obtain ⟨c, args', h1, h2, h3, h4⟩ := h
    refine ⟨h0, .inl ⟨args', frzsT_frzs h1 h2, h3, ?_⟩⟩
    rcases h4 with ⟨v, k1, k2, k3⟩ | ⟨sz, n, es, k1, k2, k3⟩
    · exact .inl ⟨v, k1, k2, hK _ _ k3⟩
    · exact .inr ⟨sz, n, es, k1, k2, hK _ _ k3⟩
  · obtain ⟨args', bx1, res, bx2, h1, h2, h3⟩ := h
    refine ⟨h0, .inr ⟨args', bx1, res, bx2, ?_, h2, ?_⟩⟩
    · rcases h1 with h1 | ⟨⟨c, k1, k2⟩, k3⟩
      · exact .inl h1
      · exact .inr ⟨frzsT_frzs k1 k2, k3⟩
    · cases res with
      | ret v => exact hK _ _ h3
      | pan v => exact h3

theorem foundK_mono {te : TI} {cok : Bool} {K K' : AV → Prop} (hK : ∀ v, K v → K' v) {o : Option (List D)} (h : foundK te cok K o) : foundK te cok K' o := by
  cases o with
  | none =>
    simp only [foundK] at h ⊢
    split at h
    · exact hK _ h
    · exact h.elim
  | some ds =>
    simp only [foundK] at h ⊢
    split at h
    · exact hK _ h
    · exact h.elim

theorem stepT_U {o : Oper} {s : St} {K K' : AV → List Box → Prop} {Q : Ex → St → Prop} (hK : ∀ v bx, K v bx → K' v bx) (h : stepT t0 FC T G o s K Q) : stepU FC T G o s K' Q := by
  unfold stepT at h
  unfold stepU
  split at h
  · rename_i c a b ho
    simp only [ho]
    split at h
    · rename_i p hc
      simp only [hc]
      rw [pickVT_R] at h
      exact ⟨⟨h.1.1, h.1.2.ok⟩, hK _ _ h.2⟩
    · exact h.elim
  · rename_i f args ats ho
    simp only [ho]
    split at h
    · rename_i i as hf
      simp only [hf]
      exact callT_U hK h
    · exact h.elim
  · rename_i x ho
    simp only [ho]
    split at h
    · rename_i ty v hx; simp only [hx]; exact h
    · exact h.elim
  · rename_i ty x ho
    simp only [ho]
    split at h
    · rename_i ti ht
      simp only [ht]
      split at h
      · rename_i str hk hx; simp only [hk, hx]; exact ⟨h.1, hK _ _ h.2⟩
      · exact h.elim
    · exact h.elim
  · rename_i it ho
    simp only [ho]
    split at h
    · rename_i b hx
      simp only [hx]
      split at h
      · rename_i str pos hb
        simp only [hb]
        exact ⟨h.1, ⟨fun hp => hK _ _ (h.2.ok.1 hp), fun hp => hK _ _ (h.2.ok.2 hp)⟩⟩
      · exact h.elim
    · exact h.elim
  · rename_i ty x t2 ho
    simp only [ho]
    split at h
    · rename_i ti emp ht he
      simp only [ht, he]
      split at h
      · rename_i e hk; simp only [hk]; exact ⟨h.1, ⟨fun b hb => hK _ _ (h.2.ok b hb)⟩⟩
      · exact h.elim
    · exact h.elim
  · rename_i ty x t2 ho
    simp only [ho]
    split at h
    · rename_i ti emp ht he
      simp only [ht, he]
      split at h
      · rename_i e hk; simp only [hk]; exact ⟨h.1, ⟨fun b hb => hK _ _ (h.2.ok b hb)⟩⟩
      · exact h.elim
    · exact h.elim
  · rename_i ty ho
    simp only [ho]
    split at h
    · rename_i ti ht
      simp only [ht]
      split at h
      · rename_i mk me hk
        simp only [hk]
        split at h
        · rename_i te hte
          simp only [hte]
          exact hK _ _ h
        · exact h.elim
      · exact h.elim
    · exact h.elim
  · rename_i ty m k cok ho
    simp only [ho]
    split at h
    · rename_i tk te ag es kd hm hk
      simp only [hm, hk]
      obtain ⟨o', hg, hk⟩ := h
      exact ⟨o', hg, foundK_mono (fun v hv => hK _ _ hv) hk⟩
    · exact h.elim
  · rename_i ty m k x ho
    simp only [ho]
    split at h
    · rename_i b tk te ag es kd vs hm hk hc
      simp only [hm, hk, hc]
      split at h
      · rename_i c dsv hn1 hd1
        obtain ⟨⟨g1, g2, g3, g4, g5⟩, g6⟩ := h
        simp only [hn1, toDsT_Ds hd1 g2]
        exact ⟨⟨g1, g3, Nat.eq_of_beq_eq_true g4, g5⟩, hK _ _ g6⟩
      · exact h.elim
    · exact h.elim
  · rename_i ty a ho
    simp only [ho]
    split at h
    · rename_i c ds j hr
      obtain ⟨ds', hg, hk⟩ := h
      obtain ⟨⟨h1, h2⟩, rfl⟩ := hg rfl
      split at hk
      · rename_i ti ht
        split at hk
        · rename_i v hv
          obtain ⟨c', e, hc'⟩ := rowAt_R hr h2 hv
          simp only [opR, isView, cond_false, opR0, ht, e]
          exact ⟨⟨⟨h1, trivial⟩, hc'⟩, hK _ _ hk⟩
        · exact hk.elim
      · exact hk.elim
    · split at h
      · rename_i c v b hr
        obtain ⟨⟨h1, h2⟩, h3⟩ := h
        obtain ⟨c', e, hc'⟩ := opT_R hr h2
        simp only [e]
        exact ⟨⟨h1, hc'⟩, hK _ _ h3⟩
      · exact h.elim
  · rename_i e1 e2 e3 e4 e5 e6 e7 m1 m2 m3 e8
    split
    · rename_i ho; exact absurd ho (e1 _ _ _)
    · rename_i ho; exact absurd ho (e2 _ _ _)
    · rename_i ho; exact absurd ho (e3 _)
    · rename_i ho; exact absurd ho (e4 _ _)
    · rename_i ho; exact absurd ho (e5 _)
    · rename_i ho; exact absurd ho (e6 _ _ _)
    · rename_i ho; exact absurd ho (e7 _ _ _)
    · rename_i ho; exact absurd ho (m1 _)
    · rename_i ho; exact absurd ho (m2 _ _ _ _)
    · rename_i ho; exact absurd ho (m3 _ _ _ _)
    · have hm := idxOp_R T G s o.op
      show match (match o.op with | .indexAddr ty x i => idxR T ty (opd G s.sl x).strip (opd G s.sl i).strip | _ => none) with
        | some (c, ds) => IdxWp true (okAll (opds G s.sl o.op.operands.toList) ∧ c) ds (fun ds => K' (.ep ds) s.bx)
        | none => match opR T (fun x => (opd G s.sl x).strip) o.op s.bx with
          | some ⟨c, v, b⟩ => (okAll (opds G s.sl o.op.operands.toList) ∧ c) ∧ K' v (orBx s.bx b)
          | none => False
      split at h
      · rename_i c ds hi
        rw [hm] at hi
        simp only [hi]
        obtain ⟨ds', hg, hk⟩ := h
        exact ⟨ds', hg, hK _ _ hk⟩
      · rename_i hi
        rw [hm] at hi
        simp only [hi]
        split at h
        · rename_i c v b hr
          have h : (okAll (opds G s.sl o.op.operands.toList) ∧ c) ∧ K v (orBx s.bx b) := by
            generalize isBig _ _ = q at h
            cases q with
            | false => exact h
            | true => obtain ⟨v', bx', k1, rfl, rfl, k2⟩ := h; exact ⟨k1, k2⟩
          obtain ⟨⟨h1, h2⟩, h3⟩ := h
          obtain ⟨c', e, hc'⟩ := opT_R hr h2
          simp only [e]
          exact ⟨⟨h1, hc'⟩, hK _ _ h3⟩
        · exact h.elim

theorem stepGT_some {dr g : Bool} {o : Oper} {s : St} {K : AV → Prop} (h : stepGT t0 FC T G dr g o s K) : ∃ v, K v := by
  unfold stepGT at h
  split at h
  · split at h
    · exact ⟨_, h.2⟩
    · exact h.elim
  · split at h
    · obtain ⟨_, v, _, hK⟩ | ⟨v, _, hK⟩ := h
      · exact ⟨v, hK⟩
      · exact ⟨v, hK⟩
    · exact h.elim
  · split at h
    · obtain ⟨ds', _, hk⟩ := h
      split at hk
      · split at hk
        · exact ⟨_, hk⟩
        · exact hk.elim
      · exact hk.elim
    · split at h
      · exact ⟨_, h.2⟩
      · exact h.elim
  · split at h
    · obtain ⟨ds, _, hK⟩ := h; exact ⟨_, hK⟩
    · split at h
      · generalize isBig _ _ = q at h
        cases q with
        | false => exact ⟨_, h.2⟩
        | true => obtain ⟨v', _, k2⟩ := h; exact ⟨_, k2⟩
      · exact h.elim

theorem stepGT_G0 {dr g : Bool} {o : Oper} {s : St} {K K' : AV → Prop} (hK : ∀ v, K v → K' v) (h : stepGT t0 FC T G dr g o s K) : stepG FC T G g o s K' ∨ dr = false ∧ stepGC FC G g o s K' := by
  cases g with
  | false => obtain ⟨v, h⟩ := stepGT_some h; exact .inl (.inl ⟨rfl, v, hK v h⟩)
  | true =>
  by_cases hcall : ∃ (f : Operand) (args : Array Operand) (ats : Array TypeId) (i : Nat) (as : List AV), o.op = .call { callee := .value f, args := args, argTypes := ats } ∧ fnArgs (opd G s.sl f).strip (args.toList.map fun x => (opd G s.sl x).strip) = some (i, as) ∧
      dr = false ∧ ∃ v, (true = true → ((opd G s.sl f).ok ∧ okAll (opds G s.sl args.toList)) ∧ FC i as s.bx (.ret v) s.bx) ∧ K v
  · obtain ⟨f, args, ats, i, as, ho, hf, hd, v, h1, h2⟩ := hcall
    refine .inr ⟨hd, ?_⟩
    unfold stepGC
    simp only [ho, hf]
    exact ⟨v, fun _ => h1 rfl, hK _ h2⟩
  refine .inl (.inr ?_)
  unfold stepGT at h
  unfold stepG0
  split at h
  · rename_i c a b ho
    simp only [ho]
    split at h
    · rename_i p hc
      simp only [hc]
      rw [pickVT_R] at h
      have h1 : true = true → (opd G s.sl c).ok ∧ (p = true → (opd G s.sl a).ok) ∧ (p = false → (opd G s.sl b).ok) := fun e => ⟨(h.1.ok e).1, (h.1.ok e).2.ok⟩
      exact ⟨fun _ => h1 rfl, hK _ h.2⟩
    · exact h.elim
  · rename_i f args ats ho
    simp only [ho]
    split at h
    · rename_i i as hf
      simp only [hf]
      obtain ⟨hd, v, h1, h2⟩ | ⟨v, h1, h2⟩ := h
      · exact absurd ⟨f, args, ats, i, as, ho, hf, hd, v, h1, h2⟩ hcall
      refine ⟨v, fun hg => ?_, hK _ h2⟩
      obtain ⟨k1, args', bxV, ⟨c, k2, k3⟩, k4, k5, k6⟩ := h1 hg
      exact ⟨k1, args', bxV, frzsT_frzs k2 k3, k4, k5, k6⟩
    · exact h.elim
  · rename_i ty a ho
    simp only [ho]
    split at h
    · rename_i c ds j hr
      obtain ⟨ds', hg, hk⟩ := h
      obtain ⟨⟨h1, h2⟩, rfl⟩ := hg rfl
      split at hk
      · rename_i ti ht
        split at hk
        · rename_i v hv
          obtain ⟨c', e, hc'⟩ := rowAt_R hr h2 hv
          simp only [opR, isView, cond_false, opR0, ht, e]
          exact ⟨fun _ => ⟨⟨h1, trivial⟩, hc'⟩, hK _ hk⟩
        · exact hk.elim
      · exact hk.elim
    · split at h
      · rename_i c v hr
        obtain ⟨h1, h3⟩ := h
        have h1 : true = true → okAll (opds G s.sl (Op.load ty a).operands.toList) ∧ c := h1.ok
        obtain ⟨c', e, hc'⟩ := opT_R hr (h1 rfl).2
        simp only [e]
        exact ⟨fun _ => ⟨(h1 rfl).1, hc'⟩, hK _ h3⟩
      · exact h.elim
  · rename_i e1 e2 e3
    split
    · rename_i ho; exact absurd ho (e1 _ _ _)
    · rename_i ho; exact absurd ho (e2 _ _ _)
    · have hm := idxOp_R T G s o.op
      split at h
      · rename_i c ds hi
        rw [hm] at hi
        show match (match o.op with | .indexAddr ty x i => idxR T ty (opd G s.sl x).strip (opd G s.sl i).strip | _ => none) with
          | some (c, ds) => IdxWp true (okAll (opds G s.sl o.op.operands.toList) ∧ c) ds (fun ds => K' (.ep ds))
          | none => match opR T (fun x => (opd G s.sl x).strip) o.op s.bx with
            | some ⟨c, v, none⟩ => (true = true → okAll (opds G s.sl o.op.operands.toList) ∧ c) ∧ K' v
            | _ => False
        simp only [hi]
        obtain ⟨ds', hg, hk⟩ := h
        exact ⟨ds', hg, hK _ hk⟩
      · rename_i hi
        rw [hm] at hi
        show match (match o.op with | .indexAddr ty x i => idxR T ty (opd G s.sl x).strip (opd G s.sl i).strip | _ => none) with
          | some (c, ds) => IdxWp true (okAll (opds G s.sl o.op.operands.toList) ∧ c) ds (fun ds => K' (.ep ds))
          | none => match opR T (fun x => (opd G s.sl x).strip) o.op s.bx with
            | some ⟨c, v, none⟩ => (true = true → okAll (opds G s.sl o.op.operands.toList) ∧ c) ∧ K' v
            | _ => False
        simp only [hi]
        split at h
        · rename_i c v hr
          have h : GuardI true (okAll (opds G s.sl o.op.operands.toList) ∧ c) ∧ K v := by
            generalize isBig _ _ = q at h
            cases q with
            | false => exact h
            | true => obtain ⟨v', k0, k2⟩ := h; obtain ⟨k1, rfl⟩ := k0 rfl; exact ⟨⟨fun _ => k1⟩, k2⟩
          obtain ⟨h1, h3⟩ := h
          have h1 : true = true → okAll (opds G s.sl o.op.operands.toList) ∧ c := h1.ok
          obtain ⟨c', e, hc'⟩ := opT_R hr (h1 rfl).2
          simp only [e]
          exact ⟨fun _ => ⟨(h1 rfl).1, hc'⟩, hK _ h3⟩
        · exact h.elim

theorem stepGT_G {g : Bool} {o : Oper} {s : St} {K K' : AV → Prop} (hK : ∀ v, K v → K' v) (h : stepGT t0 FC T G true g o s K) : stepG FC T G g o s K' := by
  rcases stepGT_G0 hK h with h | ⟨h, _⟩
  · exact h
  · cases h

theorem opsT_W {ops : List Oper} {Q : Ex → St → Prop} : ∀ (l : List Oper) (s : St), opsT t0 FC T G N ops l Q s → opsW FC T G N ops l Q s
  | [], _, h => h
  | o :: l, s, h => by
    unfold opsT at h
    unfold opsW
    cases hd : dstOk N o.dst with
    | false => simp [hd] at h
    | true =>
    simp only [hd, cond_true] at h ⊢
    split at h
    · rename_i hg
      simp only [hg]
      exact stepT_U (fun v bx hK => opsT_W l _ hK) h
    · rename_i j want hg
      simp only [hg]
      rw [guardOfT_R] at h
      split at h
      · rename_i g hgo
        simp only [hgo]
        rcases stepGT_G0 (fun v hK => opsT_W l _ hK) h with h | ⟨_, h⟩
        · exact .inl h
        · exact .inr h
      · exact h.elim

theorem bornT_B {o : Oper} {sl : List (Nat × AV)} {bxs : List Box} {x : Nat} {K K' : AV → Box → Prop} (hK : ∀ v B, K v B → K' v B) (h : bornT t0 FC G o sl bxs x K) : callBorn FC G o sl bxs x K' := by
  unfold bornT at h
  split at h
  · rename_i f args ats ho
    split at h
    · rename_i i as hf
      obtain ⟨args', sz, n, es, h1, ⟨c, h2, h3⟩, h4, h5, h6, h7, h8⟩ := h
      exact ⟨f, args, ats, i, as, args', sz, n, es, ho, hf, h1, frzsT_frzs h2 h3, h4, h5, h6, h7, hK _ _ h8⟩
    · exact h.elim
  · exact h.elim

theorem opsDT_D {ops : List Oper} {b : List Nat} {base : Nat} {Q : Ex → St → Prop} : ∀ (l : List Oper) (bxs : List Box) (k i : Nat) (s : St), opsDT t0 FC T G N ops base (barsFrom b i l) bxs k l Q s → opsD FC T G N ops b base bxs k i l Q s
  | [], _, _, _, _, h => h
  | o :: l, bxs, k, i, s, h => by
    unfold barsFrom opsDT at h
    unfold opsD
    cases hd : dstOk N o.dst with
    | false => simp [hd] at h
    | true =>
    simp only [hd, cond_true] at h ⊢
    cases hb : barrier b i with
    | true =>
      simp only [hb, cond_true] at h ⊢
      split at h
      · rename_i hg
        simp only [hg]
        exact stepT_U (fun v bx hK => opsDT_D l _ _ _ _ hK) h
      · rename_i j want hg
        simp only [hg]
        rw [guardOfT_R] at h
        split at h
        · rename_i g hgo
          simp only [hgo]
          exact stepGT_G (fun v hK => opsDT_D l _ _ _ _ hK) h
        · exact h.elim
    | false =>
      simp only [hb, cond_false] at h ⊢
      split at h
      · rename_i cs hbi
        simp only [hbi]
        split at h
        · rename_i hu
          simp only [hu]
          exact opsDT_D l _ _ _ _ h
        · exact h.elim
      · rename_i hbi
        simp only [hbi]
        split at h
        · rename_i hg
          simp only [hg]
          cases hcl : isCall o.op with
          | false =>
            simp only [hcl, cond_false] at h
            exact .inl (stepGT_G (fun v hK => opsDT_D l _ _ _ _ hK) h)
          | true =>
            simp only [hcl, cond_true] at h
            rcases h with h | h
            · exact .inl (stepGT_G (fun v hK => opsDT_D l _ _ _ _ hK) h)
            · exact .inr (bornT_B (fun v B hK => opsDT_D l _ _ _ _ hK) h)
        · rename_i j want hg
          simp only [hg]
          rw [guardOfT_R] at h
          split at h
          · rename_i g hgo
            simp only [hgo]
            exact stepGT_G (fun v hK => opsDT_D l _ _ _ _ hK) h
          · exact h.elim

theorem drawT_W {ops : List Oper} {Q : Ex → St → Prop} {s : St} (h : drawT t0 FC T G N ops Q s) : drawW FC T G N ops Q s ∨ ∃ i c s1, sealOT t0 i s = some (c, s1) ∧ c ∧ drawW FC T G N ops Q s1 := by
  obtain ⟨⟨k, pre, late, fs, h0, ⟨h1, rfl⟩, h2⟩⟩ := h
  cases k with
  | none =>
    refine .inl ⟨pre, late, h0.imp id ?_, h1, opsDT_D _ _ _ _ _ h2⟩
    rintro ⟨g1, g2, g3, ⟨_, g4⟩ | rfl⟩
    · exact ⟨g1, g2, g3, g4⟩
    · exact ⟨g1, g2, g3, rfl⟩
  | some i =>
    right
    simp only [drawAt] at h2
    split at h2
    · rename_i c s1 hs
      refine ⟨i, c, s1, hs, h2.1, pre, late, ?_, h1, opsDT_D _ _ _ _ _ h2.2⟩
      rcases h0 with h0 | ⟨g1, g2, g3, ⟨h0, _⟩ | rfl⟩
      · exact .inl h0
      · cases h0
      · exact .inr ⟨g1, g2, g3, rfl⟩
    · exact h2.elim
end
end Dem
