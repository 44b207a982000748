/- JOINED TEXTS: Fe1. -/
import Derived.Test.YtegnablmooijmaaDoorJ15
set_option linter.unusedSimpArgs false
set_option linter.unusedVariables false
/- THE CALCULUS FOR EVALUATION: as the calculus, but that what is reckoned on data stands behind a variable 'th', so that evaluation stops there. -/
open Go
namespace Dem

/-- what holds data back from being reckoned -/
abbrev Th := (α : Type) → (Unit → α) → α
def t0 : Th := fun _ f => f ()

section
variable (t : Th)

/- data of one cell, with what must hold -/
def AV.toDT (bx : List Box) : AV → Option (Prop × D)
  | .d x => some (True, x)
  | .cl es => some (True, .sl es)
  | .fn f [] => some (True, .fn f)
  | .ow b sz n => match bx[b]? with
    | some (.row s es) => bif Nat.beq s sz then some (t Prop (fun _ => n = es.length), .sl es) else none
    | some (.imm s es) => bif Nat.beq s sz then some (t Prop (fun _ => n = es.length), .sl es) else none
    | _ => none
  | _ => none

def toDsT (bx : List Box) : List AV → Option (Prop × List D)
  | [] => some (True, [])
  | x :: xs => match x.toDT t bx, toDsT bx xs with
    | some (c, y), some (d, ys) => some (c ∧ d, y :: ys)
    | _, _ => none

def AV.rowsT (bx : List Box) : AV → Option (Prop × List (List D))
  | .d (.sl es) => some (True, es)
  | .cl es => some (True, es)
  | .ow b sz n => match bx[b]? with
    | some (.row s es) => bif Nat.beq s sz then some (t Prop (fun _ => n = es.length), es) else none
    | some (.imm s es) => bif Nat.beq s sz then some (t Prop (fun _ => n = es.length), es) else none
    | _ => none
  | .vw b sz off n _ _ => match bx[b]? with
    | some (.row s es) => bif Nat.beq s sz then some (t Prop (fun _ => off + n ≤ es.length), t _ fun _ => (es.drop off).take n) else none
    | some (.imm s es) => bif Nat.beq s sz then some (t Prop (fun _ => off + n ≤ es.length), t _ fun _ => (es.drop off).take n) else none
    | _ => none
  | _ => none

def loadT (ti : TI) (a : AV) (bx : List Box) : Option R :=
  match a with
  | .ptr b off => match bx[b]? with
    | some (.var cs) => match splitA ti.kd.isAgg ti.size (cs.drop off) with
      | some v => R.pure v
      | none => none
    | _ => none
  | .ep ds => match splitA ti.kd.isAgg ti.size (ds.map .d) with
    | some v => R.pure v
    | none => none
  | _ => none

/-- what is read of an own row: which row, from where in it -/
def rowAt (a : AV) (bx : List Box) : Option (Prop × List D × Nat) :=
  match a with
  | .rp b sz i j => match bx[b]? with
    | some (.row s es) => bif Nat.beq s sz then some (t Prop (fun _ => i < es.length), t _ (fun _ => es.getD i []), j) else none
    | some (.imm s es) => bif Nat.beq s sz then some (t Prop (fun _ => i < es.length), t _ (fun _ => es.getD i []), j) else none
    | _ => none
  | _ => none

def storeT (ti : TI) (a v : AV) (bx : List Box) : Option R :=
  match v.cells? with
  | none => none
  | some vs => bif Nat.beq vs.length ti.size then
      match a with
      | .ptr b off => match bx[b]? with
        | some (.var cs) => bif Nat.ble (off + vs.length) cs.length then some ⟨True, .any, some (bx.set b (.var (splice cs off vs)))⟩ else none
        | _ => none
      | .rp b sz i j => match toDsT t bx vs with
        | some (c, ds) => match (seals bx vs)[b]? with
          | some (.row s es) => bif Nat.beq s sz then some ⟨c ∧ t Prop (fun _ => i < es.length ∧ j + ds.length ≤ (es.getD i []).length), .any,
              some ((seals bx vs).set b (.row s (t _ (fun _ => es.set i (spliceD (es.getD i []) j ds)))))⟩ else none
          | _ => none
        | none => none
      | _ => none
    else none

def binIT (op : BinOp) (k : IntKind) (x y : Int) : Option (Prop × D) :=
  match op with
  | .add => some (True, .int k (t _ fun _ => k.wrap (x + y)))
  | .sub => some (True, .int k (t _ fun _ => k.wrap (x - y)))
  | .mul => some (True, .int k (t _ fun _ => k.wrap (x * y)))
  | .quo => some (t Prop fun _ => y ≠ 0, .int k (t _ fun _ => k.wrap (x.tdiv y)))
  | .rem => some (t Prop fun _ => y ≠ 0, .int k (t _ fun _ => x.tmod y))
  | .and => some (True, .int k (t _ fun _ => k.wrap (BitVec.ofInt k.bits x &&& BitVec.ofInt k.bits y).toNat))
  | .or => some (True, .int k (t _ fun _ => k.wrap (BitVec.ofInt k.bits x ||| BitVec.ofInt k.bits y).toNat))
  | .xor => some (True, .int k (t _ fun _ => k.wrap (BitVec.ofInt k.bits x ^^^ BitVec.ofInt k.bits y).toNat))
  | .andNot => some (True, .int k (t _ fun _ => k.wrap (BitVec.ofInt k.bits x &&& ~~~(BitVec.ofInt k.bits y)).toNat))
  | .eql => some (True, .bool (t _ fun _ => decide (x = y)))
  | .neq => some (True, .bool (t _ fun _ => !decide (x = y)))
  | .lss => some (True, .bool (t _ fun _ => decide (x < y)))
  | .leq => some (True, .bool (t _ fun _ => decide (x ≤ y)))
  | .gtr => some (True, .bool (t _ fun _ => decide (y < x)))
  | .geq => some (True, .bool (t _ fun _ => decide (y ≤ x)))
  | _ => none

def binST (op : BinOp) (x y : List UInt8) : Option (Prop × D) :=
  match op with
  | .add => some (t Prop fun _ => x.length + y.length ≤ 9223372036854775807, .str (t _ fun _ => x ++ y))
  | .eql => some (True, .bool (t _ fun _ => decide (x = y)))
  | .neq => some (True, .bool (t _ fun _ => !decide (x = y)))
  | .lss => some (True, .bool (t _ fun _ => Op.bytesLess x y))
  | .leq => some (True, .bool (t _ fun _ => Op.bytesLess x y || decide (x = y)))
  | .gtr => some (True, .bool (t _ fun _ => !(Op.bytesLess x y || decide (x = y))))
  | .geq => some (True, .bool (t _ fun _ => !Op.bytesLess x y))
  | _ => none

def binRT (op : BinOp) (x y : AV) : Option (Prop × D) :=
  match op, x, y with
  | .shl, .d (.int k x), .d (.int _ y) => some (t Prop fun _ => 0 ≤ y, .int k (t _ fun _ => k.wrap (x * 2 ^ (min y.toNat k.bits))))
  | .shr, .d (.int k x), .d (.int _ y) => some (t Prop fun _ => 0 ≤ y, .int k (t _ fun _ => x.fdiv (2 ^ (min y.toNat k.bits))))
  | op, .d (.int k x), .d (.int k' y) => bif k == k' then binIT t op k x y else none
  | op, .d (.str x), .d (.str y) => binST t op x y
  | _, _, _ => none

def eqAT (T : Nat → Option TI) : Nat → Nat → AV → AV → Option Bool
  | 0, _, _, _ => none
  | n + 1, ty, x, y => match T ty with
    | none => none
    | some ti => match ti.kd, x, y with
      | .int _, .d (.int j a), .d (.int k b) => bif j == k then some (t _ fun _ => decide (a = b)) else none
      | .bool, .d (.bool a), .d (.bool b) => some (t _ fun _ => a == b)
      | .str, .d (.str a), .d (.str b) => some (t _ fun _ => decide (a = b))
      | .array len e, .agg xs, .agg ys => match T e with
        | some te => bif Nat.beq len 0 then none else (List.range len).foldr (fun i acc => match splitA te.kd.isAgg te.size (xs.drop (i * te.size)), splitA te.kd.isAgg te.size (ys.drop (i * te.size)) with
          | some a, some b => match eqAT T n e a b, acc with
            | some p, some q => some (t _ fun _ => p && q)
            | _, _ => none
          | _, _ => none) (some true)
        | none => none
      | .struct fs, .agg xs, .agg ys => bif ti.eq then fs.foldr (fun f acc => match T f.2 with
          | some tf => match splitA tf.kd.isAgg tf.size (xs.drop f.1), splitA tf.kd.isAgg tf.size (ys.drop f.1) with
            | some a, some b => match eqAT T n f.2 a b, acc with
              | some p, some q => some (t _ fun _ => p && q)
              | _, _ => none
            | _, _ => none
          | none => none) (some true) else none
      | _, _, _ => none

def pickVT (p : Bool) : AV → AV → AV
  | .d (.bool x), .d (.bool y) => .d (.bool (t _ fun _ => bif p then x else y))
  | _, _ => .any

def unRT (op : UnOp) (x : AV) : Option D :=
  match op, x with
  | .not, .d (.bool b) => some (.bool (t _ fun _ => !b))
  | .neg, .d (.int k n) => some (.int k (t _ fun _ => k.wrap (0 - n)))
  | .xor, .d (.int k n) => some (.int k (t _ fun _ => k.wrap (BitVec.ofInt k.bits (if k.signed then -1 else k.max) ^^^ BitVec.ofInt k.bits n).toNat))
  | _, _ => none

def sliceT (T : Nat → Option TI) (ty : Nat) (x : AV) (lo hi mx : Option Int) (bx : List Box) : Option R :=
  match T ty with
  | some ti => match ti.kd, x, mx with
    | .str, .d (.str s), none => some ⟨t Prop fun _ => cutC s.length lo hi, .d (.str (t _ fun _ => cutL s lo hi)), none⟩
    | .slice e, x, none => match x.rowsT t bx, T e with
      | some (c, es), some te => some ⟨c ∧ t Prop (fun _ => cutC es.length lo hi ∧ ∀ r ∈ es, r.length = te.size), .d (.sl (t _ fun _ => cutL es lo hi)), bif ownless [x] then none else some (x.sealB bx)⟩
      | _, _ => none
    | .slice e, x, some m => match x.rowsT t bx, hi, T e with
      | some (c, es), some h, some te => some ⟨c ∧ t Prop (fun _ => (cutC es.length lo (some h) ∧ m = h) ∧ ∀ r ∈ es, r.length = te.size), .cl (t _ fun _ => cutL es lo (some h)), bif ownless [x] then none else some (x.sealB bx)⟩
      | _, _, _ => none
    | .array n e, .ep ds, none => match lo, hi, T e with
      | none, none, some te => bif Nat.ble (n * te.size) ds.length then some ⟨True, .d (.sl (chunk te.size n ds)), none⟩ else none
      | _, _, _ => none
    | _, _, _ => none
  | none => none

def rowsOfT (bx : List Box) (size : Nat) : List (Nat × AV) → Option (Prop × List (List D))
  | [] => some (True, [])
  | (_, v) :: r => match v.cells? with
    | some vs => match toDsT t bx vs, rowsOfT bx size r with
      | some (c, ds), some (d, rs) => bif Nat.beq ds.length size then some (c ∧ d, ds :: rs) else none
      | _, _ => none
    | none => none

def buildSliceT (T : Nat → Option TI) (ty n : Nat) (parts : List (Nat × AV)) (bx : List Box) : Option R :=
  match T ty with
  | some ti => match ti.kd with
    | .slice e => match T e with
      | some te => bif Nat.beq parts.length n && inOrder 0 parts && Nat.ble (n * te.size) 16777216 && te.zero.cells?.isSome then
          match rowsOfT t bx te.size parts with
          | some (c, rs) => some ⟨c, .cl rs, bif noOw parts then none else some (sealParts bx parts)⟩
          | none => none
        else none
      | none => none
    | _ => none
  | none => none

def rowsXT (size : Nat) (x : AV) (bx : List Box) : Option (Prop × List (List D)) :=
  match x with
  | .d (.str b) => bif Nat.beq size 1 then some (True, t _ fun _ => b.map byteRow) else none
  | x => x.rowsT t bx

def appendT (T : Nat → Option TI) (ty : Nat) (s x : AV) (bx : List Box) : Option R :=
  match T ty with
  | some ti => match ti.kd with
    | .slice e => match T e with
      | some te => bif zeroOk te then
        match rowsXT t te.size x bx with
        | some (c, xs) => match s with
          | .cl es => some ⟨c ∧ t Prop (fun _ => (es = [] ∨ xs ≠ []) ∧ (es.length + xs.length) * te.bytes ≤ 140737488355328 ∧ (∀ r ∈ es ++ xs, r.length = te.size)),
                .ow bx.length te.size (t _ fun _ => es.length + xs.length), some (bx ++ [.row te.size (t _ fun _ => es ++ xs)])⟩
          | .ow b sz n => match bx[b]? with
            | some (.row s2 es) => bif sameBox b x || !(Nat.beq s2 sz && Nat.beq sz te.size) then none else
                some ⟨c ∧ t Prop (fun _ => n = es.length ∧ (es.length + xs.length) * te.bytes ≤ 140737488355328 ∧ (∀ r ∈ es ++ xs, r.length = te.size)),
                .ow bx.length te.size (t _ fun _ => es.length + xs.length), some ((bx.set b .dead) ++ [.row te.size (t _ fun _ => es ++ xs)])⟩
            | _ => none
          | _ => none
        | none => none
        else none
      | none => none
    | _ => none
  | none => none

def convT (T : Nat → Option TI) (src dst : Nat) (x : AV) (bx : List Box) : Option R :=
  match T src, T dst with
  | some ts, some td => match ts.kd, td.kd, x with
    | _, .int k, .d (.int _ n) => R.pure (.d (.int k (t _ fun _ => k.wrap n)))
    | .slice e, .str, x => match T e, x.rowsT t bx with
      | some te, some (c, es) => match te.kd with
        | .int .u8 => some ⟨c ∧ t Prop (fun _ => ∀ r ∈ es, isByteRow r), .d (.str (t _ fun _ => es.map rowByte)), none⟩
        | _ => none
      | _, _ => none
    | .str, .str, .d (.str s) => R.pure (.d (.str s))
    | _, _, _ => none
  | _, _ => none

def builtinT (T : Nat → Option TI) (b : Builtin) (args : List AV) (ats : List Nat) (bx : List Box) : Option R :=
  match b, args, ats with
  | .len, [x], [ty] => match T ty with
    | some ti => match ti.kd, x with
      | .array n _, _ => R.pure (.d (.int .i64 n))
      | .str, .d (.str s) => R.pure (.d (.int .i64 (t _ fun _ => s.length)))
      | .slice _, x => match x.rowsT t bx with
        | some (c, es) => some ⟨c, .d (.int .i64 (t _ fun _ => es.length)), none⟩
        | none => none
      | _, _ => none
    | none => none
  | .min, [.d (.int k x), .d (.int _ y)], _ => R.pure (.d (.int k (t _ fun _ => min x y)))
  | .max, [.d (.int k x), .d (.int _ y)], _ => R.pure (.d (.int k (t _ fun _ => max x y)))
  | .append, [s, x], [ty, u] => match T u with
    | some tu => match tu.kd with
      | .int _ => none
      | _ => appendT t T ty s x bx
    | none => none
  | _, _, _ => none

def copySrcT (size : Nat) (y : AV) (n : Nat) (bx : List Box) : Option (Prop × Nat × List (List D)) :=
  match y with
  | .vw b sz off n2 _ _ => match bx[b]? with
    | some (.row s es) => bif Nat.beq s sz then some (t Prop (fun _ => off + min n2 n ≤ es.length), t _ (fun _ => min n2 n), t _ fun _ => (es.drop off).take (min n2 n)) else none
    | some (.imm s es) => bif Nat.beq s sz then some (t Prop (fun _ => off + min n2 n ≤ es.length), t _ (fun _ => min n2 n), t _ fun _ => (es.drop off).take (min n2 n)) else none
    | _ => none
  | y => match rowsXT t size y bx with
    | some (c, xs) => some (c, t _ (fun _ => min xs.length n), t _ fun _ => xs.take (min xs.length n))
    | none => none

def copyT (te : TI) (x y : AV) (bx : List Box) : Option R :=
  match viewAt x with
  | some (b, sz, off, n, _, _) => match bx[b]?, copySrcT t te.size y n bx with
    | some (.row s es), some (cy, m, xs) => bif Nat.beq s sz && Nat.beq sz te.size then
        some ⟨cy ∧ t Prop (fun _ => fitsW es off m ∧ ∀ r ∈ xs, r.length = te.size), .d (.int .i64 (t _ fun _ => (m : Int))),
          some (bx.set b (.row sz (t _ fun _ => wrote es off xs)))⟩ else none
    | _, _ => none
  | none => none

def clearT (te : TI) (x : AV) (bx : List Box) : Option R :=
  match viewAt x with
  | some (b, sz, off, n, _, _) => match bx[b]?, zeroRow te with
    | some (.row s es), some z => bif Nat.beq s sz && Nat.beq sz te.size && zeroOk te then
        some ⟨t Prop (fun _ => fitsW es off n), .tup [], some (bx.set b (.row sz (t _ fun _ => wrote es off (List.replicate n z))))⟩ else none
    | _, _ => none
  | none => none

def growT (te : TI) (b sz off n c : Nat) (ex : Bool) (m : Int) (bx : List Box) : Option R :=
  match bx[b]?, zeroRow te with
  | some (.row s es), some z => bif Nat.beq s sz && Nat.beq sz te.size && zeroOk te && ex then
      some ⟨t Prop (fun _ => 0 ≤ m ∧ c < n + m.toNat ∧ off + n ≤ es.length ∧ (n + m.toNat) * te.bytes ≤ 140737488355328),
        .vw bx.length sz 0 (t _ fun _ => n + m.toNat) (t _ fun _ => n + m.toNat) false, some (bx ++ [.row sz (t _ fun _ => (es.drop off).take n ++ List.replicate m.toNat z)])⟩ else none
  | _, _ => none

def insideT (te : TI) (b sz off n c : Nat) (ex : Bool) (y : AV) (bx : List Box) : Option R :=
  match bx[b]?, rowsXT t te.size y bx with
  | some (.row s es), some (cy, xs) => bif Nat.beq s sz && Nat.beq sz te.size then
      some ⟨cy ∧ t Prop (fun _ => fitsW es (off + n) xs.length ∧ n + xs.length ≤ c ∧ ∀ r ∈ xs, r.length = te.size), .vw b sz off (t _ fun _ => n + xs.length) c ex,
        some (bx.set b (.row sz (t _ fun _ => wrote es (off + n) xs)))⟩ else none
  | _, _ => none

def viewT (T : Nat → Option TI) (ev : Operand → AV) (o : Op) (bx : List Box) : Option R :=
  match o with
  | .slice ty x lo hi mx => match ev x, elemOf T ty, bnd ev lo, bnd ev hi, bnd ev mx with
    | .vw b sz off n c ex, some te, some l, some h, some none => bif Nat.beq te.size sz then
        some ⟨t Prop (fun _ => cutV n c l h), .vw b sz (t _ fun _ => off + lowOf l) (t _ fun _ => highOf n h - lowOf l) (t _ fun _ => c - lowOf l) ex, none⟩ else none
    | .vw b sz off n c ex, some te, some l, some (some h), some (some m) => bif Nat.beq te.size sz then
        some ⟨t Prop (fun _ => cutC c l (some h) ∧ h ≤ m ∧ m ≤ c), .vw b sz (t _ fun _ => off + lowOf l) (t _ fun _ => h.toNat - lowOf l) (t _ fun _ => m.toNat - lowOf l) true, none⟩ else none
    | _, _, _, _, _ => none
  | .indexAddr ty x i => match ev x, elemOf T ty, ev i with
    | .vw b sz off n _ _, some te, .d (.int _ z) => bif Nat.beq te.size sz then some ⟨t Prop (fun _ => 0 ≤ z ∧ z < n), .rp b sz (t _ fun _ => off + z.toNat) 0, none⟩ else none
    | _, _, _ => none
  | .call { callee := .builtin b, args, argTypes } => match b, args.toList.map ev, argTypes.toList with
    | .len, [.vw _ _ _ n _ _], [ty] => match elemOf T ty with
      | some _ => R.pure (.d (.int .i64 (t _ fun _ => n)))
      | none => none
    | .cap, [.vw _ _ _ _ c true], [ty] => match elemOf T ty with
      | some _ => R.pure (.d (.int .i64 (t _ fun _ => c)))
      | none => none
    | .copy, [x, y], ty :: _ => match elemOf T ty with
      | some te => copyT t te x y bx
      | none => none
    | .clear, [x], ty :: _ => match elemOf T ty with
      | some te => clearT t te x bx
      | none => none
    | .append, [.vw b sz off n c ex, y], [ty, u] => match elemOf T ty, isIntT T u with
      | some te, some true => match y with
        | .d (.int .i64 m) => growT t te b sz off n c ex m bx
        | _ => none
      | some te, some false => bif sameBox b y then insideT t te b sz off n c ex y bx else
          match bx[b]?, appendT t T ty (.ow b sz n) y bx with
          | some (.row _ es), some ⟨c1, v, bx'⟩ => some ⟨c1 ∧ t Prop (fun _ => whole es off n c ex), v, bx'⟩
          | _, _ => none
      | _, _ => none
    | _, _, _ => none
  | _ => none

def opT0 (T : Nat → Option TI) (ev : Operand → AV) (o : Op) (bx : List Box) : Option R :=
  match o with
  | .move x => R.pure (ev x)
  | .assign x => R.pure (ev x)
  | .alloc ty => match T ty with
    | some ti => match ti.zero.cells? with
      | some cs => some ⟨True, .ptr bx.length 0, some (bx ++ [.var cs])⟩
      | none => none
    | none => none
  | .box _ x => match (ev x).cells? with
    | some cs => some ⟨True, .ptr bx.length 0, some (bx ++ [.var cs])⟩
    | none => none
  | .load ty a => match T ty with
    | some ti => loadT ti (ev a) bx
    | none => none
  | .store ty a x => match T ty with
    | some ti => storeT t ti (ev a) (ev x) bx
    | none => none
  | .build ty parts => buildR T ty (parts.toList.map fun p => (p.1, ev p.2))
  | .buildSlice ty n parts => buildSliceT t T ty n (parts.toList.map fun p => (p.1, ev p.2)) bx
  | .fieldAddr ty x f => match T ty with
    | some ti => match offOf ti.kd f with
      | some (o, ft) => match T ft with
        | some tf => bif Nat.beq tf.size 0 then none else
          match ev x with
          | .ptr b off => R.pure (.ptr b (off + o))
          | .rp b sz i j => R.pure (.rp b sz i (j + o))
          | .ep ds => bif Nat.ble o ds.length then R.pure (.ep (ds.drop o)) else none
          | _ => none
        | none => none
      | none => none
    | none => none
  | .indexAddr ty x i => match T ty with
    | some ti => match ti.kd, ev i with
      | .array n e, .d (.int _ z) => match T e with
        | some te => match ev x with
          | .ptr b off => some ⟨t Prop fun _ => 0 ≤ z ∧ z < n, .ptr b (off + z.toNat * te.size), none⟩
          | .rp b sz a j => some ⟨t Prop fun _ => 0 ≤ z ∧ z < n, .rp b sz a (j + z.toNat * te.size), none⟩
          | .ep ds => some ⟨t Prop fun _ => 0 ≤ z ∧ z < n ∧ z.toNat * te.size ≤ ds.length, .ep (ds.drop (z.toNat * te.size)), none⟩
          | _ => none
        | none => none
      | .slice e, .d (.int _ z) => match T e, ev x with
        | some te, .ow b sz n => bif Nat.beq te.size sz then some ⟨t Prop fun _ => 0 ≤ z ∧ z < n, .rp b sz (t _ fun _ => z.toNat) 0, none⟩ else none
        | _, _ => none
      | _, _ => none
    | none => none
  | .field ty x f => match T ty with
    | some ti => match offOf ti.kd f with
      | some (o, ft) => match T ft, ev x with
        | some tf, .agg cs => match splitA tf.kd.isAgg tf.size (cs.drop o) with
          | some v => R.pure v
          | none => none
        | _, _ => none
      | none => none
    | none => none
  | .index ty x i => match T ty with
    | some ti => match ti.kd, ev x, ev i with
      | .str, .d (.str s), .d (.int _ z) => some ⟨t Prop fun _ => 0 ≤ z ∧ z < s.length, .d (.int .u8 (t _ fun _ => (s.getD z.toNat 0).toNat)), none⟩
      | .array n e, .agg cs, .d (.int _ z) => match T e with
        | some te => match splitA te.kd.isAgg te.size (cs.drop (z.toNat * te.size)) with
          | some v => some ⟨t Prop fun _ => 0 ≤ z ∧ z < n, v, none⟩
          | none => none
        | none => none
      | _, _, _ => none
    | none => none
  | .extract x i => match ev x with
    | .tup vs => match vs[i]? with
      | some v => R.pure v
      | none => none
    | _ => none
  | .binOp op ty x y _ => match ev x, ev y with
    | .agg xs, .agg ys => match op with
        | .eql => (eqAT t T 8 ty (.agg xs) (.agg ys)).bind fun d => R.pure (.d (.bool d))
        | .neq => (eqAT t T 8 ty (.agg xs) (.agg ys)).bind fun d => R.pure (.d (.bool (t _ fun _ => !d)))
        | _ => none
    | .d (.bool p), .d (.bool q) => match T ty, op with
        | some ti, .eql => match ti.kd with
          | .bool => R.pure (.d (.bool (t _ fun _ => p == q)))
          | _ => none
        | some ti, .neq => match ti.kd with
          | .bool => R.pure (.d (.bool (t _ fun _ => !(p == q))))
          | _ => none
        | _, _ => none
    | x, y => match binRT t op x y with
      | some (c, d) => some ⟨c, .d d, none⟩
      | none => none
  | .unOp op _ x => (unRT t op (ev x)).bind fun d => R.pure (.d d)
  | .convert s d x => convT t T s d (ev x) bx
  | .slice ty x lo hi mx => match bnd ev lo, bnd ev hi, bnd ev mx with
    | some l, some h, some m => sliceT t T ty (ev x) l h m bx
    | _, _, _ => none
  | .makeFunc (.func f) first caps => bif first.toList.isEmpty then R.pure (.fn f (caps.toList.map ev)) else none
  | .nilCheck x => match ev x with
    | .ptr b o => R.pure (.ptr b o)
    | .rp b s i j => R.pure (.rp b s i j)
    | .ep ds => R.pure (.ep ds)
    | .fn f cs => R.pure (.fn f cs)
    | _ => none
  | .call { callee := .builtin b, args, argTypes } => builtinT t T b (args.toList.map ev) argTypes.toList bx
  | _ => none

def opT (T : Nat → Option TI) (ev : Operand → AV) (o : Op) (bx : List Box) : Option R :=
  bif isView ev o then viewT t T ev o bx else opT0 t T ev o bx
end

/- what is told so is told by the calculus -/
section
variable {bx : List Box}

theorem toDT_D {x : AV} {c : Prop} {y : D} (h : x.toDT t0 bx = some (c, y)) (hc : c) : x.toD bx = some y := by
  unfold AV.toDT at h
  split at h
  · simp only [Option.some.injEq, Prod.mk.injEq] at h; obtain ⟨rfl, rfl⟩ := h; rfl
  · simp only [Option.some.injEq, Prod.mk.injEq] at h; obtain ⟨rfl, rfl⟩ := h; rfl
  · simp only [Option.some.injEq, Prod.mk.injEq] at h; obtain ⟨rfl, rfl⟩ := h; rfl
  · rename_i b sz n
    split at h
    · rename_i s es hb
      cases hs : Nat.beq s sz with
      | false => simp [hs] at h
      | true =>
      simp only [hs, cond_true, Option.some.injEq, Prod.mk.injEq] at h
      obtain ⟨rfl, rfl⟩ := h
      have hn : n = es.length := hc
      simp [AV.toD, hb, hs, hn]
    · rename_i s es hb
      cases hs : Nat.beq s sz with
      | false => simp [hs] at h
      | true =>
      simp only [hs, cond_true, Option.some.injEq, Prod.mk.injEq] at h
      obtain ⟨rfl, rfl⟩ := h
      have hn : n = es.length := hc
      simp [AV.toD, hb, hs, hn]
    · simp at h
  · simp at h

theorem toDsT_Ds : ∀ {xs : List AV} {c : Prop} {ys : List D}, toDsT t0 bx xs = some (c, ys) → c → toDs bx xs = some ys
  | [], c, ys, h, _ => by simp [toDsT] at h; simp [toDs, h.2]
  | x :: xs, c, ys, h, hc => by
    simp only [toDsT] at h
    split at h
    · rename_i c1 y d ys' h1 h2
      simp only [Option.some.injEq, Prod.mk.injEq] at h
      obtain ⟨rfl, rfl⟩ := h
      simp [toDs, toDT_D h1 hc.1, toDsT_Ds h2 hc.2]
    · simp at h

theorem rowsT_rows {x : AV} {c : Prop} {es : List (List D)} (h : x.rowsT t0 bx = some (c, es)) (hc : c) : x.rows bx = some es := by
  unfold AV.rowsT at h
  split at h
  · simp only [Option.some.injEq, Prod.mk.injEq] at h; obtain ⟨rfl, rfl⟩ := h; rfl
  · simp only [Option.some.injEq, Prod.mk.injEq] at h; obtain ⟨rfl, rfl⟩ := h; rfl
  · rename_i b sz n
    split at h
    · rename_i s es' hb
      cases hs : Nat.beq s sz with
      | false => simp [hs] at h
      | true =>
      simp only [hs, cond_true, Option.some.injEq, Prod.mk.injEq] at h
      obtain ⟨rfl, rfl⟩ := h
      have hn : n = es'.length := hc
      simp [AV.rows, hb, hs, hn]
    · rename_i s es' hb
      cases hs : Nat.beq s sz with
      | false => simp [hs] at h
      | true =>
      simp only [hs, cond_true, Option.some.injEq, Prod.mk.injEq] at h
      obtain ⟨rfl, rfl⟩ := h
      have hn : n = es'.length := hc
      simp [AV.rows, hb, hs, hn]
    · simp at h
  · rename_i b sz off n _ _
    split at h
    · rename_i s es' hb
      cases hs : Nat.beq s sz with
      | false => simp [hs] at h
      | true =>
      simp only [hs, cond_true, Option.some.injEq, Prod.mk.injEq] at h
      obtain ⟨rfl, rfl⟩ := h
      have hn : Nat.ble (off + n) es'.length = true := Nat.ble_eq_true_of_le hc
      simp [AV.rows, hb, hs, hn, t0]
    · rename_i s es' hb
      cases hs : Nat.beq s sz with
      | false => simp [hs] at h
      | true =>
      simp only [hs, cond_true, Option.some.injEq, Prod.mk.injEq] at h
      obtain ⟨rfl, rfl⟩ := h
      have hn : Nat.ble (off + n) es'.length = true := Nat.ble_eq_true_of_le hc
      simp [AV.rows, hb, hs, hn, t0]
    · simp at h
  · simp at h

theorem eqAT_eqA {T : Nat → Option TI} : ∀ (n ty : Nat) (x y : AV), eqAT t0 T n ty x y = eqA T n ty x y
  | 0, _, _, _ => rfl
  | n + 1, ty, x, y => by
    have ih : ∀ e a b, eqAT t0 T n e a b = eqA T n e a b := fun e a b => eqAT_eqA n e a b
    simp only [eqAT, eqA, ih]
    rfl

/-- an operation, told so: the calculus tells it -/
def Tells (r : Option R) (v : AV) (b : Option (List Box)) : Prop := ∃ c', r = some ⟨c', v, b⟩ ∧ c'

theorem Tells.of_eq {r r' : Option R} {c : Prop} {v : AV} {b : Option (List Box)} (h : r' = some ⟨c, v, b⟩) (he : r' = r) (hc : c) : Tells r v b := ⟨c, he ▸ h, hc⟩

theorem loadT_R {ti : TI} {a : AV} {c : Prop} {v : AV} {b : Option (List Box)} (h : loadT ti a bx = some ⟨c, v, b⟩) (hc : c) : Tells (loadR ti a bx) v b := by
  cases a with
  | rp => simp [loadT] at h
  | _ => exact ⟨c, h, hc⟩

theorem storeT_R {ti : TI} {a x : AV} {c : Prop} {v : AV} {b : Option (List Box)} (h : storeT t0 ti a x bx = some ⟨c, v, b⟩) (hc : c) : Tells (storeR ti a x bx) v b := by
  unfold storeT at h
  unfold storeR
  split at h
  · simp at h
  rename_i vs hvs
  simp only [hvs]
  cases hl : Nat.beq vs.length ti.size with
  | false => simp [hl] at h
  | true =>
  simp only [hl, cond_true] at h ⊢
  split at h
  · exact ⟨c, h, hc⟩
  · rename_i b' sz i j
    split at h
    · rename_i c1 ds hds
      split at h
      · rename_i s es hb
        cases hs : Nat.beq s sz with
        | false => simp [hs] at h
        | true =>
        simp only [hs, cond_true, Option.some.injEq, R.mk.injEq] at h
        obtain ⟨rfl, rfl, rfl⟩ := h
        have hs' : s = sz := Nat.eq_of_beq_eq_true hs
        simp only [toDsT_Ds hds hc.1, hb]
        exact ⟨_, rfl, hs', hc.2.1, hc.2.2⟩
      · simp at h
    · simp at h
  · simp at h

theorem binIT_R (op : BinOp) (k : IntKind) (x y : Int) : binIT t0 op k x y = binI op k x y := by cases op <;> rfl
theorem binST_R (op : BinOp) (x y : List UInt8) : binST t0 op x y = binS op x y := by cases op <;> rfl
theorem binRT_R (op : BinOp) (x y : AV) : binRT t0 op x y = binR op x y := by
  unfold binRT binR; simp only [binIT_R, binST_R]; rfl
theorem unRT_R (op : UnOp) (x : AV) : unRT t0 op x = unR op x := by
  unfold unRT unR; rfl
theorem pickVT_R (p : Bool) (x y : AV) : pickVT t0 p x y = pickV p x y := by
  unfold pickVT pickV; rfl

theorem sliceT_R {T : Nat → Option TI} {ty : Nat} {x : AV} {lo hi mx : Option Int} {c : Prop} {v : AV} {b : Option (List Box)} (h : sliceT t0 T ty x lo hi mx bx = some ⟨c, v, b⟩) (hc : c) : Tells (sliceR T ty x lo hi mx bx) v b := by
  unfold sliceT at h
  unfold sliceR
  split at h
  · rename_i ti ht
    simp only [ht]
    split at h
    · rename_i s hk
      simp only [hk]
      exact ⟨c, h, hc⟩
    · rename_i e hk
      simp only [hk]
      split at h
      · rename_i c1 es te h1 h2
        simp only [Option.some.injEq, R.mk.injEq] at h
        obtain ⟨rfl, rfl, rfl⟩ := h
        simp only [rowsT_rows h1 hc.1, h2]
        exact ⟨_, rfl, hc.2⟩
      · simp at h
    · rename_i e m hk
      simp only [hk]
      split at h
      · rename_i c1 es h' te h1 h2
        simp only [Option.some.injEq, R.mk.injEq] at h
        obtain ⟨rfl, rfl, rfl⟩ := h
        simp only [rowsT_rows h1 hc.1, h2]
        exact ⟨_, rfl, hc.2⟩
      · simp at h
    · rename_i n e ds hk
      simp only [hk]
      split at h
      · rename_i te hte
        cases hb : Nat.ble (n * te.size) ds.length with
        | false => simp [hb] at h
        | true =>
        simp only [hb, cond_true, Option.some.injEq, R.mk.injEq] at h
        obtain ⟨rfl, rfl, rfl⟩ := h
        simp only [hte]
        exact ⟨_, rfl, Nat.le_of_ble_eq_true hb⟩
      · simp at h
    · simp at h
  · simp at h

theorem rowsOfT_R {size : Nat} : ∀ {parts : List (Nat × AV)} {c : Prop} {rs : List (List D)}, rowsOfT t0 bx size parts = some (c, rs) → c → rowsOf bx size parts = some rs
  | [], c, rs, h, _ => by simp [rowsOfT] at h; simp [rowsOf, h.2]
  | (i, v) :: r, c, rs, h, hc => by
    simp only [rowsOfT] at h
    split at h
    · rename_i vs hvs
      split at h
      · rename_i c1 ds d rs' h1 h2
        cases hl : Nat.beq ds.length size with
        | false => simp [hl] at h
        | true =>
        simp only [hl, cond_true, Option.some.injEq, Prod.mk.injEq] at h
        obtain ⟨rfl, rfl⟩ := h
        simp only [rowsOf, hvs, toDsT_Ds h1 hc.1, rowsOfT_R h2 hc.2, hl, cond_true]
      · simp at h
    · simp at h

theorem buildSliceT_R {T : Nat → Option TI} {ty n : Nat} {parts : List (Nat × AV)} {c : Prop} {v : AV} {b : Option (List Box)} (h : buildSliceT t0 T ty n parts bx = some ⟨c, v, b⟩) (hc : c) : Tells (buildSliceR T ty n parts bx) v b := by
  unfold buildSliceT at h
  unfold buildSliceR
  split at h
  · rename_i ti ht
    simp only [ht]
    split at h
    · rename_i e hk
      simp only [hk]
      split at h
      · rename_i te hte
        simp only [hte]
        cases hb : (Nat.beq parts.length n && inOrder 0 parts && Nat.ble (n * te.size) 16777216 && te.zero.cells?.isSome) with
        | false => simp only [hb, cond_false] at h; simp at h
        | true =>
        simp only [hb, cond_true] at h ⊢
        split at h
        · rename_i c1 rs h1
          simp only [Option.some.injEq, R.mk.injEq] at h
          obtain ⟨rfl, rfl, rfl⟩ := h
          simp only [rowsOfT_R h1 hc]
          exact ⟨_, rfl, trivial⟩
        · simp at h
      · simp at h
    · simp at h
  · simp at h

theorem rowsXT_R {size : Nat} {x : AV} {c : Prop} {xs : List (List D)} (h : rowsXT t0 size x bx = some (c, xs)) (hc : c) : rowsX size x bx = some xs := by
  unfold rowsXT at h
  split at h
  · rename_i b
    simp only [rowsX]
    cases hs : Nat.beq size 1 with
    | false => simp [hs] at h
    | true =>
      simp only [hs, cond_true, Option.some.injEq, Prod.mk.injEq] at h ⊢
      exact h.2
  · rename_i hx
    unfold rowsX
    split
    · rename_i b; exact absurd rfl (hx b)
    · exact rowsT_rows h hc

theorem appendT_R {T : Nat → Option TI} {ty : Nat} {s x : AV} {c : Prop} {v : AV} {b : Option (List Box)} (h : appendT t0 T ty s x bx = some ⟨c, v, b⟩) (hc : c) : Tells (appendR T ty s x bx) v b := by
  unfold appendT at h
  unfold appendR
  split at h
  · rename_i ti ht
    simp only [ht]
    split at h
    · rename_i e hk
      simp only [hk]
      split at h
      · rename_i te hte
        simp only [hte]
        cases hz : zeroOk te with
        | false => simp [hz] at h
        | true =>
        simp only [hz, cond_true] at h ⊢
        split at h
        · rename_i c1 xs h1
          split at h
          · rename_i es
            simp only [Option.some.injEq, R.mk.injEq] at h
            obtain ⟨rfl, rfl, rfl⟩ := h
            obtain ⟨hc1, hne, hl, hr⟩ := hc
            simp only [rowsXT_R h1 hc1]
            cases es with
            | nil =>
              refine ⟨_, by simp only [t0, List.length_nil, Nat.zero_add, List.nil_append]; rfl, ?_⟩
              exact ⟨by simpa using hl, by simpa using hr⟩
            | cons e0 er =>
              cases xs with
              | nil => simp at hne
              | cons x0 xr => exact ⟨_, rfl, hl, hr⟩
          · rename_i b' sz n
            split at h
            · rename_i s2 es hb
              cases hsb : sameBox b' x with
              | true => simp [hsb] at h
              | false =>
              cases h2 : Nat.beq s2 sz with
              | false => simp [hsb, h2] at h
              | true =>
              cases h3 : Nat.beq sz te.size with
              | false => simp [hsb, h2, h3] at h
              | true =>
              simp only [hsb, h2, h3, Bool.and_self, Bool.not_true, Bool.or_self, cond_false, Option.some.injEq, R.mk.injEq] at h
              obtain ⟨rfl, rfl, rfl⟩ := h
              obtain ⟨hc1, hn, hl, hr⟩ := hc
              simp only [rowsXT_R h1 hc1, hb, hsb, cond_false]
              exact ⟨_, rfl, Nat.eq_of_beq_eq_true h2, Nat.eq_of_beq_eq_true h3, hn, hl, hr⟩
            · simp at h
          · simp at h
        · simp at h
      · simp at h
    · simp at h
  · simp at h

theorem convT_R {T : Nat → Option TI} {src dst : Nat} {x : AV} {c : Prop} {v : AV} {b : Option (List Box)} (h : convT t0 T src dst x bx = some ⟨c, v, b⟩) (hc : c) : Tells (convR T src dst x bx) v b := by
  unfold convT at h
  unfold convR
  split at h
  · rename_i ts td h1 h2
    simp only [h1, h2]
    generalize ts.kd = ks at h ⊢
    generalize td.kd = kd at h ⊢
    cases kd with
    | int k =>
      cases x with
      | d y => cases y with
        | int k' n => exact ⟨c, h, hc⟩
        | _ => cases ks <;> simp at h
      | _ => cases ks <;> simp at h
    | str =>
      cases ks with
      | slice e =>
        simp only at h ⊢
        split at h
        · rename_i te c1 es h3 h4
          simp only [h3]
          split at h
          · rename_i hk
            simp only [Option.some.injEq, R.mk.injEq] at h
            obtain ⟨rfl, rfl, rfl⟩ := h
            simp only [rowsT_rows h4 hc.1, hk]
            exact ⟨_, rfl, hc.2⟩
          · simp at h
        · simp at h
      | str =>
        cases x with
        | d y => cases y with
          | str s => exact ⟨c, h, hc⟩
          | _ => simp at h
        | _ => simp at h
      | _ => simp at h
    | _ => cases ks <;> simp at h
  · simp at h

theorem lenR_of {x : AV} {es : List (List D)} (hr : x.rows bx = some es) : lenR x bx = some (.d (.int .i64 es.length)) := by
  unfold AV.rows at hr
  split at hr
  · simp only [Option.some.injEq] at hr; subst hr; rfl
  · simp only [Option.some.injEq] at hr; subst hr; rfl
  · simp only [lenR, AV.rows, hr]
  · simp only [lenR, AV.rows, hr]
  · simp at hr

theorem builtinT_R {T : Nat → Option TI} {bi : Builtin} {args : List AV} {ats : List Nat} {c : Prop} {v : AV} {b : Option (List Box)} (h : builtinT t0 T bi args ats bx = some ⟨c, v, b⟩) (hc : c) : Tells (builtinR T bi args ats bx) v b := by
  unfold builtinT at h
  split at h
  · rename_i x ty
    simp only [builtinR]
    split at h
    · rename_i ti ht
      simp only [ht]
      split at h
      · rename_i n e hk; simp only [hk]; exact ⟨c, h, hc⟩
      · rename_i s hk; simp only [hk]; exact ⟨c, h, hc⟩
      · rename_i e hk
        simp only [hk]
        split at h
        · rename_i c1 es h1
          simp only [Option.some.injEq, R.mk.injEq] at h
          obtain ⟨rfl, rfl, rfl⟩ := h
          have hr := rowsT_rows h1 hc
          simp only [lenR_of hr]
          exact ⟨_, rfl, trivial⟩
        · simp at h
      · simp at h
    · simp at h
  · exact ⟨c, h, hc⟩
  · exact ⟨c, h, hc⟩
  · rename_i s x ty u
    simp only [builtinR]
    split at h
    · rename_i tu hu
      simp only [hu]
      split at h
      · simp at h
      · rename_i hk
        split
        · rename_i k hk'; exact absurd hk' (hk k)
        · exact appendT_R h hc
    · simp at h
  · simp at h

theorem copySrcT_R {size n m : Nat} {y : AV} {c : Prop} {xs : List (List D)} (h : copySrcT t0 size y n bx = some (c, m, xs)) (hc : c) : ∃ c', copySrc size y n bx = some (c', m, xs) ∧ c' := by
  unfold copySrcT at h
  unfold copySrc
  split at h
  · exact ⟨c, h, hc⟩
  · split at h
    · rename_i c1 zs hz
      simp only [Option.some.injEq, Prod.mk.injEq] at h
      obtain ⟨rfl, rfl, rfl⟩ := h
      simp only [rowsXT_R hz hc]
      exact ⟨_, rfl, trivial⟩
    · simp at h

theorem copyT_R {te : TI} {x y : AV} {c : Prop} {v : AV} {b : Option (List Box)} (h : copyT t0 te x y bx = some ⟨c, v, b⟩) (hc : c) : Tells (copyR te x y bx) v b := by
  unfold copyT at h
  unfold copyR
  split at h
  · rename_i bb sz off n c0 ex0 hv
    simp only [hv]
    split at h
    · rename_i s es cy m xs hb hxs
      simp only [hb]
      cases hq : (Nat.beq s sz && Nat.beq sz te.size) with
      | false => simp only [hq, cond_false] at h; simp at h
      | true =>
      simp only [hq, cond_true, Option.some.injEq, R.mk.injEq] at h ⊢
      obtain ⟨rfl, rfl, rfl⟩ := h
      obtain ⟨c2, k1, k2⟩ := copySrcT_R hxs hc.1
      simp only [k1, hq, cond_true]
      exact ⟨_, rfl, k2, hc.2⟩
    · simp at h
  · simp at h

theorem insideT_R {te : TI} {bb sz off n c0 : Nat} {ex : Bool} {y : AV} {c : Prop} {v : AV} {b : Option (List Box)} (h : insideT t0 te bb sz off n c0 ex y bx = some ⟨c, v, b⟩) (hc : c) : Tells (insideR te bb sz off n c0 ex y bx) v b := by
  unfold insideT at h
  unfold insideR
  split at h
  · rename_i s es cy xs hb hxs
    simp only [hb]
    cases hq : (Nat.beq s sz && Nat.beq sz te.size) with
    | false => simp only [hq, cond_false] at h; simp at h
    | true =>
    simp only [hq, cond_true, Option.some.injEq, R.mk.injEq] at h ⊢
    obtain ⟨rfl, rfl, rfl⟩ := h
    simp only [rowsXT_R hxs hc.1, hq, cond_true]
    exact ⟨_, rfl, hc.2⟩
  · simp at h

theorem viewT_R {T : Nat → Option TI} {ev : Operand → AV} {o : Op} {c : Prop} {v : AV} {b : Option (List Box)} (h : viewT t0 T ev o bx = some ⟨c, v, b⟩) (hc : c) : Tells (viewR T ev o bx) v b := by
  unfold viewT at h
  unfold viewR
  split at h
  · exact ⟨c, h, hc⟩
  · exact ⟨c, h, hc⟩
  · rename_i bn args ats
    simp only
    generalize args.toList.map ev = as at h ⊢
    generalize ats.toList = al at h ⊢
    split at h
    · exact ⟨c, h, hc⟩
    · exact ⟨c, h, hc⟩
    · split at h
      · rename_i te hte; simp only [hte]; exact copyT_R h hc
      · simp at h
    · split at h
      · rename_i te hte; simp only [hte]; exact ⟨c, h, hc⟩
      · simp at h
    · split at h
      · rename_i te hte hi
        simp only [hte, hi]
        split at h
        · exact ⟨c, h, hc⟩
        · simp at h
      · rename_i te hte hi
        simp only [hte, hi]
        cases hs : sameBox _ _ with
        | true => simp only [hs, cond_true] at h ⊢; exact insideT_R h hc
        | false =>
          simp only [hs, cond_false] at h ⊢
          split at h
          · rename_i s es c1 v1 bx1 hb hap
            simp only [Option.some.injEq, R.mk.injEq] at h
            obtain ⟨rfl, rfl, rfl⟩ := h
            obtain ⟨c2, k1, k2⟩ := appendT_R hap hc.1
            simp only [hb, k1]
            exact ⟨_, rfl, k2, hc.2⟩
          · simp at h
      · simp at h
    · simp at h
  · simp at h

theorem opT0_R {T : Nat → Option TI} {ev : Operand → AV} {o : Op} {c : Prop} {v : AV} {b : Option (List Box)} (h : opT0 t0 T ev o bx = some ⟨c, v, b⟩) (hc : c) : Tells (opR0 T ev o bx) v b := by
  cases o with
  | load ty a =>
    simp only [opT0, opR0] at h ⊢
    split at h
    · rename_i ti ht; simp only [ht]; exact loadT_R h hc
    · simp at h
  | store ty a x =>
    simp only [opT0, opR0] at h ⊢
    split at h
    · rename_i ti ht; simp only [ht]; exact storeT_R h hc
    · simp at h
  | buildSlice ty n parts => exact buildSliceT_R h hc
  | fieldAddr ty x f =>
    simp only [opT0, opR0] at h ⊢
    split at h
    · rename_i ti ht
      simp only [ht]
      split at h
      · rename_i o ft hf
        simp only [hf]
        split at h
        · rename_i tf htf
          simp only [htf]
          cases hs : Nat.beq tf.size 0 with
          | true => simp [hs] at h
          | false =>
          simp only [hs, cond_false] at h ⊢
          split at h
          · rename_i hx; simp only [hx]; exact ⟨c, h, hc⟩
          · rename_i hx; simp only [hx]; exact ⟨c, h, hc⟩
          · rename_i ds hx
            simp only [hx]
            cases hb : Nat.ble o ds.length with
            | false => simp [hb] at h
            | true =>
            simp only [hb, cond_true, R.pure, Option.some.injEq, R.mk.injEq] at h
            obtain ⟨rfl, rfl, rfl⟩ := h
            exact ⟨_, rfl, Nat.le_of_ble_eq_true hb⟩
          · simp at h
        · simp at h
      · simp at h
    · simp at h
  | binOp op ty x y yt =>
    simp only [opT0, opR0] at h ⊢
    split at h
    · rename_i xs ys h1 h2
      simp only [h1, h2]
      cases op <;> simp only [eqAT_eqA] at h ⊢ <;> first | exact ⟨c, h, hc⟩ | simp at h
    · rename_i p q h1 h2
      simp only [h1, h2]
      exact ⟨c, h, hc⟩
    · rename_i hne hne2
      split
      · rename_i xs ys h1 h2; exact absurd h2 (hne _ _ h1)
      · rename_i p q h1 h2; exact absurd h2 (hne2 _ _ h1)
      · rw [binRT_R] at h
        split at h
        · rename_i c' d hb; simp only [hb]; exact ⟨c, h, hc⟩
        · simp at h
  | unOp op ty x =>
    simp only [opT0, opR0, unRT_R] at h ⊢
    exact ⟨c, h, hc⟩
  | convert s d x => exact convT_R h hc
  | slice ty x lo hi mx =>
    simp only [opT0, opR0] at h ⊢
    split at h
    · rename_i l h' m h1 h2 h3
      simp only [h1, h2, h3]
      exact sliceT_R h hc
    · simp at h
  | call cl =>
    obtain ⟨callee, args, ats⟩ := cl
    cases callee with
    | builtin b => exact builtinT_R h hc
    | _ => simp [opT0] at h
  | makeFunc fn first caps => cases fn <;> first | exact ⟨c, h, hc⟩ | simp [opT0] at h
  | _ => exact ⟨c, h, hc⟩
theorem opT_R {T : Nat → Option TI} {ev : Operand → AV} {o : Op} {c : Prop} {v : AV} {b : Option (List Box)} (h : opT t0 T ev o bx = some ⟨c, v, b⟩) (hc : c) : Tells (opR T ev o bx) v b := by
  unfold opT at h
  unfold opR
  cases hv : isView ev o with
  | true => rw [hv, cond_true] at h; rw [cond_true]; exact viewT_R h hc
  | false => rw [hv, cond_false] at h; rw [cond_false]; exact opT0_R h hc
end
end Dem
