/- JOINED TEXTS: Abs1. -/
import Derived.Orders
import Derived.Laws.Append
import Derived.RowKit3
set_option linter.unusedSimpArgs false
set_option linter.unusedVariables false
/- THE CALCULUS, DEFINITIONS: symbolic values, boxes, and the weakest precondition of the model's code over them. -/
open Go
namespace Dem

/-- Immutable data, cell by cell; a slice is the list of its elements' cells. -/
inductive D where
  | bool (b : Bool)
  | int (k : IntKind) (n : Int)
  | str (s : List UInt8)
  | sl (es : List (List D))
  | fn (f : Nat)
  | mp (ag : Bool) (es : List (List D))

inductive KC where
  | nilptr | nilIface | nilFunc | nilMap

def KC.val : KC → Value
  | .nilptr => .pointer none
  | .nilIface => .nilIface
  | .nilFunc => .nilFunc
  | .nilMap => .map none

/-- What a slot, or a cell of a local variable, is known to hold. -/
inductive AV where
  | any
  | d (x : D)
  | k (c : KC)
  | agg (cs : List AV)
  | tup (vs : List AV)
  | ptr (b off : Nat)
  | rp (b sz i j : Nat)
  | ep (ds : List D)
  | ow (b sz n : Nat)
  | cl (es : List (List D))
  | fn (f : Nat) (caps : List AV)
  | ifc (t : Nat) (v : AV)
  | cond (p : Bool) (v : AV)
  | vw (b sz off n c : Nat) (ex : Bool)
  | mpb (b : Nat)

inductive Box where
  | var (cs : List AV)
  | row (sz : Nat) (es : List (List D))
  | imm (sz : Nat) (es : List (List D))
  | it (s : List UInt8) (pos : Nat)
  | mp (ag : Bool) (es : List (List D))
  | dead
  | unborn

def Box.live : Box → Bool
  | .var _ => true
  | .row _ [] => false
  | .row _ (_ :: _) => true
  | .it _ _ => true
  | .mp _ _ => true
  | _ => false

def Box.born : Box → Bool
  | .unborn => false
  | _ => true

def bornAt (bx : List Box) (i : Nat) : Prop := ∃ b, bx[i]? = some b ∧ b.born = true

structure St where
  sl : List (Nat × AV)
  bx : List Box

inductive Ex where
  | normal
  | exit (id : Nat)
  | ret
  | panic (v : AV)

inductive Res where
  | ret (v : AV)
  | pan (v : AV)

def lok (t : Nat) : List (Nat × AV) → AV
  | [] => .any
  | (u, v) :: r => bif Nat.beq t u then v else lok t r

def put (t : Nat) (v : AV) : List (Nat × AV) → List (Nat × AV)
  | [] => [(t, v)]
  | (u, x) :: r => bif Nat.beq t u then (t, v) :: r else (u, x) :: put t v r

def put1 (dst : Option Nat) (v : AV) (sl : List (Nat × AV)) : List (Nat × AV) :=
  match dst with
  | some t => put t v sl
  | none => sl

def dstOk (n : Nat) (dst : Option Nat) : Bool :=
  match dst with
  | some t => Nat.blt t n
  | none => true

/- types -/
inductive Kd where
  | int (k : IntKind)
  | bool
  | str
  | slice (e : Nat)
  | array (n e : Nat)
  | struct (offs : List (Nat × Nat))
  | map (k e : Nat)
  | other

def Kd.isAgg : Kd → Bool
  | .array _ _ => true
  | .struct _ => true
  | _ => false

structure TI where
  size : Nat
  bytes : Nat
  kd : Kd
  zero : AV
  eq : Bool

def absV : Value → AV
  | .bool b => .d (.bool b)
  | .int k n => .d (.int k n)
  | .string s => .d (.str s.data.toList)
  | .slice none 0 0 => .cl []
  | .pointer none => .k .nilptr
  | .nilIface => .k .nilIface
  | .nilFunc => .k .nilFunc
  | .map none => .k .nilMap
  | _ => .any

def absZ : Value → AV
  | .agg cs => .agg (cs.toList.map absV)
  | v => absV v

def kdOf : TypeDesc → Kd
  | .int k => .int k
  | .bool => .bool
  | .string => .str
  | .slice e => .slice e
  | .array n e => .array n e
  | .struct fs => .struct (fs.toList.map fun f => (f.offset, f.type))
  | .map k e => .map k e
  | _ => .other

def eqFit (P : Program) (t : Nat) : TypeDesc → Bool
  | .struct fs => !P.stoodInHeld t && fs.toList.all fun f => f.name != "_"
  | _ => true

def tiOf (P : Program) (t : Nat) : Option TI :=
  match P.info? t, P.underlying t with
  | some i, some d => some { size := i.size, bytes := i.bytes, kd := kdOf d, zero := match i.zero with | some z => absZ z | none => .any, eq := eqFit P t d }
  | _, _ => none

/- values -/
def AV.strip : AV → AV
  | .cond _ v => v
  | v => v

def AV.ok : AV → Prop
  | .cond p _ => p = true
  | _ => True

/-- one cell -/
def AV.sc : AV → Bool
  | .d _ | .k _ | .ptr _ _ | .rp _ _ _ _ | .ep _ | .ow _ _ _ | .cl _ | .fn _ _ | .ifc _ _ | .mpb _ => true
  | _ => false

def allSc : List AV → Bool
  | [] => true
  | x :: xs => bif x.sc then allSc xs else false

/-- the cells of a value, as it is stored -/
def AV.cells? : AV → Option (List AV)
  | .agg cs => bif allSc cs then some cs else none
  | .any | .tup _ | .cond _ _ | .vw _ _ _ _ _ _ => none
  | v => some [v]

def opd (G : Nat → Option (List D)) (sl : List (Nat × AV)) : Operand → AV
  | .tmp t => lok t sl
  | .const v => absV v
  | .global g => match G g with
    | some ds => .ep ds
    | none => .any
  | .func f => .fn f []

/-- data of one cell -/
def AV.toD (bx : List Box) : AV → Option D
  | .d x => some x
  | .cl es => some (.sl es)
  | .fn f [] => some (.fn f)
  | .ow b sz n => match n, bx[b]? with
    | _, some (.row s es) => bif Nat.beq s sz && Nat.beq n es.length then some (.sl es) else none
    | _, some (.imm s es) => bif Nat.beq s sz && Nat.beq n es.length then some (.sl es) else none
    | _, _ => none
  | _ => none

def AV.sealB (bx : List Box) : AV → List Box
  | .ow b _ _ => match bx[b]? with
    | some (.row s es) => bx.set b (.imm s es)
    | _ => bx
  | .vw b _ _ _ _ _ => match bx[b]? with
    | some (.row s es) => bx.set b (.imm s es)
    | _ => bx
  | _ => bx

def toDs (bx : List Box) : List AV → Option (List D)
  | [] => some []
  | x :: xs => match x.toD bx, toDs bx xs with
    | some y, some ys => some (y :: ys)
    | _, _ => none

def seals (bx : List Box) : List AV → List Box
  | [] => bx
  | x :: xs => seals (x.sealB bx) xs

/-- rows of a value that is a slice: what it reads as -/
def AV.rows (bx : List Box) : AV → Option (List (List D))
  | .d (.sl es) => some es
  | .cl es => some es
  | .ow b sz n => match bx[b]? with
    | some (.row s es) => bif Nat.beq s sz && Nat.beq n es.length then some es else none
    | some (.imm s es) => bif Nat.beq s sz && Nat.beq n es.length then some es else none
    | _ => none
  | .vw b sz off n _ _ => match bx[b]? with
    | some (.row s es) => bif Nat.beq s sz && Nat.ble (off + n) es.length then some ((es.drop off).take n) else none
    | some (.imm s es) => bif Nat.beq s sz && Nat.ble (off + n) es.length then some ((es.drop off).take n) else none
    | _ => none
  | _ => none

def ownless : List AV → Bool
  | [] => true
  | .ow _ _ _ :: _ => false
  | .vw _ _ _ _ _ _ :: _ => false
  | _ :: r => ownless r

def splice : List AV → Nat → List AV → List AV
  | cs, _, [] => cs
  | [], _, _ :: _ => []
  | _ :: cs, 0, v :: vs => v :: splice cs 0 vs
  | c :: cs, n + 1, v :: vs => c :: splice cs n (v :: vs)

def spliceD : List D → Nat → List D → List D
  | cs, _, [] => cs
  | [], _, _ :: _ => []
  | _ :: cs, 0, v :: vs => v :: spliceD cs 0 vs
  | c :: cs, n + 1, v :: vs => c :: spliceD cs n (v :: vs)

/-- a condition, a value, the boxes if they have turned -/
structure R where
  c : Prop
  v : AV
  bx : Option (List Box)

def orBx (bx : List Box) : Option (List Box) → List Box
  | some b => b
  | none => bx

def R.pure (v : AV) : Option R := some ⟨True, v, none⟩
def R.when (c : Prop) (v : AV) : Option R := some ⟨c, v, none⟩

def splitA (agg : Bool) (size : Nat) (cs : List AV) : Option AV :=
  bif agg then (bif Nat.ble size cs.length then some (.agg (cs.take size)) else none) else cs.head?

def loadR (ti : TI) (a : AV) (bx : List Box) : Option R :=
  match a with
  | .ptr b off => match bx[b]? with
    | some (.var cs) => match splitA ti.kd.isAgg ti.size (cs.drop off) with
      | some v => R.pure v
      | none => none
    | _ => none
  | .ep ds => match splitA ti.kd.isAgg ti.size (ds.map .d) with
    | some v => R.pure v
    | none => none
  | .rp b sz i j => match bx[b]? with
    | some (.row s es) => match splitA ti.kd.isAgg ti.size (((es.getD i []).drop j).map .d) with
      | some v => some ⟨s = sz ∧ i < es.length, v, none⟩
      | none => none
    | some (.imm s es) => match splitA ti.kd.isAgg ti.size (((es.getD i []).drop j).map .d) with
      | some v => some ⟨s = sz ∧ i < es.length, v, none⟩
      | none => none
    | _ => none
  | _ => none

def storeR (ti : TI) (a v : AV) (bx : List Box) : Option R :=
  match v.cells? with
  | none => none
  | some vs => bif Nat.beq vs.length ti.size then
      match a with
      | .ptr b off => match bx[b]? with
        | some (.var cs) => bif Nat.ble (off + vs.length) cs.length then some ⟨True, .any, some (bx.set b (.var (splice cs off vs)))⟩ else none
        | _ => none
      | .rp b sz i j => match toDs bx vs with
        | some ds => match (seals bx vs)[b]? with
          | some (.row s es) => some ⟨s = sz ∧ i < es.length ∧ j + ds.length ≤ (es.getD i []).length, .any,
              some ((seals bx vs).set b (.row s (es.set i (spliceD (es.getD i []) j ds))))⟩
          | _ => none
        | none => none
      | _ => none
    else none

def offOf : Kd → Nat → Option (Nat × Nat)
  | .struct fs, i => fs[i]?
  | _, _ => none

def binI (op : BinOp) (k : IntKind) (x y : Int) : Option (Prop × D) :=
  match op with
  | .add => some (True, .int k (k.wrap (x + y)))
  | .sub => some (True, .int k (k.wrap (x - y)))
  | .mul => some (True, .int k (k.wrap (x * y)))
  | .quo => some (y ≠ 0, .int k (k.wrap (x.tdiv y)))
  | .rem => some (y ≠ 0, .int k (x.tmod y))
  | .and => some (True, .int k (k.wrap (BitVec.ofInt k.bits x &&& BitVec.ofInt k.bits y).toNat))
  | .or => some (True, .int k (k.wrap (BitVec.ofInt k.bits x ||| BitVec.ofInt k.bits y).toNat))
  | .xor => some (True, .int k (k.wrap (BitVec.ofInt k.bits x ^^^ BitVec.ofInt k.bits y).toNat))
  | .andNot => some (True, .int k (k.wrap (BitVec.ofInt k.bits x &&& ~~~(BitVec.ofInt k.bits y)).toNat))
  | .eql => some (True, .bool (decide (x = y)))
  | .neq => some (True, .bool (!decide (x = y)))
  | .lss => some (True, .bool (decide (x < y)))
  | .leq => some (True, .bool (decide (x ≤ y)))
  | .gtr => some (True, .bool (decide (y < x)))
  | .geq => some (True, .bool (decide (y ≤ x)))
  | _ => none

def binS (op : BinOp) (x y : List UInt8) : Option (Prop × D) :=
  match op with
  | .add => some (x.length + y.length ≤ 9223372036854775807, .str (x ++ y))
  | .eql => some (True, .bool (decide (x = y)))
  | .neq => some (True, .bool (!decide (x = y)))
  | .lss => some (True, .bool (Op.bytesLess x y))
  | .leq => some (True, .bool (Op.bytesLess x y || decide (x = y)))
  | .gtr => some (True, .bool (!(Op.bytesLess x y || decide (x = y))))
  | .geq => some (True, .bool (!Op.bytesLess x y))
  | _ => none

def binR (op : BinOp) (x y : AV) : Option (Prop × D) :=
  match op, x, y with
  | .shl, .d (.int k x), .d (.int _ y) => some (0 ≤ y, .int k (k.wrap (x * 2 ^ (min y.toNat k.bits))))
  | .shr, .d (.int k x), .d (.int _ y) => some (0 ≤ y, .int k (x.fdiv (2 ^ (min y.toNat k.bits))))
  | op, .d (.int k x), .d (.int k' y) => bif k == k' then binI op k x y else none
  | op, .d (.str x), .d (.str y) => binS op x y
  | _, _, _ => none

/-- two values of a type held against each other, part by part -/
def eqA (T : Nat → Option TI) : Nat → Nat → AV → AV → Option Bool
  | 0, _, _, _ => none
  | n + 1, t, x, y => match T t with
    | none => none
    | some ti => match ti.kd, x, y with
      | .int _, .d (.int j a), .d (.int k b) => bif j == k then some (decide (a = b)) else none
      | .bool, .d (.bool a), .d (.bool b) => some (a == b)
      | .str, .d (.str a), .d (.str b) => some (decide (a = b))
      | .array len e, .agg xs, .agg ys => match T e with
        | some te => bif Nat.beq len 0 then none else (List.range len).foldr (fun i acc => match splitA te.kd.isAgg te.size (xs.drop (i * te.size)), splitA te.kd.isAgg te.size (ys.drop (i * te.size)) with
          | some a, some b => match eqA T n e a b, acc with
            | some p, some q => some (p && q)
            | _, _ => none
          | _, _ => none) (some true)
        | none => none
      | .struct fs, .agg xs, .agg ys => bif ti.eq then fs.foldr (fun f acc => match T f.2 with
          | some tf => match splitA tf.kd.isAgg tf.size (xs.drop f.1), splitA tf.kd.isAgg tf.size (ys.drop f.1) with
            | some a, some b => match eqA T n f.2 a b, acc with
              | some p, some q => some (p && q)
              | _, _ => none
            | _, _ => none
          | none => none) (some true) else none
      | _, _, _ => none

def pickV (p : Bool) : AV → AV → AV
  | .d (.bool x), .d (.bool y) => .d (.bool (bif p then x else y))
  | _, _ => .any

def unR (op : UnOp) (x : AV) : Option D :=
  match op, x with
  | .not, .d (.bool b) => some (.bool (!b))
  | .neg, .d (.int k n) => some (.int k (k.wrap (0 - n)))
  | .xor, .d (.int k n) => some (.int k (k.wrap (BitVec.ofInt k.bits (if k.signed then -1 else k.max) ^^^ BitVec.ofInt k.bits n).toNat))
  | _, _ => none

def byteRow (b : UInt8) : List D := [.int .u8 b.toNat]
def rowByte : List D → UInt8
  | [.int _ n] => UInt8.ofNat n.toNat
  | _ => 0
def isByteRow (r : List D) : Prop := ∃ n : Int, r = [.int .u8 n]

def chunk (sz : Nat) : Nat → List D → List (List D)
  | 0, _ => []
  | n + 1, ds => ds.take sz :: chunk sz n (ds.drop sz)

/-- an optional bound of a slice expression -/
def bnd (ev : Operand → AV) : Option Operand → Option (Option Int)
  | none => some none
  | some x => match ev x with
    | .d (.int _ n) => some (some n)
    | _ => none

def cutL {α : Type} (l : List α) : Option Int → Option Int → List α
  | none, none => l
  | some a, none => l.drop a.toNat
  | none, some b => l.take b.toNat
  | some a, some b => (l.drop a.toNat).take (b.toNat - a.toNat)

def cutC (n : Nat) : Option Int → Option Int → Prop
  | none, none => True
  | some a, none => 0 ≤ a ∧ a ≤ n
  | none, some b => 0 ≤ b ∧ b ≤ n
  | some a, some b => 0 ≤ a ∧ a ≤ b ∧ b ≤ n

def sliceR (T : Nat → Option TI) (t : Nat) (x : AV) (lo hi mx : Option Int) (bx : List Box) : Option R :=
  match T t with
  | some ti => match ti.kd, x, mx with
    | .str, .d (.str s), none => R.when (cutC s.length lo hi) (.d (.str (cutL s lo hi)))
    | .slice e, x, none => match x.rows bx, T e with
      | some es, some te => some ⟨cutC es.length lo hi ∧ ∀ r ∈ es, r.length = te.size, .d (.sl (cutL es lo hi)), bif ownless [x] then none else some (x.sealB bx)⟩
      | _, _ => none
    | .slice e, x, some m => match x.rows bx, hi, T e with
      | some es, some h, some te => some ⟨(cutC es.length lo (some h) ∧ m = h) ∧ ∀ r ∈ es, r.length = te.size, .cl (cutL es lo (some h)), bif ownless [x] then none else some (x.sealB bx)⟩
      | _, _, _ => none
    | .array n e, .ep ds, none => match lo, hi, T e with
      | none, none, some te => R.when (n * te.size ≤ ds.length) (.d (.sl (chunk te.size n ds)))
      | _, _, _ => none
    | _, _, _ => none
  | none => none

def fillR (sizes : Nat → Option (Nat × Nat)) : List AV → List (Nat × AV) → Option (List AV)
  | cells, [] => some cells
  | cells, (i, v) :: rest => match sizes i, v.cells? with
    | some (off, size), some vs => bif Nat.beq vs.length size && Nat.ble (off + vs.length) cells.length then
        fillR sizes (splice cells off vs) rest else none
    | _, _ => none

def buildR (T : Nat → Option TI) (t : Nat) (parts : List (Nat × AV)) : Option R :=
  match T t with
  | some ti => match ti.zero.cells? with
    | some z => match ti.kd with
      | .struct fs => match fillR (fun i => match fs[i]? with | some (o, ft) => (T ft).map fun x => (o, x.size) | none => none) z parts with
        | some cs => R.pure (.agg cs)
        | none => none
      | .array _ e => match T e with
        | some te => match fillR (fun i => some (i * te.size, te.size)) z parts with
          | some cs => R.pure (.agg cs)
          | none => none
        | none => none
      | _ => none
    | none => none
  | none => none

def sealParts (bx : List Box) : List (Nat × AV) → List Box
  | [] => bx
  | (_, v) :: rest => match v.cells? with
    | some vs => sealParts (seals bx vs) rest
    | none => bx

/-- are the parts of a slice literal given in order, each one? -/
def inOrder : Nat → List (Nat × AV) → Bool
  | _, [] => true
  | i, (j, _) :: r => Nat.beq i j && inOrder (i + 1) r

def rowsOf (bx : List Box) (size : Nat) : List (Nat × AV) → Option (List (List D))
  | [] => some []
  | (_, v) :: r => match v.cells? with
    | some vs => match toDs bx vs, rowsOf bx size r with
      | some ds, some rs => bif Nat.beq ds.length size then some (ds :: rs) else none
      | _, _ => none
    | none => none

def noOw : List (Nat × AV) → Bool
  | [] => true
  | (_, v) :: r => match v.cells? with
    | some vs => ownless vs && noOw r
    | none => false

def buildSliceR (T : Nat → Option TI) (t n : Nat) (parts : List (Nat × AV)) (bx : List Box) : Option R :=
  match T t with
  | some ti => match ti.kd with
    | .slice e => match T e with
      | some te => bif Nat.beq parts.length n && inOrder 0 parts && Nat.ble (n * te.size) 16777216 && te.zero.cells?.isSome then
          match rowsOf bx te.size parts with
          | some rs => some ⟨True, .cl rs, bif noOw parts then none else some (sealParts bx parts)⟩
          | none => none
        else none
      | none => none
    | _ => none
  | none => none

def rowsX (size : Nat) (x : AV) (bx : List Box) : Option (List (List D)) :=
  match x with
  | .d (.str b) => bif Nat.beq size 1 then some (b.map byteRow) else none
  | x => x.rows bx

def sameBox (b : Nat) : AV → Bool
  | .ow b2 _ _ => Nat.beq b b2
  | .vw b2 _ _ _ _ _ => Nat.beq b b2
  | _ => false

def zeroOk (te : TI) : Bool :=
  match te.zero.cells? with
  | some z => Nat.beq z.length te.size && Nat.blt 0 te.bytes && Nat.blt 0 te.size
  | none => false

def appendR (T : Nat → Option TI) (t : Nat) (s x : AV) (bx : List Box) : Option R :=
  match T t with
  | some ti => match ti.kd with
    | .slice e => match T e with
      | some te => bif zeroOk te then
        match rowsX te.size x bx with
        | some xs => match s with
          | .cl [] => some ⟨xs.length * te.bytes ≤ 140737488355328 ∧ (∀ r ∈ xs, r.length = te.size), .ow bx.length te.size xs.length, some (bx ++ [.row te.size xs])⟩
          | .cl (e0 :: er) => match xs with
            | [] => none
            | x0 :: xr => some ⟨((e0 :: er).length + (x0 :: xr).length) * te.bytes ≤ 140737488355328 ∧ (∀ r ∈ (e0 :: er) ++ (x0 :: xr), r.length = te.size),
                .ow bx.length te.size ((e0 :: er).length + (x0 :: xr).length), some (bx ++ [.row te.size ((e0 :: er) ++ (x0 :: xr))])⟩
          | .ow b sz n => match bx[b]? with
            | some (.row s2 es) => bif sameBox b x then none else
                some ⟨s2 = sz ∧ sz = te.size ∧ n = es.length ∧ (es.length + xs.length) * te.bytes ≤ 140737488355328 ∧ (∀ r ∈ es ++ xs, r.length = te.size),
                .ow bx.length te.size (es.length + xs.length), some ((bx.set b .dead) ++ [.row te.size (es ++ xs)])⟩
            | _ => none
          | _ => none
        | none => none
        else none
      | none => none
    | _ => none
  | none => none

def convR (T : Nat → Option TI) (src dst : Nat) (x : AV) (bx : List Box) : Option R :=
  match T src, T dst with
  | some ts, some td => match ts.kd, td.kd, x with
    | _, .int k, .d (.int _ n) => R.pure (.d (.int k (k.wrap n)))
    | .slice e, .str, x => match T e, x.rows bx with
      | some te, some es => match te.kd with
        | .int .u8 => R.when (∀ r ∈ es, isByteRow r) (.d (.str (es.map rowByte)))
        | _ => none
      | _, _ => none
    | .str, .str, .d (.str s) => R.pure (.d (.str s))
    | _, _, _ => none
  | _, _ => none

def lenR (x : AV) (bx : List Box) : Option AV :=
  match x with
  | .d (.sl es) => some (.d (.int .i64 es.length))
  | .cl es => some (.d (.int .i64 es.length))
  | .ow b sz n => match (AV.ow b sz n).rows bx with
    | some es => some (.d (.int .i64 es.length))
    | none => none
  | .vw b sz off n c ex => match (AV.vw b sz off n c ex).rows bx with
    | some es => some (.d (.int .i64 es.length))
    | none => none
  | _ => none

def builtinR (T : Nat → Option TI) (b : Builtin) (args : List AV) (ats : List Nat) (bx : List Box) : Option R :=
  match b, args, ats with
  | .len, [x], [t] => match T t with
    | some ti => match ti.kd, x with
      | .array n _, _ => R.pure (.d (.int .i64 n))
      | .str, .d (.str s) => R.pure (.d (.int .i64 s.length))
      | .slice _, x => match lenR x bx with
        | some v => R.pure v
        | none => none
      | _, _ => none
    | none => none
  | .min, [.d (.int k x), .d (.int _ y)], _ => R.pure (.d (.int k (min x y)))
  | .max, [.d (.int k x), .d (.int _ y)], _ => R.pure (.d (.int k (max x y)))
  | .append, [s, x], [t, u] => match T u with
    | some tu => match tu.kd with
      | .int _ => none
      | _ => appendR T t s x bx
    | none => none
  | _, _, _ => none

/- views of own rows -/
def lowOf (lo : Option Int) : Nat := (lo.getD 0).toNat
def highOf (len : Nat) : Option Int → Nat
  | none => len
  | some h => h.toNat

def AV.isVw : AV → Bool
  | .vw _ _ _ _ _ _ => true
  | _ => false

/-- does an operation go through a view? -/
def isView (ev : Operand → AV) : Op → Bool
  | .slice _ x _ _ _ => (ev x).isVw
  | .indexAddr _ x _ => (ev x).isVw
  | .call { callee := .builtin b, args, .. } => match b, args.toList with
    | .copy, _ => true
    | .clear, _ => true
    | .cap, _ => true
    | .len, [x] => (ev x).isVw
    | .append, [x, _] => (ev x).isVw
    | _, _ => false
  | _ => false

/-- the bounds of a view's part: of so many, up to so much -/
def cutV (n c : Nat) (lo hi : Option Int) : Prop :=
  match hi with
  | none => cutC n lo none
  | some h => cutC c lo (some h)

/-- where a view looks -/
def viewAt : AV → Option (Nat × Nat × Nat × Nat × Nat × Bool)
  | .vw b sz off n c ex => some (b, sz, off, n, c, ex)
  | .ow b sz n => some (b, sz, 0, n, n, false)
  | _ => none

def zeroRow (te : TI) : Option (List D) :=
  match te.zero.cells? with
  | some z => toDs [] z
  | none => none

def elemOf (T : Nat → Option TI) (t : Nat) : Option TI :=
  match T t with
  | some ti => match ti.kd with
    | .slice e => T e
    | _ => none
  | none => none

def isIntT (T : Nat → Option TI) (t : Nat) : Option Bool :=
  match T t with
  | some ti => match ti.kd with
    | .int _ => some true
    | _ => some false
  | none => none

def wrote (es : List (List D)) (off : Nat) (xs : List (List D)) : List (List D) := es.take off ++ xs ++ es.drop (off + xs.length)

def fitsW (es : List (List D)) (off k : Nat) : Prop := off ≤ es.length ∧ (es = [] → k = 0)

/-- what is copied where there is room for so many: its condition, how many, the rows -/
def copySrc (size : Nat) (y : AV) (n : Nat) (bx : List Box) : Option (Prop × Nat × List (List D)) :=
  match y with
  | .vw b sz off n2 _ _ => match bx[b]? with
    | some (.row s es) => bif Nat.beq s sz then some (off + min n2 n ≤ es.length, min n2 n, (es.drop off).take (min n2 n)) else none
    | some (.imm s es) => bif Nat.beq s sz then some (off + min n2 n ≤ es.length, min n2 n, (es.drop off).take (min n2 n)) else none
    | _ => none
  | y => match rowsX size y bx with
    | some xs => some (True, min xs.length n, xs.take (min xs.length n))
    | none => none

def copyR (te : TI) (x y : AV) (bx : List Box) : Option R :=
  match viewAt x with
  | some (b, sz, off, n, _, _) => match bx[b]?, copySrc te.size y n bx with
    | some (.row s es), some (cy, m, xs) => bif Nat.beq s sz && Nat.beq sz te.size then
        some ⟨cy ∧ fitsW es off m ∧ ∀ r ∈ xs, r.length = te.size, .d (.int .i64 m),
          some (bx.set b (.row sz (wrote es off xs)))⟩ else none
    | _, _ => none
  | none => none

def clearR (te : TI) (x : AV) (bx : List Box) : Option R :=
  match viewAt x with
  | some (b, sz, off, n, _, _) => match bx[b]?, zeroRow te with
    | some (.row s es), some z => bif Nat.beq s sz && Nat.beq sz te.size && zeroOk te then
        some ⟨fitsW es off n, .tup [], some (bx.set b (.row sz (wrote es off (List.replicate n z))))⟩ else none
    | _, _ => none
  | none => none

/-- so many zeros behind all that a view has room for -/
def growR (te : TI) (b sz off n c : Nat) (ex : Bool) (m : Int) (bx : List Box) : Option R :=
  match bx[b]?, zeroRow te with
  | some (.row s es), some z => bif Nat.beq s sz && Nat.beq sz te.size && zeroOk te && ex then
      some ⟨0 ≤ m ∧ c < n + m.toNat ∧ off + n ≤ es.length ∧ (n + m.toNat) * te.bytes ≤ 140737488355328,
        .vw bx.length sz 0 (n + m.toNat) (n + m.toNat) false, some (bx ++ [.row sz ((es.drop off).take n ++ List.replicate m.toNat z)])⟩ else none
  | _, _ => none

/-- within what a view has room for -/
def insideR (te : TI) (b sz off n c : Nat) (ex : Bool) (y : AV) (bx : List Box) : Option R :=
  match bx[b]?, rowsX te.size y bx with
  | some (.row s es), some xs => bif Nat.beq s sz && Nat.beq sz te.size then
      some ⟨fitsW es (off + n) xs.length ∧ n + xs.length ≤ c ∧ ∀ r ∈ xs, r.length = te.size, .vw b sz off (n + xs.length) c ex,
        some (bx.set b (.row sz (wrote es (off + n) xs)))⟩ else none
  | _, _ => none

def whole (es : List (List D)) (off n c : Nat) (ex : Bool) : Prop := off = 0 ∧ n = es.length ∧ (es = [] → c = 0 ∧ ex = true)

def viewR (T : Nat → Option TI) (ev : Operand → AV) (o : Op) (bx : List Box) : Option R :=
  match o with
  | .slice ty x lo hi mx => match ev x, elemOf T ty, bnd ev lo, bnd ev hi, bnd ev mx with
    | .vw b sz off n c ex, some te, some l, some h, some none => bif Nat.beq te.size sz then
        some ⟨cutV n c l h, .vw b sz (off + lowOf l) (highOf n h - lowOf l) (c - lowOf l) ex, none⟩ else none
    | .vw b sz off n c ex, some te, some l, some (some h), some (some m) => bif Nat.beq te.size sz then
        some ⟨cutC c l (some h) ∧ h ≤ m ∧ m ≤ c, .vw b sz (off + lowOf l) (h.toNat - lowOf l) (m.toNat - lowOf l) true, none⟩ else none
    | _, _, _, _, _ => none
  | .indexAddr ty x i => match ev x, elemOf T ty, ev i with
    | .vw b sz off n _ _, some te, .d (.int _ z) => bif Nat.beq te.size sz then some ⟨0 ≤ z ∧ z < n, .rp b sz (off + z.toNat) 0, none⟩ else none
    | _, _, _ => none
  | .call { callee := .builtin b, args, argTypes } => match b, args.toList.map ev, argTypes.toList with
    | .len, [.vw _ _ _ n _ _], [ty] => match elemOf T ty with
      | some _ => R.pure (.d (.int .i64 n))
      | none => none
    | .cap, [.vw _ _ _ _ c true], [ty] => match elemOf T ty with
      | some _ => R.pure (.d (.int .i64 c))
      | none => none
    | .copy, [x, y], ty :: _ => match elemOf T ty with
      | some te => copyR te x y bx
      | none => none
    | .clear, [x], ty :: _ => match elemOf T ty with
      | some te => clearR te x bx
      | none => none
    | .append, [.vw b sz off n c ex, y], [ty, u] => match elemOf T ty, isIntT T u with
      | some te, some true => match y with
        | .d (.int .i64 m) => growR te b sz off n c ex m bx
        | _ => none
      | some te, some false => bif sameBox b y then insideR te b sz off n c ex y bx else
          match bx[b]?, appendR T ty (.ow b sz n) y bx with
          | some (.row _ es), some ⟨c1, v, bx'⟩ => some ⟨c1 ∧ whole es off n c ex, v, bx'⟩
          | _, _ => none
      | _, _ => none
    | _, _, _ => none
  | _ => none

def opR0 (T : Nat → Option TI) (ev : Operand → AV) (o : Op) (bx : List Box) : Option R :=
  match o with
  | .move x => R.pure (ev x)
  | .assign x => R.pure (ev x)
  | .alloc t => match T t with
    | some ti => match ti.zero.cells? with
      | some cs => some ⟨True, .ptr bx.length 0, some (bx ++ [.var cs])⟩
      | none => none
    | none => none
  | .box _ x => match (ev x).cells? with
    | some cs => some ⟨True, .ptr bx.length 0, some (bx ++ [.var cs])⟩
    | none => none
  | .load t a => match T t with
    | some ti => loadR ti (ev a) bx
    | none => none
  | .store t a x => match T t with
    | some ti => storeR ti (ev a) (ev x) bx
    | none => none
  | .build t parts => buildR T t (parts.toList.map fun p => (p.1, ev p.2))
  | .buildSlice t n parts => buildSliceR T t n (parts.toList.map fun p => (p.1, ev p.2)) bx
  | .fieldAddr t x f => match T t with
    | some ti => match offOf ti.kd f with
      | some (o, ft) => match T ft with
        | some tf => bif Nat.beq tf.size 0 then none else
          match ev x with
          | .ptr b off => R.pure (.ptr b (off + o))
          | .rp b sz i j => R.pure (.rp b sz i (j + o))
          | .ep ds => R.when (o ≤ ds.length) (.ep (ds.drop o))
          | _ => none
        | none => none
      | none => none
    | none => none
  | .indexAddr t x i => match T t with
    | some ti => match ti.kd, ev i with
      | .array n e, .d (.int _ z) => match T e with
        | some te => match ev x with
          | .ptr b off => R.when (0 ≤ z ∧ z < n) (.ptr b (off + z.toNat * te.size))
          | .rp b sz a j => R.when (0 ≤ z ∧ z < n) (.rp b sz a (j + z.toNat * te.size))
          | .ep ds => R.when (0 ≤ z ∧ z < n ∧ z.toNat * te.size ≤ ds.length) (.ep (ds.drop (z.toNat * te.size)))
          | _ => none
        | none => none
      | .slice e, .d (.int _ z) => match T e, ev x with
        | some te, .ow b sz n => bif Nat.beq te.size sz then R.when (0 ≤ z ∧ z < n) (.rp b sz z.toNat 0) else none
        | _, _ => none
      | _, _ => none
    | none => none
  | .field t x f => match T t with
    | some ti => match offOf ti.kd f with
      | some (o, ft) => match T ft, ev x with
        | some tf, .agg cs => match splitA tf.kd.isAgg tf.size (cs.drop o) with
          | some v => R.pure v
          | none => none
        | _, _ => none
      | none => none
    | none => none
  | .index t x i => match T t with
    | some ti => match ti.kd, ev x, ev i with
      | .str, .d (.str s), .d (.int _ z) => R.when (0 ≤ z ∧ z < s.length) (.d (.int .u8 (s.getD z.toNat 0).toNat))
      | .array n e, .agg cs, .d (.int _ z) => match T e with
        | some te => match splitA te.kd.isAgg te.size (cs.drop (z.toNat * te.size)) with
          | some v => R.when (0 ≤ z ∧ z < n) v
          | none => none
        | none => none
      | _, _, _ => none
    | none => none
  | .extract x i => match ev x with
    | .tup vs => match vs[i]? with
      | some v => R.pure v
      | none => none
    | _ => none
  | .binOp op t x y _ => match ev x, ev y with
    | .agg xs, .agg ys => match op with
        | .eql => (eqA T 8 t (.agg xs) (.agg ys)).bind fun d => R.pure (.d (.bool d))
        | .neq => (eqA T 8 t (.agg xs) (.agg ys)).bind fun d => R.pure (.d (.bool (!d)))
        | _ => none
    | .d (.bool p), .d (.bool q) => match T t, op with
        | some ti, .eql => match ti.kd with
          | .bool => R.pure (.d (.bool (p == q)))
          | _ => none
        | some ti, .neq => match ti.kd with
          | .bool => R.pure (.d (.bool (!(p == q))))
          | _ => none
        | _, _ => none
    | x, y => match binR op x y with
      | some (c, d) => R.when c (.d d)
      | none => none
  | .unOp op _ x => (unR op (ev x)).bind fun d => R.pure (.d d)
  | .convert s d x => convR T s d (ev x) bx
  | .slice t x lo hi mx => match bnd ev lo, bnd ev hi, bnd ev mx with
    | some l, some h, some m => sliceR T t (ev x) l h m bx
    | _, _, _ => none
  | .makeFunc (.func f) first caps => bif first.toList.isEmpty then R.pure (.fn f (caps.toList.map ev)) else none
  | .nilCheck x => match ev x with
    | .ptr b o => R.pure (.ptr b o)
    | .rp b s i j => R.pure (.rp b s i j)
    | .ep ds => R.pure (.ep ds)
    | .fn f cs => R.pure (.fn f cs)
    | _ => none
  | .call { callee := .builtin b, args, argTypes } => builtinR T b (args.toList.map ev) argTypes.toList bx
  | _ => none

def opR (T : Nat → Option TI) (ev : Operand → AV) (o : Op) (bx : List Box) : Option R :=
  bif isView ev o then viewR T ev o bx else opR0 T ev o bx


/- calls -/
/-- arguments as a callee gets them: own rows are lent as data -/
def fz (bx : List Box) : AV → Option AV
  | .cl es => some (.d (.sl es))
  | .ow b sz n => (AV.toD bx (.ow b sz n)).map AV.d
  | .vw b sz off n c ex => ((AV.vw b sz off n c ex).rows bx).map fun es => .d (.sl es)
  | v => some v

def fzs (bx : List Box) : List AV → Option (List AV)
  | [] => some []
  | x :: xs => match fz bx x, fzs bx xs with
    | some y, some ys => some (y :: ys)
    | _, _ => none

def frz1 (bx : List Box) : AV → Option AV
  | .agg cs => (fzs bx cs).map .agg
  | v => fz bx v

def seal1 (bx : List Box) : AV → List Box
  | .agg cs => seals bx cs
  | v => v.sealB bx

def frzs (bx : List Box) : List AV → Option (List AV)
  | [] => some []
  | x :: xs => match frz1 bx x, frzs bx xs with
    | some y, some ys => some (y :: ys)
    | _, _ => none

def seals1 (bx : List Box) : List AV → List Box
  | [] => bx
  | x :: xs => seals1 (seal1 bx x) xs

/-- a value in which no memory lies -/
def AV.flat : AV → Bool
  | .d (.bool _) | .d (.int _ _) | .d (.str _) | .k _ => true
  | .agg cs => flats cs
  | .tup cs => flatss cs
  | _ => false
where
  flats : List AV → Bool
    | [] => true
    | .d (.bool _) :: r | .d (.int _ _) :: r | .d (.str _) :: r | .k _ :: r => flats r
    | _ => false
  flatss : List AV → Bool
    | [] => true
    | .d (.bool _) :: r | .d (.int _ _) :: r | .d (.str _) :: r | .k _ :: r => flatss r
    | .agg cs :: r => flats cs && flatss r
    | _ => false

def Res.flat : Res → Bool
  | .ret v => v.flat
  | .pan v => v.flat

def AV.isAgg : AV → Bool
  | .agg _ => true
  | _ => false

def okAll : List AV → Prop
  | [] => True
  | x :: xs => x.ok ∧ okAll xs

def opds (G : Nat → Option (List D)) (sl : List (Nat × AV)) (xs : List Operand) : List AV := xs.map (opd G sl)

def fnArgs : AV → List AV → Option (Nat × List AV)
  | .fn f caps, args => some (f, args ++ caps)
  | .d (.fn f), args => some (f, args)
  | _, _ => none

/-- a value in which no box is named -/
def AV.shut : AV → Bool
  | .any | .d _ | .k _ | .ep _ | .cl _ => true
  | .agg cs | .tup cs | .fn _ cs => shuts cs
  | .ifc _ x | .cond _ x => x.shut
  | .ptr _ _ | .rp _ _ _ _ | .ow _ _ _ | .vw _ _ _ _ _ _ | .mpb _ => false
where
  shuts : List AV → Bool
    | [] => true
    | x :: xs => x.shut && shuts xs

def D.flat : D → Bool
  | .sl _ => false
  | .mp _ _ => false
  | _ => true

/-- A call: upon the boxes as they stand, or with the own rows among its arguments told as data from now on -/
structure CallGen (FC : Nat → List AV → List Box → Res → List Box → Prop) (f : Nat) (args : List AV) (bx : List Box)
    (K : AV → List Box → Prop) (Kp : AV → List Box → Prop) : Prop where
  ok : ∃ args' bx1 res bx2, (args' = args ∧ bx1 = bx ∨ frzs bx args = some args' ∧ bx1 = seals1 bx args) ∧ FC f args' bx1 res bx2 ∧
    (match res with | .ret v => K v bx2 | .pan v => Kp v bx2)

/-- A call that needs no box: the own rows among its arguments are lent. -/
structure CallShut (FC : Nat → List AV → List Box → Res → List Box → Prop) (f : Nat) (args : List AV) (bx : List Box)
    (K : AV → List Box → Prop) : Prop where
  ok : ∃ args', frzs bx args = some args' ∧ AV.shut.shuts args' = true ∧
    ((∃ v, FC f args' [] (.ret v) [] ∧ (v.flat = true ∨ frzs [] args = some args' ∧ v.shut = true) ∧ K v bx) ∨
     (∃ sz n es, FC f args' [] (.ret (.ow 0 sz n)) [.row sz es] ∧ ((∀ r ∈ es, ∀ x ∈ r, x.flat = true) ∨ frzs [] args = some args') ∧ K (.ow bx.length sz n) (bx ++ [.row sz es])))

structure CallWp (FC : Nat → List AV → List Box → Res → List Box → Prop) (oks : Prop) (f : Nat) (args : List AV) (bx : List Box)
    (K : AV → List Box → Prop) (Kp : AV → List Box → Prop) : Prop where
  ok : oks ∧ (CallShut FC f args bx K ∨ CallGen FC f args bx K Kp)

mutual
/-- a value that hangs on no memory but where boxes lie -/
def AV.loose : AV → Bool
  | .any => true
  | .d (.bool _) | .d (.int _ _) | .d (.str _) | .k _ => true
  | .ptr _ _ => true
  | .rp _ _ _ _ => true
  | .agg cs => AV.looses cs
  | .fn _ cs => AV.looses cs
  | .ifc _ x => AV.loose x
  | _ => false
def AV.looses : List AV → Bool
  | [] => true
  | x :: xs => bif AV.loose x then AV.looses xs else false
end

def bornB (bx : List Box) (i : Nat) : Bool :=
  match bx[i]? with
  | some b => b.born
  | none => false

/-- the boxes that are named are there -/
def AV.namesIn (bx : List Box) : AV → Bool
  | .any | .d _ | .k _ | .ep _ | .cl _ => true
  | .agg cs | .tup cs | .fn _ cs => namesIns bx cs
  | .ifc _ x | .cond _ x => x.namesIn bx
  | .ptr b _ | .rp b _ _ _ | .ow b _ _ | .vw b _ _ _ _ _ | .mpb b => bornB bx b
where
  namesIns (bx : List Box) : List AV → Bool
    | [] => true
    | x :: xs => x.namesIn bx && namesIns bx xs

def looseBoxes (bx : List Box) : List Box → Bool
  | [] => true
  | .var cs :: r => bif AV.looses cs && AV.namesIn.namesIns bx cs then looseBoxes bx r else false
  | .dead :: r => looseBoxes bx r
  | .unborn :: r => looseBoxes bx r
  | _ :: _ => false

/-- A call that turns no box: some boxes of loose values are handed, own rows are lent as data. -/
structure QuietFC (FC : Nat → List AV → List Box → Res → List Box → Prop) (f : Nat) (args : List AV) (bx : List Box) (v : AV) : Prop where
  ok : ∃ args' bxV, frzs bx args = some args' ∧ AV.namesIn.namesIns bxV args' = true ∧ looseBoxes bxV bxV = true ∧
    (∀ (i : Nat) (b : Box), bxV[i]? = some b → b.born = true → ∃ b', bx[i]? = some b' ∧ b'.born = true ∧ (b.live = true → b' = b)) ∧ FC f args' bxV (.ret v) bxV ∧
    (v.flat = true ∨ frzs [] args = some args' ∧ v.shut = true)

/-- A call that touches no box. -/
structure CallQ (FC : Nat → List AV → List Box → Res → List Box → Prop) (g : Bool) (oks : Prop) (f : Nat) (args : List AV) (bx : List Box)
    (K : AV → Prop) : Prop where
  ok : ∃ v, (g = true → oks ∧ QuietFC FC f args bx v) ∧ K v

/-- An element of data. -/
structure IdxWp (g : Bool) (c : Prop) (ds : List D) (K : List D → Prop) : Prop where
  ok : ∃ ds', (g = true → c ∧ ds = ds') ∧ K ds'

structure CondWp (v : AV) (A B : Unit → Prop) : Prop where
  ok : match v with
  | .d (.bool p) => (p = true → A ()) ∧ (p = false → B ())
  | _ => False

/-- is a slice nil? It may be, just where nothing is in it. -/
structure NilWp (emp : Prop) (K : Bool → Prop) : Prop where
  ok : ∀ b : Bool, (b = true → emp) → K b

def nilE : AV → Option Prop
  | .d (.sl es) => some (es = [])
  | .cl es => some (es = [])
  | .ow _ _ n => some (n = 0)
  | _ => none

/-- one step along a string -/
structure NextWp (str : List UInt8) (pos : Nat) (A : Nat → Nat → Prop) (B : Unit → Prop) : Prop where
  ok : (pos < str.length → A (Utf8.decode ⟨str.toArray⟩ pos).1 (Utf8.decode ⟨str.toArray⟩ pos).2) ∧ (¬ pos < str.length → B ())

def thenQ (K : St → Prop) (Q : Ex → St → Prop) (e : Ex) (s : St) : Prop :=
  match e with
  | .normal => K s
  | e => Q e s

structure LoopWp (A : (Ex → St → Prop) → St → Prop) (Q : Ex → St → Prop) (s : St) : Prop where
  ok : ∃ (I : Nat → St → Prop) (n : Nat), I n s ∧ ∀ n s1, I n s1 → A (fun e s2 => thenQ (fun s2 => ∃ m, m < n ∧ I m s2) Q e s2) s1

/-- an element of data: its condition, its cells -/
def idxR (T : Nat → Option TI) (t : Nat) (x i : AV) : Option (Prop × List D) :=
  match T t with
  | some ti => match ti.kd, x, i with
    | .slice e, .d (.sl es), .d (.int _ z) => match T e with
      | some te => some (0 ≤ z ∧ z < es.length ∧ (∀ r ∈ es, r.length = te.size), es.getD z.toNat [])
      | none => none
    | .slice e, .cl es, .d (.int _ z) => match T e with
      | some te => some (0 ≤ z ∧ z < es.length ∧ (∀ r ∈ es, r.length = te.size), es.getD z.toNat [])
      | none => none
    | _, _, _ => none
  | none => none

/- maps: an entry is a row, its key first -/
def keyKd : Kd → D → Bool
  | .int k, .int j _ => j == k
  | .str, .str _ => true
  | _, _ => false
def keyEq : D → D → Bool
  | .int j a, .int k b => j == k && decide (a = b)
  | .str a, .str b => decide (a = b)
  | _, _ => false
def rowIs (kd : Kd) (n : Nat) (r : List D) : Prop := ∃ x ds, r = x :: ds ∧ keyKd kd x = true ∧ ds.length = n
def mget : List (List D) → D → Option (List D)
  | [], _ => none
  | (x :: ds) :: r, k => bif keyEq k x then some ds else mget r k
  | [] :: r, k => mget r k
def mput : List (List D) → D → List D → List (List D)
  | [], k, v => [k :: v]
  | (x :: ds) :: r, k, v => bif keyEq k x then (k :: v) :: r else (x :: ds) :: mput r k v
  | [] :: r, k, v => [] :: mput r k v
/-- a map that is read: its keys' type, its elements', its entries -/
def mapAt (T : Nat → Option TI) (t : Nat) (m : AV) (bx : List Box) : Option (TI × TI × Bool × List (List D)) :=
  match T t with
  | some ti => match ti.kd with
    | .map k e => match T k, T e, m with
      | some tk, some te, .d (.mp ag es) => some (tk, te, ag, es)
      | some tk, some te, .k .nilMap => some (tk, te, te.kd.isAgg, [])
      | some tk, some te, .mpb b => match bx[b]? with
        | some (.mp ag es) => some (tk, te, ag, es)
        | _ => none
      | _, _, _ => none
    | _ => none
  | none => none
def mapFit (tk te : TI) (ag : Bool) (es : List (List D)) (k : D) : Prop := ag = te.kd.isAgg ∧ keyKd tk.kd k = true ∧ ∀ r ∈ es, rowIs tk.kd te.size r
/-- an entry that is looked up: what is found -/
structure LookWp (g : Bool) (c : Prop) (o : Option (List D)) (K : Option (List D) → Prop) : Prop where
  ok : ∃ o', (g = true → c ∧ o = o') ∧ K o'
def foundK (te : TI) (cok : Bool) (K : AV → Prop) : Option (List D) → Prop
  | none => match te.zero.cells? with
    | some _ => K (bif cok then .tup [te.zero, .d (.bool false)] else te.zero)
    | none => False
  | some ds => match splitA te.kd.isAgg te.size (ds.map .d) with
    | some v => K (bif cok then .tup [v, .d (.bool true)] else v)
    | none => False
def mapBox (T : Nat → Option TI) (t : Nat) (m : AV) (bx : List Box) : Option (Nat × TI × TI × Bool × List (List D)) :=
  match m, mapAt T t m bx with
  | .mpb b, some (tk, te, ag, es) => some (b, tk, te, ag, es)
  | _, _ => none

section
variable (FC : Nat → List AV → List Box → Res → List Box → Prop) (T : Nat → Option TI) (G : Nat → Option (List D)) (N : Nat)

def stepU (o : Oper) (s : St) (K : AV → List Box → Prop) (Q : Ex → St → Prop) : Prop :=
  match o.op with
  | .pick c a b => match (opd G s.sl c).strip with
    | .d (.bool p) => ((opd G s.sl c).ok ∧ (p = true → (opd G s.sl a).ok) ∧ (p = false → (opd G s.sl b).ok)) ∧ K (pickV p (opd G s.sl a).strip (opd G s.sl b).strip) s.bx
    | _ => False
  | .call { callee := .value f, args, .. } => match fnArgs (opd G s.sl f).strip (args.toList.map fun x => (opd G s.sl x).strip) with
    | some (i, as) => CallWp FC ((opd G s.sl f).ok ∧ okAll (opds G s.sl args.toList)) i as s.bx (fun v bx => K v bx) (fun v bx => Q (.panic v) ⟨[], bx⟩)
    | none => False
  | .panic x => match (opd G s.sl x).strip with
    | .ifc t v => (opd G s.sl x).ok ∧ Q (.panic (.ifc t v)) ⟨[], s.bx⟩
    | _ => False
  | .range t x => match T t with
    | some ti => match ti.kd, (opd G s.sl x).strip with
      | .str, .d (.str str) => (opd G s.sl x).ok ∧ K (.ptr s.bx.length 0) (s.bx ++ [.it str 0])
      | _, _ => False
    | none => False
  | .next it true => match (opd G s.sl it).strip with
    | .ptr b 0 => match s.bx[b]? with
      | some (.it str pos) => (opd G s.sl it).ok ∧ NextWp str pos (fun c wd => K (.tup [.d (.bool true), .d (.int .i64 pos), .d (.int .i32 c)]) (s.bx.set b (.it str (pos + wd)))) (fun _ => K (.tup [.d (.bool false)]) s.bx)
      | _ => False
    | _ => False
  | .binOp .eql t x (.const (.slice none 0 0)) _ => match T t, nilE (opd G s.sl x).strip with
    | some ti, some emp => match ti.kd with
      | .slice _ => (opd G s.sl x).ok ∧ NilWp emp (fun b => K (.d (.bool b)) s.bx)
      | _ => False
    | _, _ => False
  | .binOp .neq t x (.const (.slice none 0 0)) _ => match T t, nilE (opd G s.sl x).strip with
    | some ti, some emp => match ti.kd with
      | .slice _ => (opd G s.sl x).ok ∧ NilWp emp (fun b => K (.d (.bool (!b))) s.bx)
      | _ => False
    | _, _ => False
  | .makeMap ty none => match T ty with
    | some ti => match ti.kd with
      | .map _ e => match T e with
        | some te => K (.mpb s.bx.length) (s.bx ++ [.mp te.kd.isAgg []])
        | none => False
      | _ => False
    | none => False
  | .lookup ty m k cok => match mapAt T ty (opd G s.sl m).strip s.bx, (opd G s.sl k).strip with
    | some (tk, te, ag, es), .d kd => LookWp true (((opd G s.sl m).ok ∧ (opd G s.sl k).ok) ∧ mapFit tk te ag es kd) (mget es kd) (foundK te cok (fun v => K v s.bx))
    | _, _ => False
  | .mapUpdate ty m k x => match mapBox T ty (opd G s.sl m).strip s.bx, (opd G s.sl k).strip, (opd G s.sl x).strip.cells? with
    | some (b, tk, te, ag, es), .d kd, some vs => match ownless vs, toDs s.bx vs with
      | true, some ds => (((opd G s.sl m).ok ∧ (opd G s.sl k).ok ∧ (opd G s.sl x).ok) ∧ mapFit tk te ag es kd ∧ ds.length = te.size ∧ (opd G s.sl x).strip.isAgg = ag) ∧ K .any (s.bx.set b (.mp ag (mput es kd ds)))
      | _, _ => False
    | _, _, _ => False
  | op =>
    match (match op with | .indexAddr t x i => idxR T t (opd G s.sl x).strip (opd G s.sl i).strip | _ => none) with
    | some (c, ds) => IdxWp true (okAll (opds G s.sl op.operands.toList) ∧ c) ds (fun ds => K (.ep ds) s.bx)
    | none => match opR T (fun x => (opd G s.sl x).strip) op s.bx with
      | some ⟨c, v, b⟩ => (okAll (opds G s.sl op.operands.toList) ∧ c) ∧ K v (orBx s.bx b)
      | none => False

/-- under a guard: nothing but a value may come of it -/
def stepG0 (g : Bool) (o : Oper) (s : St) (K : AV → Prop) : Prop :=
  match o.op with
  | .pick c a b => match (opd G s.sl c).strip with
    | .d (.bool p) => (g = true → ((opd G s.sl c).ok ∧ (p = true → (opd G s.sl a).ok) ∧ (p = false → (opd G s.sl b).ok))) ∧ K (pickV p (opd G s.sl a).strip (opd G s.sl b).strip)
    | _ => False
  | .call { callee := .value f, args, .. } => match fnArgs (opd G s.sl f).strip (args.toList.map fun x => (opd G s.sl x).strip) with
    | some (i, as) => CallQ FC g ((opd G s.sl f).ok ∧ okAll (opds G s.sl args.toList)) i as s.bx (fun v => K v)
    | none => False
  | op =>
    match (match op with | .indexAddr t x i => idxR T t (opd G s.sl x).strip (opd G s.sl i).strip | _ => none) with
    | some (c, ds) => IdxWp g (okAll (opds G s.sl op.operands.toList) ∧ c) ds (fun ds => K (.ep ds))
    | none => match opR T (fun x => (opd G s.sl x).strip) op s.bx with
      | some ⟨c, v, none⟩ => (g = true → okAll (opds G s.sl op.operands.toList) ∧ c) ∧ K v
      | _ => False

/-- under a guard that forbids it any value comes of it -/
def stepG (g : Bool) (o : Oper) (s : St) (K : AV → Prop) : Prop := (g = false ∧ ∃ v, K v) ∨ stepG0 FC T G g o s K

def guardOf (sl : List (Nat × AV)) (ops : List Oper) (j : Nat) (want : Bool) : Option Bool :=
  match ops[j]? with
  | some o => match o.dst with
    | some t => match lok t sl with
      | .d (.bool q) => some (bif want then q else !q)
      | .cond g (.d (.bool q)) => some (g && (bif want then q else !q))
      | _ => none
    | none => none
  | none => none

/-- a call under a guard that hands the boxes back as they stood -/
def stepGC (g : Bool) (o : Oper) (s : St) (K : AV → Prop) : Prop :=
  match o.op with
  | .call { callee := .value f, args, .. } => match fnArgs (opd G s.sl f).strip (args.toList.map fun x => (opd G s.sl x).strip) with
    | some (i, as) => ∃ v, (g = true → ((opd G s.sl f).ok ∧ okAll (opds G s.sl args.toList)) ∧ FC i as s.bx (.ret v) s.bx) ∧ K v
    | none => False
  | _ => False

def opsW (ops : List Oper) : List Oper → (Ex → St → Prop) → St → Prop
  | [], Q, s => Q .normal s
  | o :: rest, Q, s => bif dstOk N o.dst then
      match o.guard with
      | none => stepU FC T G o s (fun v bx => opsW ops rest Q ⟨put1 o.dst v s.sl, bx⟩) Q
      | some (j, want) => match guardOf s.sl ops j want with
        | some g => stepG FC T G g o s (fun v => opsW ops rest Q ⟨put1 o.dst (.cond g v) s.sl, s.bx⟩) ∨
            stepGC FC G g o s (fun v => opsW ops rest Q ⟨put1 o.dst (.cond g v) s.sl, s.bx⟩)
        | none => False
    else False

/- regions whose order is open -/
/-- the operations ahead of each, as bits -/
def before1 (acc : List Nat) (o : Oper) : Nat :=
  o.after.toList.foldl (fun s e => bif Region.binds .any e then s ||| 2 ^ e.on ||| acc.getD e.on 0 else s) 0

def befores : List Oper → List Nat → List Nat
  | [], acc => acc
  | o :: r, acc => befores r (acc ++ [before1 acc o])

/-- operation i stands behind all ahead of it in the text, and ahead of all behind it -/
def barrier (b : List Nat) (i : Nat) : Bool :=
  Nat.beq (b.getD i 0) (2 ^ i - 1) && (b.drop (i + 1)).all (fun x => x.testBit i)

def births : List Oper → Nat
  | [] => 0
  | o :: r => (match o.op with | .alloc _ => 1 | .box _ _ => 1 | .call _ => 1 | _ => 0) + births r

/-- a variable that is made -/
def birthOf (T : Nat → Option TI) (G : Nat → Option (List D)) (sl : List (Nat × AV)) (o : Oper) : Option (List AV) :=
  match o.guard with
  | some _ => none
  | none => match o.op with
    | .alloc t => match T t with
      | some ti => ti.zero.cells?
      | none => none
    | .box _ x => (opd G sl x).cells?
    | _ => none

/-- each operation waits for earlier ones alone, and is apart from the earlier ones that it does not wait for -/
def drawFit (ops : Array Oper) (b : List Nat) : Nat → List Oper → Bool
  | _, [] => true
  | i, o :: r => (o.after.toList.all fun e => !Region.binds .any e || Nat.blt e.on i) && apartUpto ops (b.getD i 0) o i && drawFit ops b (i + 1) r
where
  apartUpto (ops : Array Oper) (m : Nat) (o : Oper) : Nat → Bool
    | 0 => true
    | j + 1 => (m.testBit j || (match ops[j]? with | some p => p.apart ops o | none => false)) && apartUpto ops m o j

/-- the operations of a region, those of a list ahead of all others behind them -/
def tighten (pre : List Nat) (i : Nat) (o : Oper) : Oper :=
  bif pre.contains i then o else { o with after := o.after ++ ((pre.filter (fun p => Nat.blt p i)).map (fun p => ({ on := p, ground := .data } : Edge))).toArray }
def tightL (pre : List Nat) : Nat → List Oper → List Oper
  | _, [] => []
  | i, o :: r => tighten pre i o :: tightL pre (i + 1) r

def preFit (ops : Array Oper) : List Nat → List Nat → Bool
  | _, [] => true
  | done, p :: r => match ops[p]? with
    | some o => !done.contains p && o.guard.isNone && (o.after.all fun e => !Region.binds .any e || done.contains e.on) &&
        ((List.range ops.size).all fun j => Nat.beq j p || done.contains j || (match ops[j]? with | some q => (q.after.any fun e => Region.binds .any e && Nat.beq e.on p) || o.apart ops q | none => true)) && preFit ops (p :: done) r
    | none => false
def noSel (ops : Array Oper) : Bool := ops.all fun o => match o.op with | .select _ _ => false | _ => true
def preV (G : Nat → Option (List D)) (sl : List (Nat × AV)) (o : Oper) : Option AV :=
  match o.op with
  | .move x => some (opd G sl x)
  | .binOp .add _ x y _ => match opd G sl x, opd G sl y with
    | .d (.int k a), .d (.int k' b) => bif k == k' then some (.d (.int k (k.wrap (a + b)))) else none
    | _, _ => none
  | .binOp .sub _ x y _ => match opd G sl x, opd G sl y with
    | .d (.int k a), .d (.int k' b) => bif k == k' then some (.d (.int k (k.wrap (a - b)))) else none
    | _, _ => none
  | _ => none
def preGo (G : Nat → Option (List D)) (N : Nat) (ops : List Oper) : List Nat → List (Nat × AV) → Bool
  | [], _ => true
  | p :: r, sl => match ops[p]? with
    | some o => match preV G sl o with
      | some v => dstOk N o.dst && preGo G N ops r (put1 o.dst v sl)
      | none => false
    | none => false
/- operations that are carried out as soon as they may be -/
def pureKind : Op → Bool
  | .move _ => true
  | .extract _ _ => true
  | _ => false
/-- whatever an operation waits for, another one waits for too -/
def lateTo (ops : Array Oper) (p : Nat) (o : Oper) : Bool :=
  match ops[p]? with
  | some q => q.after.all fun e => !Region.binds .any e || o.after.any fun e' => Region.binds .any e' && Nat.beq e'.on e.on
  | none => false
def lateOne (ops : Array Oper) (late : List Nat) (i : Nat) (o : Oper) : Oper :=
  bif late.contains i then o else { o with after := o.after ++ ((late.filter (fun p => Nat.blt p i && lateTo ops p o)).map (fun p => ({ on := p, ground := .data } : Edge))).toArray }
def lateL (ops : Array Oper) (late : List Nat) : Nat → List Oper → List Oper
  | _, [] => []
  | i, o :: r => lateOne ops late i o :: lateL ops late (i + 1) r
def lateFit (ops : Array Oper) (late : List Nat) : Bool :=
  late.all fun p => match ops[p]? with
    | some o => pureKind o.op && o.guard.isNone && ((List.range ops.size).all fun j => Nat.beq j p || (o.after.any fun e => Region.binds .any e && Nat.beq e.on j) || (match ops[j]? with | some q => (q.after.any fun e => Region.binds .any e && Nat.beq e.on p) || o.apart ops q | none => true))
    | none => false
structure DrawFit (ops : List Oper) : Prop where
  ok : drawFit ops.toArray (befores ops []) 0 ops = true

/-- a call that makes an own row -/
def callBorn (o : Oper) (sl : List (Nat × AV)) (bxs : List Box) (x : Nat) (K : AV → Box → Prop) : Prop :=
  ∃ f args ats i as args' sz n es, o.op = .call { callee := .value f, args := args, argTypes := ats } ∧ fnArgs (opd G sl f).strip (args.toList.map fun x => (opd G sl x).strip) = some (i, as) ∧
    ((opd G sl f).ok ∧ okAll (opds G sl args.toList)) ∧ frzs bxs as = some args' ∧ AV.shut.shuts args' = true ∧ FC i args' [] (.ret (.ow 0 sz n)) [.row sz es] ∧
    ((∀ r ∈ es, ∀ x ∈ r, x.flat = true) ∨ frzs [] as = some args') ∧ bxs[x]? = some .unborn ∧ K (.ow x sz n) (.row sz es)

def opsD (ops : List Oper) (b : List Nat) (base : Nat) : List Box → Nat → Nat → List Oper → (Ex → St → Prop) → St → Prop
  | _, _, _, [], Q, s => Q .normal s
  | bxs, k, i, o :: rest, Q, s => bif dstOk N o.dst then
      bif barrier b i then match o.guard with
        | none => stepU FC T G o s (fun v bx => opsD ops b base bx k (i + 1) rest Q ⟨put1 o.dst v s.sl, bx⟩) Q
        | some (j, want) => match guardOf s.sl ops j want with
          | some g => stepG FC T G g o s (fun v => opsD ops b base s.bx k (i + 1) rest Q ⟨put1 o.dst (.cond g v) s.sl, s.bx⟩)
          | none => False
      else match birthOf T G s.sl o with
        | some cs => match bxs[base + k]? with
          | some .unborn => opsD ops b base bxs (k + 1) (i + 1) rest Q ⟨put1 o.dst (.ptr (base + k) 0) s.sl, s.bx.set (base + k) (.var cs)⟩
          | _ => False
        | none => match o.guard with
          | none => stepG FC T G true o ⟨s.sl, bxs⟩ (fun v => opsD ops b base bxs k (i + 1) rest Q ⟨put1 o.dst v s.sl, s.bx⟩) ∨
              callBorn FC G o s.sl bxs (base + k) (fun v B => opsD ops b base bxs (k + 1) (i + 1) rest Q ⟨put1 o.dst v s.sl, s.bx.set (base + k) B⟩)
          | some (j, want) => match guardOf s.sl ops j want with
            | some g => stepG FC T G g o ⟨s.sl, bxs⟩ (fun v => opsD ops b base bxs k (i + 1) rest Q ⟨put1 o.dst (.cond g v) s.sl, s.bx⟩)
            | none => False
    else False

def drawW (ops : List Oper) (Q : Ex → St → Prop) (s : St) : Prop :=
  ∃ pre late : List Nat, ((pre = [] ∧ late = []) ∨ (preFit ops.toArray [] pre = true ∧ noSel ops.toArray = true ∧ lateFit (tightL pre 0 ops).toArray late = true ∧ preGo G N ops pre s.sl = true)) ∧ DrawFit (lateL (tightL pre 0 ops).toArray late 0 (tightL pre 0 ops)) ∧
    opsD FC T G N ops (befores (lateL (tightL pre 0 ops).toArray late 0 (tightL pre 0 ops)) []) s.bx.length (s.bx ++ List.replicate (births ops) .unborn) 0 0 ops Q ⟨s.sl, s.bx ++ List.replicate (births ops) .unborn⟩

def awp : Code → (Ex → St → Prop) → St → Prop
  | .skip, Q, s => Q .normal s
  | .region _ ops draw, Q, s => bif draw then drawW FC T G N ops.toList Q s else opsW FC T G N ops.toList ops.toList Q s
  | .seq a b, Q, s => awp a (fun e s1 => thenQ (fun s1 => awp b Q s1) Q e s1) s
  | .cond c a b, Q, s => (opd G s.sl c).ok ∧ CondWp (opd G s.sl c).strip (fun _ => awp a Q s) (fun _ => awp b Q s)
  | .block id c, Q, s => awp c (fun e s1 => match e with | .exit j => bif Nat.beq j id then Q .normal s1 else Q (.exit j) s1 | e => Q e s1) s
  | .loop c, Q, s => LoopWp (fun Q1 s1 => awp c Q1 s1) Q s
  | .exit id, Q, s => Q (.exit id) s
  | .label _, Q, s => Q .normal s
  | .ret, Q, s => Q .ret s
  | _, _, _ => False
end

/- the end of a body -/
def resR (T : Nat → Option TI) (sl : List (Nat × AV)) (bx : List Box) : List ResultVar → Option (Prop × List AV)
  | [] => some (True, [])
  | .tmp t :: r => match resR T sl bx r with
    | some (c, vs) => some ((lok t sl).ok ∧ c, (lok t sl).strip :: vs)
    | none => none
  | .cell t ty :: r => match T ty, resR T sl bx r with
    | some ti, some (c, vs) => match lok t sl with
      | .ptr b o => match loadR ti (.ptr b o) bx with
        | some ⟨c', v, _⟩ => some (c' ∧ c, v :: vs)
        | none => none
      | _ => none
    | _, _ => none

def tupOf : List AV → AV
  | [v] => v
  | vs => .tup vs

/-- a result as a caller gets it: own rows are told as data -/
def frzT (bx : List Box) : AV → Option AV
  | .tup vs => (frzs bx vs).map .tup
  | v => frz1 bx v

def sealT (bx : List Box) : AV → List Box
  | .tup vs => seals1 bx vs
  | v => seal1 bx v

/-- no box from number n on is named -/
def AV.within (n : Nat) : AV → Bool
  | .any | .d _ | .k _ | .ep _ | .cl _ => true
  | .agg cs | .tup cs | .fn _ cs => withins n cs
  | .ifc _ x | .cond _ x => x.within n
  | .ptr b _ | .rp b _ _ _ | .ow b _ _ | .vw b _ _ _ _ _ | .mpb b => Nat.blt b n
where
  withins (n : Nat) : List AV → Bool
    | [] => true
    | x :: xs => x.within n && withins n xs

def boxesWithin (n : Nat) : List Box → Bool
  | [] => true
  | .var cs :: r => AV.within.withins n cs && boxesWithin n r
  | _ :: r => boxesWithin n r

/-- boxes of which some go out of use -/
def kill : List Bool → List Box → List Box
  | [], bs => bs
  | _, [] => []
  | k :: ks, b :: bs => (bif k && b.born then .dead else b) :: kill ks bs

/-- how a body's end is told to its caller: as it stands · as data, with what it made laid aside · an own row -/
structure RetWp (n : Nat) (c : Prop) (v : AV) (bx : List Box) (res : Res) (bx' : List Box) : Prop where
  ok : c ∧ ((res = .ret v ∧ bx' = bx) ∨
    (∃ ks u, frzT bx v = some u ∧ u.within n = true ∧ bx' = (kill ks (sealT bx v)).take n ∧ boxesWithin n bx' = true ∧ res = .ret u) ∨
    (∃ k sz m es, v = .ow k sz m ∧ bx[k]? = some (.row sz es) ∧ n ≤ k ∧ n ≤ bx.length ∧ boxesWithin n (bx.take n) = true ∧ res = .ret (.ow n sz m) ∧ bx' = bx.take n ++ [.row sz es]) ∨
    (∃ sz, v = .cl [] ∧ n ≤ bx.length ∧ boxesWithin n (bx.take n) = true ∧ res = .ret (.ow n sz 0) ∧ bx' = bx.take n ++ [.row sz []]))

structure PanWp (v : AV) (bx : List Box) (res : Res) (bx' : List Box) : Prop where
  ok : res = .pan v ∧ bx' = bx

def bodyQ (T : Nat → Option TI) (results : List ResultVar) (n : Nat) (res : Res) (bx' : List Box) : Ex → St → Prop
  | .exit _, _ => False
  | .panic v, s => PanWp v s.bx res bx'
  | _, s => match resR T s.sl s.bx results with
    | some (c, vs) => RetWp n c (tupOf vs) s.bx res bx'
    | none => False

def argSl : Nat → List AV → List (Nat × AV)
  | _, [] => []
  | i, x :: xs => (i, x) :: argSl (i + 1) xs

end Dem
