/- Parts of a proof, joined. -/
import Derived.Orders
import Derived.Laws.Append
import Derived.RowKit3
import Derived.Laws.Externs
import Derived.Lib.Strings
set_option linter.all false
set_option maxRecDepth 100000
set_option maxHeartbeats 4000000
section
open Go
namespace Dem
theorem trv:True:=trivial
theorem osI {α:Type _} {a b:α}:(some a=some b)=(a=b):=Option.some.injEq a b
theorem lgM {α β:Type _} {as:List α} (f:α→β):(as.map f).length=as.length:=List.length_map f
inductive D where
 |bool (b:Bool)
 |int (k:IntKind) (n:Int)
 |str (s:List UInt8)
 |sl (es:List (List D))
 |fn (f:Nat)
 |mp (ag:Bool) (es:List (List D))
inductive KC where
 |oF|nilIface|nilFunc|Ec
def KC.val:KC→Value
 |.oF=>.pointer none
 |.nilIface=>.nilIface
 |.nilFunc=>.nilFunc
 |.Ec=>.map none
inductive AV where
 |any
 |d (x:D)
 |k (c:KC)
 |agg (cs:List AV)
 |ek (vs:List AV)
 |ptr (b off:Nat)
 |rp (b sz i j:Nat)
 |ep (ds:List D)
 |ow (b sz n:Nat)
 |cl (es:List (List D))
 |fn (f:Nat) (jU:List AV)
 |sS (t:Nat) (v:AV)
 |cond (p:Bool) (v:AV)
 |vw (b sz off n c:Nat) (ex:Bool)
 |zX (b:Nat)
inductive aA where
 |var (cs:List AV)
 |row (sz:Nat) (es:List (List D))
 |kP (sz:Nat) (es:List (List D))
 |it (s:List UInt8) (pos:Nat)
 |mp (ag:Bool) (es:List (List D))
 |dead
 |bq
def aA.live:aA→Bool
 |.var _=>true
 |.row _ []=>false
 |.row _ (_::_)=>true
 |.it _ _=>true
 |.mp _ _=>true
 |_=>false
def aA.born:aA→Bool
 |.bq=>false
 |_=>true
def bT (bx:List aA) (i:Nat):Prop:=∃b,bx[i]?=some b∧b.born=true
structure St where
 sl:List (Nat×AV)
 bx:List aA
inductive Ex where
 |normal
 |exit (id:Nat)
 |ret
 |panic (v:AV)
inductive iB where
 |ret (v:AV)
 |MK (v:AV)
def fW (t:Nat):List (Nat×AV)→AV
 |[]=>.any
 |(u,v)::r=>bif Nat.beq t u then v else fW t r
def put (t:Nat) (v:AV):List (Nat×AV)→List (Nat×AV)
 |[]=>[(t,v)]
 |(u,x)::r=>bif Nat.beq t u then (t,v)::r else (u,x)::put t v r
def eN (dst:Option Nat) (v:AV) (sl:List (Nat×AV)):List (Nat×AV):=
 match dst with
 |some t=>put t v sl
 |none=>sl
def ic (n:Nat) (dst:Option Nat):Bool:=
 match dst with
 |some t=>Nat.blt t n
 |none=>true
inductive Kd where
 |int (k:IntKind)
 |bool
 |str
 |slice (e:Nat)
 |array (n e:Nat)
 |struct (adb:List (Nat×Nat))
 |map (k e:Nat)
 |iface
 |other
def Kd.plain:Kd→Bool
 |.other=>false
 |.iface=>false
 |_=>true
def Kd.isAgg:Kd→Bool
 |.array _ _=>true
 |.struct _=>true
 |_=>false
structure TI where
 size:Nat
 bytes:Nat
 kd:Kd
 zero:AV
 eq:Bool
 inv:Option (String×Nat):=none
def I4:Value→AV
 |.bool b=>.d (.bool b)
 |.int k n=>.d (.int k n)
 |.string s=>.d (.str s.data.toList)
 |.slice none 0 0=>.cl []
 |.pointer none=>.k .oF
 |.nilIface=>.k .nilIface
 |.nilFunc=>.k .nilFunc
 |.map none=>.k .Ec
 |_=>.any
def SF:Value→AV
 |.agg cs=>.agg (cs.toList.map I4)
 |v=>I4 v
def cP:TypeDesc→Kd
 |.int k=>.int k
 |.bool=>.bool
 |.string=>.str
 |.slice e=>.slice e
 |.array n e=>.array n e
 |.struct fs=>.struct (fs.toList.map fun f=>(f.offset,f.type))
 |.map k e=>.map k e
 |.interface _=>.iface
 |_=>.other
def O2 (P:Program) (t:Nat):TypeDesc→Bool
 |.struct fs=>!P.stoodInHeld t&&fs.toList.all fun f=>f.name != "_"
 |_=>true
def O3:List String:=["demesne/sel.holds","demesne/act.kind"]
def U0 (i:TypeInfo):Option (String×Nat):=O3.findSome? fun nm=>match i.methods.toList.find? (fun m=>m.name==nm) with
 |some ⟨_,_,path,some (f,false)⟩=>bif path.toList.isEmpty then some (nm,f) else none
 |_=>none
def qc (P:Program) (t:Nat):Option TI:=
 match P.info? t,P.underlying t with
 |some i,some d=>some {size:=i.size,bytes:=i.bytes,kd:=cP d,zero:=match i.zero with|some z=>SF z|none=>.any,eq:=O2 P t d,inv:=bif (cP d).plain then U0 i else none}
 |_,_=>none
def AV.aM:AV→AV
 |.cond _ v=>v
 |v=>v
def AV.ok:AV→Prop
 |.cond p _=>p=true
 |_=>True
def AV.sc:AV→Bool
 |.d _|.k _|.ptr _ _|.rp _ _ _ _|.ep _|.ow _ _ _|.cl _|.fn _ _|.sS _ _|.zX _=>true
 |_=>false
def uJ:List AV→Bool
 |[]=>true
 |x::xs=>bif x.sc then uJ xs else false
def AV.cells?:AV→Option (List AV)
 |.agg cs=>bif uJ cs then some cs else none
 |.any|.ek _|.cond _ _|.vw _ _ _ _ _ _=>none
 |v=>some [v]
def bV (G:Nat→Option (List D)) (sl:List (Nat×AV)):Operand→AV
 |.tmp t=>fW t sl
 |.const v=>I4 v
 |.global g=>match G g with
  |some ds=>.ep ds
  |none=>.any
 |.func f=>.fn f []
def AV.rY (bx:List aA):AV→Option D
 |.d x=>some x
 |.cl es=>some (.sl es)
 |.fn f []=>some (.fn f)
 |.ow b sz n=>match n,bx[b]? with
  |_,some (.row s es)=>bif Nat.beq s sz&&Nat.beq n es.length then some (.sl es) else none
  |_,some (.kP s es)=>bif Nat.beq s sz&&Nat.beq n es.length then some (.sl es) else none
  |_,_=>none
 |_=>none
def AV.cq (bx:List aA):AV→List aA
 |.ow b _ _=>match bx[b]? with
  |some (.row s es)=>bx.set b (.kP s es)
  |_=>bx
 |.vw b _ _ _ _ _=>match bx[b]? with
  |some (.row s es)=>bx.set b (.kP s es)
  |_=>bx
 |_=>bx
def iU (bx:List aA):List AV→Option (List D)
 |[]=>some []
 |x::xs=>match x.rY bx,iU bx xs with
  |some y,some ys=>some (y::ys)
  |_,_=>none
def eD (bx:List aA):List AV→List aA
 |[]=>bx
 |x::xs=>eD (x.cq bx) xs
def AV.rows (bx:List aA):AV→Option (List (List D))
 |.d (.sl es)=>some es
 |.cl es=>some es
 |.ow b sz n=>match bx[b]? with
  |some (.row s es)=>bif Nat.beq s sz&&Nat.beq n es.length then some es else none
  |some (.kP s es)=>bif Nat.beq s sz&&Nat.beq n es.length then some es else none
  |_=>none
 |.vw b sz off n _ _=>match bx[b]? with
  |some (.row s es)=>bif Nat.beq s sz&&Nat.ble (off+n) es.length then some ((es.drop off).take n) else none
  |some (.kP s es)=>bif Nat.beq s sz&&Nat.ble (off+n) es.length then some ((es.drop off).take n) else none
  |_=>none
 |_=>none
def cE:List AV→Bool
 |[]=>true
 |.ow _ _ _::_=>false
 |.vw _ _ _ _ _ _::_=>false
 |_::r=>cE r
def eO:List AV→Nat→List AV→List AV
 |cs,_,[]=>cs
 |[],_,_::_=>[]
 |_::cs,0,v::vs=>v::eO cs 0 vs
 |c::cs,n+1,v::vs=>c::eO cs n (v::vs)
def be:List D→Nat→List D→List D
 |cs,_,[]=>cs
 |[],_,_::_=>[]
 |_::cs,0,v::vs=>v::be cs 0 vs
 |c::cs,n+1,v::vs=>c::be cs n (v::vs)
structure R where
 c:Prop
 v:AV
 bx:Option (List aA)
def dN (bx:List aA):Option (List aA)→List aA
 |some b=>b
 |none=>bx
def R.pure (v:AV):Option R:=some ⟨True,v,none⟩
def R.when (c:Prop) (v:AV):Option R:=some ⟨c,v,none⟩
def cH (agg:Bool) (size:Nat) (cs:List AV):Option AV:=
 bif agg then (bif Nat.ble size cs.length then some (.agg (cs.take size)) else none) else cs.head?
def pU (ti:TI) (a:AV) (bx:List aA):Option R:=
 match a with
 |.ptr b off=>match bx[b]? with
  |some (.var cs)=>match cH ti.kd.isAgg ti.size (cs.drop off) with
   |some v=>R.pure v
   |none=>none
  |_=>none
 |.ep ds=>match cH ti.kd.isAgg ti.size (ds.map .d) with
  |some v=>R.pure v
  |none=>none
 |.rp b sz i j=>match bx[b]? with
  |some (.row s es)=>match cH ti.kd.isAgg ti.size (((es.getD i []).drop j).map .d) with
   |some v=>some ⟨s=sz∧i<es.length,v,none⟩
   |none=>none
  |some (.kP s es)=>match cH ti.kd.isAgg ti.size (((es.getD i []).drop j).map .d) with
   |some v=>some ⟨s=sz∧i<es.length,v,none⟩
   |none=>none
  |_=>none
 |_=>none
def tM (ti:TI) (a v:AV) (bx:List aA):Option R:=
 match v.cells? with
 |none=>none
 |some vs=>bif Nat.beq vs.length ti.size then
  match a with
  |.ptr b off=>match bx[b]? with
   |some (.var cs)=>bif Nat.ble (off+vs.length) cs.length then some ⟨True,.any,some (bx.set b (.var (eO cs off vs)))⟩ else none
   |_=>none
  |.rp b sz i j=>match iU bx vs with
   |some ds=>match (eD bx vs)[b]? with
    |some (.row s es)=>some ⟨s=sz∧i<es.length∧j+ds.length≤(es.getD i []).length,.any,
     some ((eD bx vs).set b (.row s (es.set i (be (es.getD i []) j ds))))⟩
    |_=>none
   |none=>none
  |_=>none
  else none
def zY:Kd→Nat→Option (Nat×Nat)
 |.struct fs,i=>fs[i]?
 |_,_=>none
def SG (op:BinOp) (k:IntKind) (x y:Int):Option (Prop×D):=
 match op with
 |.add=>some (True,.int k (k.wrap (x+y)))
 |.sub=>some (True,.int k (k.wrap (x-y)))
 |.mul=>some (True,.int k (k.wrap (x*y)))
 |.quo=>some (y≠0,.int k (k.wrap (x.tdiv y)))
 |.rem=>some (y≠0,.int k (x.tmod y))
 |.and=>some (True,.int k (k.wrap (BitVec.ofInt k.bits x &&& BitVec.ofInt k.bits y).toNat))
 |.or=>some (True,.int k (k.wrap (BitVec.ofInt k.bits x ||| BitVec.ofInt k.bits y).toNat))
 |.xor=>some (True,.int k (k.wrap (BitVec.ofInt k.bits x ^^^ BitVec.ofInt k.bits y).toNat))
 |.andNot=>some (True,.int k (k.wrap (BitVec.ofInt k.bits x &&& ~~~(BitVec.ofInt k.bits y)).toNat))
 |.eql=>some (True,.bool (decide (x=y)))
 |.neq=>some (True,.bool (!decide (x=y)))
 |.lss=>some (True,.bool (decide (x<y)))
 |.leq=>some (True,.bool (decide (x≤y)))
 |.gtr=>some (True,.bool (decide (y<x)))
 |.geq=>some (True,.bool (decide (y≤x)))
 |_=>none
def SH (op:BinOp) (x y:List UInt8):Option (Prop×D):=
 match op with
 |.add=>some (x.length+y.length≤9223372036854775807,.str (x++y))
 |.eql=>some (True,.bool (decide (x=y)))
 |.neq=>some (True,.bool (!decide (x=y)))
 |.lss=>some (True,.bool (Op.bytesLess x y))
 |.leq=>some (True,.bool (Op.bytesLess x y||decide (x=y)))
 |.gtr=>some (True,.bool (!(Op.bytesLess x y||decide (x=y))))
 |.geq=>some (True,.bool (!Op.bytesLess x y))
 |_=>none
def O4 (op:BinOp) (x y:AV):Option (Prop×D):=
 match op,x,y with
 |.shl,.d (.int k x),.d (.int _ y)=>some (0≤y,.int k (k.wrap (x*2^(min y.toNat k.bits))))
 |.shr,.d (.int k x),.d (.int _ y)=>some (0≤y,.int k (x.fdiv (2^(min y.toNat k.bits))))
 |op,.d (.int k x),.d (.int k' y)=>bif k==k' then SG op k x y else none
 |op,.d (.str x),.d (.str y)=>SH op x y
 |_,_,_=>none
def Co (T:Nat→Option TI):Nat→Nat→AV→AV→Option Bool
 |0,_,_,_=>none
 |n+1,t,x,y=>match T t with
  |none=>none
  |some ti=>match ti.kd,x,y with
   |.int _,.d (.int j a),.d (.int k b)=>bif j==k then some (decide (a=b)) else none
   |.bool,.d (.bool a),.d (.bool b)=>some (a==b)
   |.str,.d (.str a),.d (.str b)=>some (decide (a=b))
   |.array len e,.agg xs,.agg ys=>match T e with
    |some te=>bif Nat.beq len 0 then none else (List.range len).foldr (fun i acc=>match cH te.kd.isAgg te.size (xs.drop (i*te.size)),cH te.kd.isAgg te.size (ys.drop (i*te.size)) with
     |some a,some b=>match Co T n e a b,acc with
      |some p,some q=>some (p&&q)
      |_,_=>none
     |_,_=>none) (some true)
    |none=>none
   |.struct fs,.agg xs,.agg ys=>bif ti.eq then fs.foldr (fun f acc=>match T f.2 with
    |some tf=>match cH tf.kd.isAgg tf.size (xs.drop f.1),cH tf.kd.isAgg tf.size (ys.drop f.1) with
     |some a,some b=>match Co T n f.2 a b,acc with
      |some p,some q=>some (p&&q)
      |_,_=>none
     |_,_=>none
    |none=>none) (some true) else none
   |_,_,_=>none
def zZ (p:Bool):AV→AV→AV
 |.d (.bool x),.d (.bool y)=>.d (.bool (bif p then x else y))
 |.any,.d (.bool y)=>bif p then .any else .d (.bool y)
 |_,_=>.any
def XC (op:UnOp) (x:AV):Option D:=
 match op,x with
 |.not,.d (.bool b)=>some (.bool (!b))
 |.neg,.d (.int k n)=>some (.int k (k.wrap (0-n)))
 |.xor,.d (.int k n)=>some (.int k (k.wrap (BitVec.ofInt k.bits (if k.signed then -1 else k.max) ^^^ BitVec.ofInt k.bits n).toNat))
 |_,_=>none
def rZ (b:UInt8):List D:=[.int .u8 b.toNat]
def sg:List D→UInt8
 |[.int _ n]=>UInt8.ofNat n.toNat
 |_=>0
def sj (r:List D):Prop:=∃n:Int,r=[.int .u8 n]
def chunk (sz:Nat):Nat→List D→List (List D)
 |0,_=>[]
 |n+1,ds=>ds.take sz::chunk sz n (ds.drop sz)
def Cp (ev:Operand→AV):Option Operand→Option (Option Int)
 |none=>some none
 |some x=>match ev x with
  |.d (.int _ n)=>some (some n)
  |_=>none
def iH {α:Type} (l:List α):Option Int→Option Int→List α
 |none,none=>l
 |some a,none=>l.drop a.toNat
 |none,some b=>l.take b.toNat
 |some a,some b=>(l.drop a.toNat).take (b.toNat-a.toNat)
def bN (n:Nat):Option Int→Option Int→Prop
 |none,none=>True
 |some a,none=>0≤a∧a≤n
 |none,some b=>0≤b∧b≤n
 |some a,some b=>0≤a∧a≤b∧b≤n
def qj (T:Nat→Option TI) (t:Nat) (x:AV) (lo hi mx:Option Int) (bx:List aA):Option R:=
 match T t with
 |some ti=>match ti.kd,x,mx with
  |.str,.d (.str s),none=>R.when (bN s.length lo hi) (.d (.str (iH s lo hi)))
  |.slice e,x,none=>match x.rows bx,T e with
   |some es,some te=>some ⟨bN es.length lo hi∧∀r∈es,r.length=te.size,.d (.sl (iH es lo hi)),bif cE [x] then none else some (x.cq bx)⟩
   |_,_=>none
  |.slice e,x,some m=>match x.rows bx,hi,T e with
   |some es,some h,some te=>some ⟨(bN es.length lo (some h)∧m=h)∧∀r∈es,r.length=te.size,.cl (iH es lo (some h)),bif cE [x] then none else some (x.cq bx)⟩
   |_,_,_=>none
  |.array n e,.ep ds,none=>match lo,hi,T e with
   |none,none,some te=>R.when (n*te.size≤ds.length) (.d (.sl (chunk te.size n ds)))
   |_,_,_=>none
  |.array n e,.ptr b 0,none=>match lo,hi,T e,bx[b]? with
   |none,none,some te,some (.var cs)=>match iU [] cs with
    |some ds=>some ⟨n*te.size≤ds.length,.d (.sl (chunk te.size n ds)),some (bx.set b .dead)⟩
    |none=>none
   |_,_,_,_=>none
  |_,_,_=>none
 |none=>none
def CU (sizes:Nat→Option (Nat×Nat)):List AV→List (Nat×AV)→Option (List AV)
 |cells,[]=>some cells
 |cells,(i,v)::rest=>match sizes i,v.cells? with
  |some (off,size),some vs=>bif Nat.beq vs.length size&&Nat.ble (off+vs.length) cells.length then
   CU sizes (eO cells off vs) rest else none
  |_,_=>none
def Ed (T:Nat→Option TI) (t:Nat) (parts:List (Nat×AV)):Option R:=
 match T t with
 |some ti=>match ti.zero.cells? with
  |some z=>match ti.kd with
   |.struct fs=>match CU (fun i=>match fs[i]? with|some (o,ft)=>(T ft).map fun x=>(o,x.size)|none=>none) z parts with
    |some cs=>R.pure (.agg cs)
    |none=>none
   |.array _ e=>match T e with
    |some te=>match CU (fun i=>some (i*te.size,te.size)) z parts with
     |some cs=>R.pure (.agg cs)
     |none=>none
    |none=>none
   |_=>none
  |none=>none
 |none=>none
def dQ (bx:List aA):List (Nat×AV)→List aA
 |[]=>bx
 |(_,v)::rest=>match v.cells? with
  |some vs=>dQ (eD bx vs) rest
  |none=>bx
def mW:Nat→List (Nat×AV)→Bool
 |_,[]=>true
 |i,(j,_)::r=>Nat.beq i j&&mW (i+1) r
def rowsOf (bx:List aA) (size:Nat):List (Nat×AV)→Option (List (List D))
 |[]=>some []
 |(_,v)::r=>match v.cells? with
  |some vs=>match iU bx vs,rowsOf bx size r with
   |some ds,some rs=>bif Nat.beq ds.length size then some (ds::rs) else none
   |_,_=>none
  |none=>none
def FM:List (Nat×AV)→Bool
 |[]=>true
 |(_,v)::r=>match v.cells? with
  |some vs=>cE vs&&FM r
  |none=>false
def gi (T:Nat→Option TI) (t n:Nat) (parts:List (Nat×AV)) (bx:List aA):Option R:=
 match T t with
 |some ti=>match ti.kd with
  |.slice e=>match T e with
   |some te=>bif Nat.beq parts.length n&&mW 0 parts&&Nat.ble (n*te.size) 16777216&&te.zero.cells?.isSome then
    match rowsOf bx te.size parts with
    |some rs=>some ⟨True,.cl rs,bif FM parts then none else some (dQ bx parts)⟩
    |none=>none
    else none
   |none=>none
  |_=>none
 |none=>none
def kQ (size:Nat) (x:AV) (bx:List aA):Option (List (List D)):=
 match x with
 |.d (.str b)=>bif Nat.beq size 1 then some (b.map rZ) else none
 |x=>x.rows bx
def sameBox (b:Nat):AV→Bool
 |.ow b2 _ _=>Nat.beq b b2
 |.vw b2 _ _ _ _ _=>Nat.beq b b2
 |_=>false
def eP (te:TI):Bool:=
 match te.zero.cells? with
 |some z=>Nat.beq z.length te.size&&Nat.blt 0 te.bytes&&Nat.blt 0 te.size
 |none=>false
def lD (T:Nat→Option TI) (t:Nat) (s x:AV) (bx:List aA):Option R:=
 match T t with
 |some ti=>match ti.kd with
  |.slice e=>match T e with
   |some te=>bif eP te then
    match kQ te.size x bx with
    |some xs=>match s with
     |.cl []=>some ⟨xs.length*te.bytes≤140737488355328∧(∀r∈xs,r.length=te.size),.ow bx.length te.size xs.length,some (bx++[.row te.size xs])⟩
     |.cl (e0::er)=>match xs with
      |[]=>none
      |x0::xr=>some ⟨((e0::er).length+(x0::xr).length)*te.bytes≤140737488355328∧(∀r∈(e0::er)++(x0::xr),r.length=te.size),
       .ow bx.length te.size ((e0::er).length+(x0::xr).length),some (bx++[.row te.size ((e0::er)++(x0::xr))])⟩
     |.ow b sz n=>match bx[b]? with
      |some (.row s2 es)=>bif sameBox b x then none else
       some ⟨s2=sz∧sz=te.size∧n=es.length∧(es.length+xs.length)*te.bytes≤140737488355328∧(∀r∈es++xs,r.length=te.size),
       .ow bx.length te.size (es.length+xs.length),some ((bx.set b .dead)++[.row te.size (es++xs)])⟩
      |_=>none
     |_=>none
    |none=>none
    else none
   |none=>none
  |_=>none
 |none=>none
def Ct (T:Nat→Option TI) (ev:Operand→AV):Op→Option (Prop×List (List D))
 |.call {callee:=.builtin b,args,argTypes}=>match b,args.toList,argTypes.toList with
  |.append,[x,y],[t,u]=>match T t,T u with
   |some ti,some tu=>match ti.kd,tu.kd with
    |.slice e,.slice _=>match T e with
     |some te=>bif eP te then match ev x,ev y with
      |.cl es,.cl (x0::xr)=>some ((es.length+(x0::xr).length)*te.bytes≤140737488355328∧(∀r∈es++(x0::xr),r.length=te.size),es++(x0::xr))
      |_,_=>none
      else none
     |none=>none
    |_,_=>none
   |_,_=>none
  |_,_,_=>none
 |_=>none
def xY (T:Nat→Option TI) (src dst:Nat) (x:AV) (bx:List aA):Option R:=
 match T src,T dst with
 |some ts,some td=>match ts.kd,td.kd,x with
  |_,.int k,.d (.int _ n)=>R.pure (.d (.int k (k.wrap n)))
  |.slice e,.str,x=>match T e,x.rows bx with
   |some te,some es=>match te.kd with
    |.int .u8=>R.when (∀r∈es,sj r) (.d (.str (es.map sg)))
    |_=>none
   |_,_=>none
  |.str,.str,.d (.str s)=>R.pure (.d (.str s))
  |_,_,_=>none
 |_,_=>none
def z6 (x:AV) (bx:List aA):Option AV:=
 match x with
 |.d (.sl es)=>some (.d (.int .i64 es.length))
 |.cl es=>some (.d (.int .i64 es.length))
 |.ow b sz n=>match (AV.ow b sz n).rows bx with
  |some es=>some (.d (.int .i64 es.length))
  |none=>none
 |.vw b sz off n c ex=>match (AV.vw b sz off n c ex).rows bx with
  |some es=>some (.d (.int .i64 es.length))
  |none=>none
 |_=>none
def iZ (T:Nat→Option TI) (b:Builtin) (args:List AV) (ats:List Nat) (bx:List aA):Option R:=
 match b,args,ats with
 |.len,[x],[t]=>match T t with
  |some ti=>match ti.kd,x with
   |.array n _,_=>R.pure (.d (.int .i64 n))
   |.str,.d (.str s)=>R.pure (.d (.int .i64 s.length))
   |.slice _,x=>match z6 x bx with
    |some v=>R.pure v
    |none=>none
   |_,_=>none
  |none=>none
 |.min,[.d (.int k x),.d (.int _ y)],_=>R.pure (.d (.int k (min x y)))
 |.max,[.d (.int k x),.d (.int _ y)],_=>R.pure (.d (.int k (max x y)))
 |.append,[s,x],[t,u]=>match T u with
  |some tu=>match tu.kd with
   |.int _=>none
   |_=>lD T t s x bx
  |none=>none
 |_,_,_=>none
def aV (lo:Option Int):Nat:=(lo.getD 0).toNat
def aP (len:Nat):Option Int→Nat
 |none=>len
 |some h=>h.toNat
def AV.uK:AV→Bool
 |.vw _ _ _ _ _ _=>true
 |_=>false
def je (ev:Operand→AV):Op→Bool
 |.slice _ x _ _ _=>(ev x).uK
 |.indexAddr _ x _=>(ev x).uK
 |.makeSlice _ _ _=>true
 |.call {callee:=.builtin b,args,..}=>match b,args.toList with
  |.copy,_=>true
  |.clear,_=>true
  |.cap,_=>true
  |.len,[x]=>(ev x).uK
  |.append,[x,_]=>(ev x).uK
  |_,_=>false
 |_=>false
def dR (n c:Nat) (lo hi:Option Int):Prop:=
 match hi with
 |none=>bN n lo none
 |some h=>bN c lo (some h)
def viewAt:AV→Option (Nat×Nat×Nat×Nat×Nat×Bool)
 |.vw b sz off n c ex=>some (b,sz,off,n,c,ex)
 |.ow b sz n=>some (b,sz,0,n,n,false)
 |_=>none
def mX (te:TI):Option (List D):=
 match te.zero.cells? with
 |some z=>iU [] z
 |none=>none
def elemOf (T:Nat→Option TI) (t:Nat):Option TI:=
 match T t with
 |some ti=>match ti.kd with
  |.slice e=>T e
  |_=>none
 |none=>none
def Ee (T:Nat→Option TI) (t:Nat):Option Bool:=
 match T t with
 |some ti=>match ti.kd with
  |.int _=>some true
  |_=>some false
 |none=>none
def wrote (es:List (List D)) (off:Nat) (xs:List (List D)):List (List D):=es.take off++xs++es.drop (off+xs.length)
def eR (es:List (List D)) (off k:Nat):Prop:=off≤es.length∧(es=[]→k=0)
def uL (size:Nat) (y:AV) (n:Nat) (bx:List aA):Option (Prop×Nat×List (List D)):=
 match y with
 |.vw b sz off n2 _ _=>match bx[b]? with
  |some (.row s es)=>bif Nat.beq s sz then some (off+min n2 n≤es.length,min n2 n,(es.drop off).take (min n2 n)) else none
  |some (.kP s es)=>bif Nat.beq s sz then some (off+min n2 n≤es.length,min n2 n,(es.drop off).take (min n2 n)) else none
  |_=>none
 |y=>match kQ size y bx with
  |some xs=>some (True,min xs.length n,xs.take (min xs.length n))
  |none=>none
def CV (te:TI) (x y:AV) (bx:List aA):Option R:=
 match viewAt x with
 |some (b,sz,off,n,_,_)=>match bx[b]?,uL te.size y n bx with
  |some (.row s es),some (cy,m,xs)=>bif Nat.beq s sz&&Nat.beq sz te.size then
   some ⟨cy∧eR es off m∧∀r∈xs,r.length=te.size,.d (.int .i64 m),
    some (bx.set b (.row sz (wrote es off xs)))⟩ else none
  |_,_=>none
 |none=>none
def Ef (te:TI) (x:AV) (bx:List aA):Option R:=
 match viewAt x with
 |some (b,sz,off,n,_,_)=>match bx[b]?,mX te with
  |some (.row s es),some z=>bif Nat.beq s sz&&Nat.beq sz te.size&&eP te then
   some ⟨eR es off n,.ek [],some (bx.set b (.row sz (wrote es off (List.replicate n z))))⟩ else none
  |_,_=>none
 |none=>none
def Lp (te:TI) (b sz off n c:Nat) (ex:Bool) (m:Int) (bx:List aA):Option R:=
 match bx[b]?,mX te with
 |some (.row s es),some z=>bif Nat.beq s sz&&Nat.beq sz te.size&&eP te&&ex then
  some ⟨0≤m∧c<n+m.toNat∧off+n≤es.length∧(n+m.toNat)*te.bytes≤140737488355328,
   .vw bx.length sz 0 (n+m.toNat) (n+m.toNat) false,some (bx++[.row sz ((es.drop off).take n++List.replicate m.toNat z)])⟩ else none
 |_,_=>none
def sn (te:TI) (b sz off n c:Nat) (ex:Bool) (y:AV) (bx:List aA):Option R:=
 match bx[b]?,kQ te.size y bx with
 |some (.row s es),some xs=>bif Nat.beq s sz&&Nat.beq sz te.size then
  some ⟨eR es (off+n) xs.length∧n+xs.length≤c∧∀r∈xs,r.length=te.size,.vw b sz off (n+xs.length) c ex,
   some (bx.set b (.row sz (wrote es (off+n) xs)))⟩ else none
 |_,_=>none
def whole (es:List (List D)) (off n c:Nat) (ex:Bool):Prop:=off=0∧n=es.length∧(es=[]→c=0∧ex=true)
def FN (te:TI) (n m:Int) (bx:List aA):Option R:=
 match mX te with
 |some z=>bif eP te then some ⟨0≤n∧n=m∧n.toNat*te.bytes≤140737488355328,.ow bx.length te.size n.toNat,some (bx++[.row te.size (List.replicate n.toNat z)])⟩ else none
 |none=>none
def mY (T:Nat→Option TI) (ev:Operand→AV) (o:Op) (bx:List aA):Option R:=
 match o with
 |.slice ty x lo hi mx=>match ev x,elemOf T ty,Cp ev lo,Cp ev hi,Cp ev mx with
  |.vw b sz off n c ex,some te,some l,some h,some none=>bif Nat.beq te.size sz then
   some ⟨dR n c l h,.vw b sz (off+aV l) (aP n h-aV l) (c-aV l) ex,none⟩ else none
  |.vw b sz off n c ex,some te,some l,some (some h),some (some m)=>bif Nat.beq te.size sz then
   some ⟨bN c l (some h)∧h≤m∧m≤c,.vw b sz (off+aV l) (h.toNat-aV l) (m.toNat-aV l) true,none⟩ else none
  |_,_,_,_,_=>none
 |.indexAddr ty x i=>match ev x,elemOf T ty,ev i with
  |.vw b sz off n _ _,some te,.d (.int _ z)=>bif Nat.beq te.size sz then some ⟨0≤z∧z<n,.rp b sz (off+z.toNat) 0,none⟩ else none
  |_,_,_=>none
 |.makeSlice ty a b=>match elemOf T ty,ev a,ev b with
  |some te,.d (.int .i64 n),.d (.int .i64 m)=>FN te n m bx
  |_,_,_=>none
 |.call {callee:=.builtin b,args,argTypes}=>match b,args.toList.map ev,argTypes.toList with
  |.len,[.vw _ _ _ n _ _],[ty]=>match elemOf T ty with
   |some _=>R.pure (.d (.int .i64 n))
   |none=>none
  |.cap,[.vw _ _ _ _ c true],[ty]=>match elemOf T ty with
   |some _=>R.pure (.d (.int .i64 c))
   |none=>none
  |.copy,[x,y],ty::_=>match elemOf T ty with
   |some te=>CV te x y bx
   |none=>none
  |.clear,[x],ty::_=>match elemOf T ty with
   |some te=>Ef te x bx
   |none=>none
  |.append,[.vw b sz off n c ex,y],[ty,u]=>match elemOf T ty,Ee T u with
   |some te,some true=>match y with
    |.d (.int .i64 m)=>Lp te b sz off n c ex m bx
    |_=>none
   |some te,some false=>bif sameBox b y then sn te b sz off n c ex y bx else
    match bx[b]?,lD T ty (.ow b sz n) y bx with
    |some (.row _ es),some ⟨c1,v,aL⟩=>some ⟨c1∧whole es off n c ex,v,aL⟩
    |_,_=>none
   |_,_=>none
  |_,_,_=>none
 |_=>none
def AV.isAgg:AV→Bool
 |.agg _=>true
 |_=>false
def j8:List AV→Bool
 |[]=>true
 |x::_=>x.sc||x.isAgg
def lE (T:Nat→Option TI) (ev:Operand→AV) (o:Op) (bx:List aA):Option R:=
 match o with
 |.move x=>R.pure (ev x)
 |.assign x=>R.pure (ev x)
 |.alloc t=>match T t with
  |some ti=>match ti.zero.cells? with
   |some cs=>some ⟨True,.ptr bx.length 0,some (bx++[.var cs])⟩
   |none=>none
  |none=>none
 |.box _ x=>match (ev x).cells? with
  |some cs=>some ⟨True,.ptr bx.length 0,some (bx++[.var cs])⟩
  |none=>none
 |.load t a=>match T t with
  |some ti=>pU ti (ev a) bx
  |none=>none
 |.store t a x=>match T t with
  |some ti=>tM ti (ev a) (ev x) bx
  |none=>none
 |.build t parts=>Ed T t (parts.toList.map fun p=>(p.1,ev p.2))
 |.buildSlice t n parts=>gi T t n (parts.toList.map fun p=>(p.1,ev p.2)) bx
 |.fieldAddr t x f=>match T t with
  |some ti=>match zY ti.kd f with
   |some (o,ft)=>match T ft with
    |some tf=>bif Nat.beq tf.size 0 then none else
     match ev x with
     |.ptr b off=>R.pure (.ptr b (off+o))
     |.rp b sz i j=>R.pure (.rp b sz i (j+o))
     |.ep ds=>R.when (o≤ds.length) (.ep (ds.drop o))
     |_=>none
    |none=>none
   |none=>none
  |none=>none
 |.indexAddr t x i=>match T t with
  |some ti=>match ti.kd,ev i with
   |.array n e,.d (.int _ z)=>match T e with
    |some te=>match ev x with
     |.ptr b off=>R.when (0≤z∧z<n) (.ptr b (off+z.toNat*te.size))
     |.rp b sz a j=>R.when (0≤z∧z<n) (.rp b sz a (j+z.toNat*te.size))
     |.ep ds=>R.when (0≤z∧z<n∧z.toNat*te.size≤ds.length) (.ep (ds.drop (z.toNat*te.size)))
     |_=>none
    |none=>none
   |.slice e,.d (.int _ z)=>match T e,ev x with
    |some te,.ow b sz n=>bif Nat.beq te.size sz then R.when (0≤z∧z<n) (.rp b sz z.toNat 0) else none
    |_,_=>none
   |_,_=>none
  |none=>none
 |.field t x f=>match T t with
  |some ti=>match zY ti.kd f with
   |some (o,ft)=>match T ft,ev x with
    |some tf,.agg cs=>match cH tf.kd.isAgg tf.size (cs.drop o) with
     |some v=>R.pure v
     |none=>none
    |_,_=>none
   |none=>none
  |none=>none
 |.index t x i=>match T t with
  |some ti=>match ti.kd,ev x,ev i with
   |.str,.d (.str s),.d (.int _ z)=>R.when (0≤z∧z<s.length) (.d (.int .u8 (s.getD z.toNat 0).toNat))
   |.array n e,.agg cs,.d (.int _ z)=>match T e with
    |some te=>match cH te.kd.isAgg te.size (cs.drop (z.toNat*te.size)) with
     |some v=>R.when (0≤z∧z<n) v
     |none=>none
    |none=>none
   |_,_,_=>none
  |none=>none
 |.extract x i=>match ev x with
  |.ek vs=>match vs[i]? with
   |some v=>R.pure v
   |none=>none
  |_=>none
 |.binOp op t x y _=>match ev x,ev y with
  |.agg xs,.agg ys=>match op with
   |.eql=>(Co T 8 t (.agg xs) (.agg ys)).bind fun d=>R.pure (.d (.bool d))
   |.neq=>(Co T 8 t (.agg xs) (.agg ys)).bind fun d=>R.pure (.d (.bool (!d)))
   |_=>none
  |.d (.bool p),.d (.bool q)=>match T t,op with
   |some ti,.eql=>match ti.kd with
    |.bool=>R.pure (.d (.bool (p==q)))
    |_=>none
   |some ti,.neq=>match ti.kd with
    |.bool=>R.pure (.d (.bool (!(p==q))))
    |_=>none
   |_,_=>none
  |.sS _ _,.k .nilIface=>match T t,op with
   |some ti,.eql=>match ti.kd with
    |.iface=>R.pure (.d (.bool false))
    |_=>none
   |some ti,.neq=>match ti.kd with
    |.iface=>R.pure (.d (.bool true))
    |_=>none
   |_,_=>none
  |.k .nilIface,.k .nilIface=>match y with
   |.const _=>match T t,op with
    |some ti,.eql=>match ti.kd with
     |.iface=>R.pure (.d (.bool true))
     |_=>none
    |some ti,.neq=>match ti.kd with
     |.iface=>R.pure (.d (.bool false))
     |_=>none
    |_,_=>none
   |_=>none
  |x,y=>match O4 op x y with
   |some (c,d)=>R.when c (.d d)
   |none=>none
 |.unOp op _ x=>(XC op (ev x)).bind fun d=>R.pure (.d d)
 |.convert s d x=>xY T s d (ev x) bx
 |.slice t x lo hi mx=>match Cp ev lo,Cp ev hi,Cp ev mx with
  |some l,some h,some m=>qj T t (ev x) l h m bx
  |_,_,_=>none
 |.makeFunc (.func f) first jU=>bif first.toList.isEmpty then (bif j8 (jU.toList.map ev) then R.pure (.fn f (jU.toList.map ev)) else none) else R.pure (.fn f (.ek (first.toList.map ev)::jU.toList.map ev))
 |.makeInterface t x=>match T t with
  |some ti=>bif ti.kd.plain then R.pure (.sS t (ev x)) else none
  |none=>none
 |.typeAssert x _ u ok=>match T u with
  |some tu=>bif tu.kd.plain&&tu.zero.cells?.isSome then
   match ev x with
   |.sS t v=>bif Nat.beq t u then R.pure (bif ok then .ek [v,.d (.bool true)] else v) else bif ok then R.pure (.ek [tu.zero,.d (.bool false)]) else none
   |.k .nilIface=>bif ok then R.pure (.ek [tu.zero,.d (.bool false)]) else none
   |_=>none
   else none
  |none=>none
 |.nilCheck x=>match ev x with
  |.ptr b o=>R.pure (.ptr b o)
  |.rp b s i j=>R.pure (.rp b s i j)
  |.ep ds=>R.pure (.ep ds)
  |.fn f cs=>R.pure (.fn f cs)
  |_=>none
 |.call {callee:=.builtin b,args,argTypes}=>iZ T b (args.toList.map ev) argTypes.toList bx
 |_=>none
def FH (T:Nat→Option TI) (ev:Operand→AV) (o:Op) (bx:List aA):Option R:=
 bif je ev o then mY T ev o bx else lE T ev o bx
def fz (bx:List aA):AV→Option AV
 |.cl es=>some (.d (.sl es))
 |.ow b sz n=>(AV.rY bx (.ow b sz n)).map AV.d
 |.vw b sz off n c ex=>((AV.vw b sz off n c ex).rows bx).map fun es=>.d (.sl es)
 |v=>some v
def IY (bx:List aA):List AV→Option (List AV)
 |[]=>some []
 |x::xs=>match fz bx x,IY bx xs with
  |some y,some ys=>some (y::ys)
  |_,_=>none
def qn (bx:List aA):AV→Option AV
 |.agg cs=>(IY bx cs).map .agg
 |v=>fz bx v
def l5 (bx:List aA):AV→List aA
 |.agg cs=>eD bx cs
 |v=>v.cq bx
def eS (bx:List aA):List AV→Option (List AV)
 |[]=>some []
 |x::xs=>match qn bx x,eS bx xs with
  |some y,some ys=>some (y::ys)
  |_,_=>none
def fy (bx:List aA):List AV→List aA
 |[]=>bx
 |x::xs=>fy (l5 bx x) xs
def AV.flat:AV→Bool
 |.d (.bool _)|.d (.int _ _)|.d (.str _)|.k _=>true
 |.agg cs=>z7 cs
 |.ek cs=>qo cs
 |_=>false
where
 z7:List AV→Bool
  |[]=>true
  |.d (.bool _)::r|.d (.int _ _)::r|.d (.str _)::r|.k _::r=>z7 r
  |_=>false
 qo:List AV→Bool
  |[]=>true
  |.d (.bool _)::r|.d (.int _ _)::r|.d (.str _)::r|.k _::r=>qo r
  |.agg cs::r=>z7 cs&&qo r
  |_=>false
def dG:List AV→Prop
 |[]=>True
 |x::xs=>x.ok∧dG xs
def fX (G:Nat→Option (List D)) (sl:List (Nat×AV)) (xs:List Operand):List AV:=xs.map (bV G sl)
def l6:AV→List AV→Option (Nat×List AV)
 |.fn f (.ek fs::jU),args=>some (f,fs++args++jU)
 |.fn f jU,args=>bif j8 jU then some (f,args++jU) else none
 |.d (.fn f),args=>some (f,args)
 |_,_=>none
def AV.shut:AV→Bool
 |.any|.d _|.k _|.ep _|.cl _=>true
 |.agg cs|.ek cs|.fn _ cs=>lu cs
 |.sS _ x|.cond _ x=>x.shut
 |.ptr _ _|.rp _ _ _ _|.ow _ _ _|.vw _ _ _ _ _ _|.zX _=>false
where
 lu:List AV→Bool
  |[]=>true
  |x::xs=>x.shut&&lu xs
def D.flat:D→Bool
 |.sl _=>false
 |.mp _ _=>false
 |_=>true
structure Lq (FC:Nat→List AV→List aA→iB→List aA→Prop) (f:Nat) (args:List AV) (bx:List aA)
 (K:AV→List aA→Prop) (Kp:AV→List aA→Prop):Prop where
 ok:∃args' qp res qq,(args'=args∧qp=bx∨eS bx args=some args'∧qp=fy bx args)∧FC f args' qp res qq∧
  (match res with|.ret v=>K v qq|.MK v=>Kp v qq)
structure FO (FC:Nat→List AV→List aA→iB→List aA→Prop) (f:Nat) (args:List AV) (bx:List aA)
 (K:AV→List aA→Prop):Prop where
 ok:∃args',eS bx args=some args'∧AV.shut.lu args'=true∧
  (
   (∃v,FC f args' [] (.ret v) []∧(v.flat=true∨eS [] args=some args'∧v.shut=true)∧K v bx)∨
   (∃sz n es,FC f args' [] (.ret (.ow 0 sz n)) [.row sz es]∧((∀r∈es,∀x∈r,x.flat=true)∨eS [] args=some args')∧K (.ow bx.length sz n) (bx++[.row sz es])))
structure O5 (FC:Nat→List AV→List aA→iB→List aA→Prop) (jV:Prop) (f:Nat) (args:List AV) (bx:List aA)
 (K:AV→List aA→Prop) (Kp:AV→List aA→Prop):Prop where
 ok:jV∧(FO FC f args bx K∨Lq FC f args bx K Kp)
mutual
def AV.loose (dt:Bool):AV→Bool
 |.any=>true
 |.d (.bool _)|.d (.int _ _)|.d (.str _)|.k _=>true
 |.d _=>dt
 |.ptr _ _=>true
 |.rp _ _ _ _=>true
 |.agg cs=>AV.ny dt cs
 |.fn _ cs=>AV.ny dt cs
 |.sS _ x=>AV.loose dt x
 |_=>false
def AV.ny (dt:Bool):List AV→Bool
 |[]=>true
 |x::xs=>bif AV.loose dt x then AV.ny dt xs else false
end
def O6 (bx:List aA) (i:Nat):Bool:=
 match bx[i]? with
 |some b=>b.born
 |none=>false
def AV.bL (bx:List aA):AV→Bool
 |.any|.d _|.k _|.ep _|.cl _=>true
 |.agg cs|.ek cs|.fn _ cs=>cW bx cs
 |.sS _ x|.cond _ x=>x.bL bx
 |.ptr b _|.rp b _ _ _|.ow b _ _|.vw b _ _ _ _ _|.zX b=>O6 bx b
where
 cW (bx:List aA):List AV→Bool
  |[]=>true
  |x::xs=>x.bL bx&&cW bx xs
def dS (dt:Bool) (bx:List aA):List aA→Bool
 |[]=>true
 |.var cs::r=>bif AV.ny dt cs&&AV.bL.cW bx cs then dS dt bx r else false
 |.dead::r=>dS dt bx r
 |.bq::r=>dS dt bx r
 |_::_=>false
structure mZ (FC:Nat→List AV→List aA→iB→List aA→Prop) (f:Nat) (args:List AV) (bx:List aA) (v:AV):Prop where
 ok:∃args' jS,eS bx args=some args'∧AV.bL.cW jS args'=true∧(∃dt,dS dt jS jS=true∧(dt=true→eS [] args=some args'))∧
  (∀(i:Nat) (b:aA),jS[i]?=some b→b.born=true→∃b',bx[i]?=some b'∧b'.born=true∧(b.live=true→b'=b))∧FC f args' jS (.ret v) jS∧
  (v.flat=true∨eS [] args=some args'∧v.shut=true)
structure U1 (FC:Nat→List AV→List aA→iB→List aA→Prop) (g:Bool) (jV:Prop) (f:Nat) (args:List AV) (bx:List aA)
 (K:AV→Prop):Prop where
 ok:∃v,(g=true→jV∧mZ FC f args bx v)∧K v
structure nK (g:Bool) (c:Prop) (ds:List D) (K:List D→Prop):Prop where
 ok:∃ds',(g=true→c∧ds=ds')∧K ds'
structure wH (v:AV) (A B:Unit→Prop):Prop where
 ok:match v with
 |.d (.bool p)=>(p=true→A ())∧(p=false→B ())
 |_=>False
structure Lr (IZ:Prop) (K:Bool→Prop):Prop where
 ok:∀b:Bool,(b=true→IZ)→K b
def ML:AV→Option Prop
 |.d (.sl es)=>some (es=[])
 |.cl es=>some (es=[])
 |.ow _ _ n=>some (n=0)
 |_=>none
structure O7 (str:List UInt8) (pos:Nat) (A:Nat→Nat→Prop) (B:Unit→Prop):Prop where
 ok:(pos<str.length→A (Utf8.decode ⟨str.toArray⟩ pos).1 (Utf8.decode ⟨str.toArray⟩ pos).2)∧(¬pos<str.length→B ())
def uM (K:St→Prop) (Q:Ex→St→Prop) (e:Ex) (s:St):Prop:=
 match e with
 |.normal=>K s
 |e=>Q e s
def z8 (T:Nat→Option TI) (t:Nat) (x i:AV):Option (Prop×List D):=
 match T t with
 |some ti=>match ti.kd,x,i with
  |.slice e,.d (.sl es),.d (.int _ z)=>match T e with
   |some te=>some (0≤z∧z<es.length∧(∀r∈es,r.length=te.size),es.getD z.toNat [])
   |none=>none
  |.slice e,.cl es,.d (.int _ z)=>match T e with
   |some te=>some (0≤z∧z<es.length∧(∀r∈es,r.length=te.size),es.getD z.toNat [])
   |none=>none
  |_,_,_=>none
 |none=>none
def nL:Kd→D→Bool
 |.int k,.int j _=>j==k
 |.str,.str _=>true
 |_,_=>false
def nM:D→D→Bool
 |.int j a,.int k b=>j==k&&decide (a=b)
 |.str a,.str b=>decide (a=b)
 |_,_=>false
def rowIs (kd:Kd) (n:Nat) (r:List D):Prop:=∃x ds,r=x::ds∧nL kd x=true∧ds.length=n
def qt:List (List D)→D→Option (List D)
 |[],_=>none
 |(x::ds)::r,k=>bif nM k x then some ds else qt r k
 |[]::r,k=>qt r k
def sU:List (List D)→D→List D→List (List D)
 |[],k,v=>[k::v]
 |(x::ds)::r,k,v=>bif nM k x then (k::v)::r else (x::ds)::sU r k v
 |[]::r,k,v=>[]::sU r k v
def Aa (T:Nat→Option TI) (t:Nat) (m:AV) (bx:List aA):Option (TI×TI×Bool×List (List D)):=
 match T t with
 |some ti=>match ti.kd with
  |.map k e=>match T k,T e,m with
   |some tk,some te,.d (.mp ag es)=>some (tk,te,ag,es)
   |some tk,some te,.k .Ec=>some (tk,te,te.kd.isAgg,[])
   |some tk,some te,.zX b=>match bx[b]? with
    |some (.mp ag es)=>some (tk,te,ag,es)
    |_=>none
   |_,_,_=>none
  |_=>none
 |none=>none
def wI (tk te:TI) (ag:Bool) (es:List (List D)) (k:D):Prop:=ag=te.kd.isAgg∧nL tk.kd k=true∧∀r∈es,rowIs tk.kd te.size r
structure Eg (g:Bool) (c:Prop) (o:Option (List D)) (K:Option (List D)→Prop):Prop where
 ok:∃o',(g=true→c∧o=o')∧K o'
def oG (te:TI) (Cq:Bool) (K:AV→Prop):Option (List D)→Prop
 |none=>match te.zero.cells? with
  |some _=>K (bif Cq then .ek [te.zero,.d (.bool false)] else te.zero)
  |none=>False
 |some ds=>match cH te.kd.isAgg te.size (ds.map .d) with
  |some v=>K (bif Cq then .ek [v,.d (.bool true)] else v)
  |none=>False
def Eh (T:Nat→Option TI) (t:Nat) (m:AV) (bx:List aA):Option (Nat×TI×TI×Bool×List (List D)):=
 match m,Aa T t m bx with
 |.zX b,some (tk,te,ag,es)=>some (b,tk,te,ag,es)
 |_,_=>none
section
variable (FC:Nat→List AV→List aA→iB→List aA→Prop) (T:Nat→Option TI) (G:Nat→Option (List D)) (N:Nat)
def qu (o:Oper) (s:St) (K:AV→List aA→Prop) (Q:Ex→St→Prop):Prop:=
 match o.op with
 |.pick c a b=>match (bV G s.sl c).aM with
  |.d (.bool p)=>((bV G s.sl c).ok∧(p=true→(bV G s.sl a).ok)∧(p=false→(bV G s.sl b).ok))∧K (zZ p (bV G s.sl a).aM (bV G s.sl b).aM) s.bx
  |_=>False
 |.call {callee:=.value f,args,..}=>match l6 (bV G s.sl f).aM (args.toList.map fun x=>(bV G s.sl x).aM) with
  |some (i,as)=>O5 FC ((bV G s.sl f).ok∧dG (fX G s.sl args.toList)) i as s.bx (fun v bx=>K v bx) (fun v bx=>Q (.panic v) ⟨[],bx⟩)
  |none=>False
 |.panic x=>match (bV G s.sl x).aM with
  |.sS t v=>(bV G s.sl x).ok∧Q (.panic (.sS t v)) ⟨[],s.bx⟩
  |_=>False
 |.range t x=>match T t with
  |some ti=>match ti.kd,(bV G s.sl x).aM with
   |.str,.d (.str str)=>(bV G s.sl x).ok∧K (.ptr s.bx.length 0) (s.bx++[.it str 0])
   |_,_=>False
  |none=>False
 |.next it true=>match (bV G s.sl it).aM with
  |.ptr b 0=>match s.bx[b]? with
   |some (.it str pos)=>(bV G s.sl it).ok∧O7 str pos (fun c wd=>K (.ek [.d (.bool true),.d (.int .i64 pos),.d (.int .i32 c)]) (s.bx.set b (.it str (pos+wd)))) (fun _=>K (.ek [.d (.bool false)]) s.bx)
   |_=>False
  |_=>False
 |.binOp .eql t x (.const (.slice none 0 0)) _=>match T t,ML (bV G s.sl x).aM with
  |some ti,some IZ=>match ti.kd with
   |.slice _=>(bV G s.sl x).ok∧Lr IZ (fun b=>K (.d (.bool b)) s.bx)
   |_=>False
  |_,_=>False
 |.binOp .neq t x (.const (.slice none 0 0)) _=>match T t,ML (bV G s.sl x).aM with
  |some ti,some IZ=>match ti.kd with
   |.slice _=>(bV G s.sl x).ok∧Lr IZ (fun b=>K (.d (.bool (!b))) s.bx)
   |_=>False
  |_,_=>False
 |.makeMap ty none=>match T ty with
  |some ti=>match ti.kd with
   |.map _ e=>match T e with
    |some te=>K (.zX s.bx.length) (s.bx++[.mp te.kd.isAgg []])
    |none=>False
   |_=>False
  |none=>False
 |.lookup ty m k Cq=>match Aa T ty (bV G s.sl m).aM s.bx,(bV G s.sl k).aM with
  |some (tk,te,ag,es),.d kd=>Eg true (((bV G s.sl m).ok∧(bV G s.sl k).ok)∧wI tk te ag es kd) (qt es kd) (oG te Cq (fun v=>K v s.bx))
  |_,_=>False
 |.mapUpdate ty m k x=>match Eh T ty (bV G s.sl m).aM s.bx,(bV G s.sl k).aM,(bV G s.sl x).aM.cells? with
  |some (b,tk,te,ag,es),.d kd,some vs=>match cE vs,iU s.bx vs with
   |true,some ds=>(((bV G s.sl m).ok∧(bV G s.sl k).ok∧(bV G s.sl x).ok)∧wI tk te ag es kd∧ds.length=te.size∧(bV G s.sl x).aM.isAgg=ag)∧K .any (s.bx.set b (.mp ag (sU es kd ds)))
   |_,_=>False
  |_,_,_=>False
 |op=>
  match (match op with|.indexAddr t x i=>z8 T t (bV G s.sl x).aM (bV G s.sl i).aM|_=>none) with
  |some (c,ds)=>nK true (dG (fX G s.sl op.operands.toList)∧c) ds (fun ds=>K (.ep ds) s.bx)
  |none=>match FH T (fun x=>(bV G s.sl x).aM) op s.bx with
   |some ⟨c,v,b⟩=>(dG (fX G s.sl op.operands.toList)∧c)∧K v (dN s.bx b)
   |none=>False
def CW (T:Nat→Option TI) (x:AV) (nm:String) (as:List AV):Option (Nat×List AV):=
 match x with
 |.sS t v=>match T t with
  |some ti=>match ti.inv with
   |some (n,i)=>if n=nm then some (i,v::as) else none
   |none=>none
  |none=>none
 |_=>none
def wJ (g:Bool) (o:Oper) (s:St) (K:AV→Prop):Prop:=
 match o.op with
 |.pick c a b=>match (bV G s.sl c).aM with
  |.d (.bool p)=>(g=true→((bV G s.sl c).ok∧(p=true→(bV G s.sl a).ok)∧(p=false→(bV G s.sl b).ok)))∧K (zZ p (bV G s.sl a).aM (bV G s.sl b).aM)
  |_=>False
 |.call {callee:=.value f,args,..}=>match l6 (bV G s.sl f).aM (args.toList.map fun x=>(bV G s.sl x).aM) with
  |some (i,as)=>U1 FC g ((bV G s.sl f).ok∧dG (fX G s.sl args.toList)) i as s.bx (fun v=>K v)
  |none=>False
 |.call {callee:=.invoke r nm,args,..}=>match CW T (bV G s.sl r).aM nm (args.toList.map fun x=>(bV G s.sl x).aM) with
  |some (i,as)=>U1 FC g ((bV G s.sl r).ok∧dG (fX G s.sl args.toList)) i as s.bx (fun v=>K v)
  |none=>False
 |op=>
  match (match op with|.indexAddr t x i=>z8 T t (bV G s.sl x).aM (bV G s.sl i).aM|_=>none) with
  |some (c,ds)=>nK g (dG (fX G s.sl op.operands.toList)∧c) ds (fun ds=>K (.ep ds))
  |none=>match FH T (fun x=>(bV G s.sl x).aM) op s.bx with
   |some ⟨c,v,none⟩=>(g=true→dG (fX G s.sl op.operands.toList)∧c)∧K v
   |_=>False
def stepG (g:Bool) (o:Oper) (s:St) (K:AV→Prop):Prop:=(g=false∧∃v,K v)∨wJ FC T G g o s K∨
 ∃c es,Ct T (fun x=>(bV G s.sl x).aM) o.op=some (c,es)∧(g=true→dG (fX G s.sl o.op.operands.toList)∧c)∧K (.d (.sl es))
def guardOf (sl:List (Nat×AV)) (ops:List Oper) (j:Nat) (want:Bool):Option Bool:=
 match ops[j]? with
 |some o=>match o.dst with
  |some t=>match fW t sl with
   |.d (.bool q)=>some (bif want then q else !q)
   |.cond g (.d (.bool q))=>some (g&&(bif want then q else !q))
   |_=>none
  |none=>none
 |none=>none
def tN (g:Bool) (o:Oper) (s:St) (K:AV→Prop):Prop:=
 match o.op with
 |.call {callee:=.value f,args,..}=>match l6 (bV G s.sl f).aM (args.toList.map fun x=>(bV G s.sl x).aM) with
  |some (i,as)=>∃v,(g=true→((bV G s.sl f).ok∧dG (fX G s.sl args.toList))∧FC i as s.bx (.ret v) s.bx)∧K v
  |none=>False
 |_=>False
def FP (ops:List Oper):List Oper→(Ex→St→Prop)→St→Prop
 |[],Q,s=>Q .normal s
 |o::rest,Q,s=>bif ic N o.dst then
  match o.guard with
  |none=>qu FC T G o s (fun v bx=>FP ops rest Q ⟨eN o.dst v s.sl,bx⟩) Q
  |some (j,want)=>match guardOf s.sl ops j want with
   |some g=>stepG FC T G g o s (fun v=>FP ops rest Q ⟨eN o.dst (.cond g v) s.sl,s.bx⟩)∨
    tN FC G g o s (fun v=>FP ops rest Q ⟨eN o.dst (.cond g v) s.sl,s.bx⟩)
   |none=>False
  else False
def so (acc:List Nat) (o:Oper):Nat:=
 o.after.toList.foldl (fun s e=>bif Region.binds .any e then s ||| 2^e.on ||| acc.getD e.on 0 else s) 0
def cg:List Oper→List Nat→List Nat
 |[],acc=>acc
 |o::r,acc=>cg r (acc++[so acc o])
def barrier (b:List Nat) (i:Nat):Bool:=
 Nat.beq (b.getD i 0) (2^i-1)&&(b.drop (i+1)).all (fun x=>x.testBit i)
def oH:List Oper→Nat
 |[]=>0
 |o::r=>(match o.op with|.alloc _=>1|.box _ _=>1|.call _=>1|_=>0)+oH r
def iC (T:Nat→Option TI) (G:Nat→Option (List D)) (sl:List (Nat×AV)) (o:Oper):Option (List AV):=
 match o.guard with
 |some _=>none
 |none=>match o.op with
  |.alloc t=>match T t with
   |some ti=>ti.zero.cells?
   |none=>none
  |.box _ x=>(bV G sl x).cells?
  |_=>none
def gr (ops:Array Oper) (b:List Nat):Nat→List Oper→Bool
 |_,[]=>true
 |i,o::r=>(o.after.toList.all fun e=>!Region.binds .any e||Nat.blt e.on i)&&sq ops (b.getD i 0) o i&&gr ops b (i+1) r
where
 sq (ops:Array Oper) (m:Nat) (o:Oper):Nat→Bool
  |0=>true
  |j+1=>(m.testBit j||(match ops[j]? with|some p=>p.apart ops o|none=>false))&&sq ops m o j
def fj (pre:List Nat) (i:Nat) (o:Oper):Oper:=
 bif pre.contains i then o else {o with after:=o.after++((pre.filter (fun p=>Nat.blt p i)).map (fun p=>({on:=p,ground:=.data}:Edge))).toArray}
def bI (pre:List Nat):Nat→List Oper→List Oper
 |_,[]=>[]
 |i,o::r=>fj pre i o::bI pre (i+1) r
def iI (ops:Array Oper):List Nat→List Nat→Bool
 |_,[]=>true
 |done,p::r=>match ops[p]? with
  |some o=>!done.contains p&&o.guard.isNone&&(o.after.all fun e=>!Region.binds .any e||done.contains e.on)&&
   ((List.range ops.size).all fun j=>Nat.beq j p||done.contains j||(match ops[j]? with|some q=>(q.after.any fun e=>Region.binds .any e&&Nat.beq e.on p)||o.apart ops q|none=>true))&&iI ops (p::done) r
  |none=>false
def l7 (ops:Array Oper):Bool:=ops.all fun o=>match o.op with|.select _ _=>false|_=>true
def SI (G:Nat→Option (List D)) (sl:List (Nat×AV)) (o:Oper):Option AV:=
 match o.op with
 |.move x=>some (bV G sl x)
 |.binOp .add _ x y _=>match bV G sl x,bV G sl y with
  |.d (.int k a),.d (.int k' b)=>bif k==k' then some (.d (.int k (k.wrap (a+b)))) else none
  |_,_=>none
 |.binOp .sub _ x y _=>match bV G sl x,bV G sl y with
  |.d (.int k a),.d (.int k' b)=>bif k==k' then some (.d (.int k (k.wrap (a-b)))) else none
  |_,_=>none
 |_=>none
def CX (G:Nat→Option (List D)) (N:Nat) (ops:List Oper):List Nat→List (Nat×AV)→Bool
 |[],_=>true
 |p::r,sl=>match ops[p]? with
  |some o=>match SI G sl o with
   |some v=>ic N o.dst&&CX G N ops r (eN o.dst v sl)
   |none=>false
  |none=>false
def Ab:Op→Bool
 |.move _=>true
 |.extract _ _=>true
 |_=>false
def Ei (ops:Array Oper) (p:Nat) (o:Oper):Bool:=
 match ops[p]? with
 |some q=>q.after.all fun e=>!Region.binds .any e||o.after.any fun e'=>Region.binds .any e'&&Nat.beq e'.on e.on
 |none=>false
def kG (ops:Array Oper) (late:List Nat) (i:Nat) (o:Oper):Oper:=
 bif late.contains i then o else {o with after:=o.after++((late.filter (fun p=>Nat.blt p i&&Ei ops p o)).map (fun p=>({on:=p,ground:=.data}:Edge))).toArray}
def gy (ops:Array Oper) (late:List Nat):Nat→List Oper→List Oper
 |_,[]=>[]
 |i,o::r=>kG ops late i o::gy ops late (i+1) r
def su (ops:Array Oper) (late:List Nat):Bool:=
 late.all fun p=>match ops[p]? with
  |some o=>Ab o.op&&o.guard.isNone&&((List.range ops.size).all fun j=>Nat.beq j p||(o.after.any fun e=>Region.binds .any e&&Nat.beq e.on j)||(match ops[j]? with|some q=>(q.after.any fun e=>Region.binds .any e&&Nat.beq e.on p)||o.apart ops q|none=>true))
  |none=>false
def SJ (u:Nat) (v:AV):List (Nat×AV)→List (Nat×AV)
 |[]=>[(u,v)]
 |(s,x)::r=>bif Nat.beq u s then (u,v)::r else bif Nat.blt u s then (u,v)::(s,x)::r else (s,x)::SJ u v r
def Cu:List (Nat×AV)→List (Nat×AV)
 |[]=>[]
 |(u,v)::r=>SJ u v (Cu r)
structure Nd where
 ls:List Bool
 ps:List (Nat×Nat)
def O8 (k i:Nat):List (Nat×Nat)→Bool
 |[]=>false
 |(p,j)::r=>(Nat.beq p k&&Nat.beq j i)||O8 k i r
def XD:List Bool→List Bool→Bool
 |[],[]=>true
 |a::l,b::m=>(a==b)&&XD l m
 |_,_=>false
def O9 (ops:Array Oper) (pl:List Nd) (z:Nat):Nat→List Nd→Bool
 |_,[]=>true
 |k,nd::r=>(match Region.ready .any ops nd.ls.toArray with
  |[]=>Nat.beq k z
  |rs=>rs.all fun i=>Nat.blt i nd.ls.length&&(nd.ls.getD i true==false)&&pl.any fun e=>XD e.ls (nd.ls.set i true)&&O8 k i e.ps)&&O9 ops pl z (k+1) r
def Ls (ops:Array Oper) (pl:List Nd):Bool:=O9 ops pl pl.length 0 (⟨List.replicate ops.size false,[]⟩::pl)
inductive OT where
 |done
 |one (i:Nat) (t:OT)
 |more (i:Nat) (t r:OT)
def OT.Lt:OT→List Nat
 |.done=>[]
 |.one i _=>[i]
 |.more i _ r=>i::r.Lt
def OT.depth:OT→Nat
 |.done=>0
 |.one _ t=>t.depth+1
 |.more _ t r=>max (t.depth+1) r.depth
def OT.fit (ops:Array Oper):OT→Bool→Array Bool→Bool
 |.done,top,listed=>!top||(Region.ready .any ops listed).isEmpty
 |.one i t,top,listed=>(!top||Region.ready .any ops listed==[i])&&t.fit ops true (listed.setIfInBounds i true)
 |.more i t r,top,listed=>(!top||Region.ready .any ops listed==i::r.Lt)&&(t.fit ops true (listed.setIfInBounds i true)&&r.fit ops false listed)
def OT.fits (tr:OT) (pre:List Nat) (ops:List Oper):Bool:=Nat.ble tr.depth ops.length&&tr.fit (bI pre 0 ops).toArray true (Array.replicate ops.length false)
structure Lu (ops:List Oper):Prop where
 ok:gr ops.toArray (cg ops []) 0 ops=true
def l8 (o:Oper) (sl:List (Nat×AV)) (iw:List aA) (x:Nat) (K:AV→aA→Prop):Prop:=
 ∃f args ats i as args' sz n es,o.op=.call {callee:=.value f,args:=args,argTypes:=ats}∧l6 (bV G sl f).aM (args.toList.map fun x=>(bV G sl x).aM)=some (i,as)∧
  ((bV G sl f).ok∧dG (fX G sl args.toList))∧eS iw as=some args'∧AV.shut.lu args'=true∧FC i args' [] (.ret (.ow 0 sz n)) [.row sz es]∧
  ((∀r∈es,∀x∈r,x.flat=true)∨eS [] as=some args')∧iw[x]?=some .bq∧K (.ow x sz n) (.row sz es)
def nN (ops:List Oper) (b:List Nat) (base:Nat):List aA→Nat→Nat→List Oper→(Ex→St→Prop)→St→Prop
 |_,_,_,[],Q,s=>Q .normal s
 |iw,k,i,o::rest,Q,s=>bif ic N o.dst then
  bif barrier b i then match o.guard with
   |none=>qu FC T G o s (fun v bx=>nN ops b base bx k (i+1) rest Q ⟨eN o.dst v s.sl,bx⟩) Q
   |some (j,want)=>match guardOf s.sl ops j want with
    |some g=>stepG FC T G g o s (fun v=>nN ops b base s.bx k (i+1) rest Q ⟨eN o.dst (.cond g v) s.sl,s.bx⟩)
    |none=>False
  else match iC T G s.sl o with
   |some cs=>match iw[base+k]? with
    |some .bq=>nN ops b base iw (k+1) (i+1) rest Q ⟨eN o.dst (.ptr (base+k) 0) s.sl,s.bx.set (base+k) (.var cs)⟩
    |_=>False
   |none=>match o.guard with
    |none=>stepG FC T G true o ⟨s.sl,iw⟩ (fun v=>nN ops b base iw k (i+1) rest Q ⟨eN o.dst v s.sl,s.bx⟩)∨
     l8 FC G o s.sl iw (base+k) (fun v B=>nN ops b base iw (k+1) (i+1) rest Q ⟨eN o.dst v s.sl,s.bx.set (base+k) B⟩)
    |some (j,want)=>match guardOf s.sl ops j want with
     |some g=>stepG FC T G g o ⟨s.sl,iw⟩ (fun v=>nN ops b base iw k (i+1) rest Q ⟨eN o.dst (.cond g v) s.sl,s.bx⟩)
     |none=>False
  else False
def xZ (ops:List Oper) (i:Nat) (K:St→Prop) (Q:Ex→St→Prop) (s:St):Prop:=match ops[i]? with
 |some o=>bif ic N o.dst then match o.guard with
  |none=>qu FC T G o s (fun v bx=>K ⟨eN o.dst v s.sl,bx⟩) Q
  |some (j,want)=>match guardOf s.sl ops j want with
   |some g=>wH (.d (.bool g)) (fun _=>qu FC T G o s (fun v bx=>K ⟨eN o.dst (.cond true v) s.sl,bx⟩) Q) (fun _=>K ⟨eN o.dst (.cond false .any) s.sl,s.bx⟩)
   |none=>False
  else False
 |none=>False
def MM (ops:List Oper) (Q:Ex→St→Prop) (R:St→Prop):OT→St→Prop
 |.done,s=>R s
 |.one i o,s=>xZ FC T G N ops i (MM ops Q R o) Q s
 |.more i o r,s=>xZ FC T G N ops i (MM ops Q R o) Q s∧MM ops Q R r s
def U2 (ops:List Oper) (Q:Ex→St→Prop) (s:St):Prop:=
 ∃(pre:List Nat) (tr:OT) (s1:St),(iI ops.toArray [] pre=true∧l7 ops.toArray=true∧CX G N ops pre s.sl=true)∧tr.fits pre ops=true∧MM FC T G N ops Q (fun s=>(⟨Cu s.sl,s.bx⟩:St)=s1) tr s∧Q .normal s1
def FQ (ops:List Oper) (Q:Ex→St→Prop) (S:List St) (s:St):List (Nat×Nat)→Prop
 |[]=>True
 |(p,i)::r=>(match S[p]? with|some s0=>xZ FC T G N ops i (fun s1=>(⟨Cu s1.sl,s1.bx⟩:St)=s) Q s0|none=>False)∧FQ ops Q S s r
def allM (ops:List Oper) (Q:Ex→St→Prop) (S:List St):Nat→List Nd→Prop
 |_,[]=>True
 |k,nd::r=>(match S[k]? with|some s=>FQ FC T G N ops Q S s nd.ps|none=>False)∧allM ops Q S (k+1) r
def x5 (ks:List Nat):List (Nat×AV)→List (Nat×AV)
 |[]=>[]
 |(u,v)::r=>bif ks.contains u then (u,v)::x5 ks r else x5 ks r
def U3 (ops:List Oper) (Q:Ex→St→Prop) (s:St):Prop:=
 ∃(pl:List Nd) (S:List St) (s1 s0:St),Ls ops.toArray pl=true∧(S[0]?=some s0∧(s0=s∨∃ks,s0=⟨x5 ks s.sl,s.bx⟩))∧S[pl.length]?=some s1∧allM FC T G N ops Q S 1 pl∧Q .normal s1
def Pb (ops:List Oper) (Q:Ex→St→Prop) (s:St):Prop:=U2 FC T G N ops Q s∨U3 FC T G N ops Q s∨
 ∃pre late:List Nat,((pre=[]∧late=[])∨(iI ops.toArray [] pre=true∧l7 ops.toArray=true∧su (bI pre 0 ops).toArray late=true∧CX G N ops pre s.sl=true))∧Lu (gy (bI pre 0 ops).toArray late 0 (bI pre 0 ops))∧
  nN FC T G N ops (cg (gy (bI pre 0 ops).toArray late 0 (bI pre 0 ops)) []) s.bx.length (s.bx++List.replicate (oH ops) .bq) 0 0 ops Q ⟨s.sl,s.bx++List.replicate (oH ops) .bq⟩
end
def Cv (T:Nat→Option TI) (sl:List (Nat×AV)) (bx:List aA):List ResultVar→Option (Prop×List AV)
 |[]=>some (True,[])
 |.tmp t::r=>match Cv T sl bx r with
  |some (c,vs)=>some ((fW t sl).ok∧c,(fW t sl).aM::vs)
  |none=>none
 |.cell t ty::r=>match T ty,Cv T sl bx r with
  |some ti,some (c,vs)=>match fW t sl with
   |.ptr b o=>match pU ti (.ptr b o) bx with
    |some ⟨c',v,_⟩=>some (c'∧c,v::vs)
    |none=>none
   |_=>none
  |_,_=>none
def CY:List AV→AV
 |[v]=>v
 |vs=>.ek vs
def I5 (bx:List aA):AV→Option AV
 |.ek vs=>(eS bx vs).map .ek
 |v=>qn bx v
def tg (bx:List aA):AV→List aA
 |.ek vs=>fy bx vs
 |v=>l5 bx v
def AV.within (n:Nat):AV→Bool
 |.any|.d _|.k _|.ep _|.cl _=>true
 |.agg cs|.ek cs|.fn _ cs=>sw n cs
 |.sS _ x|.cond _ x=>x.within n
 |.ptr b _|.rp b _ _ _|.ow b _ _|.vw b _ _ _ _ _|.zX b=>Nat.blt b n
where
 sw (n:Nat):List AV→Bool
  |[]=>true
  |x::xs=>x.within n&&sw n xs
def bX (n:Nat):List aA→Bool
 |[]=>true
 |.var cs::r=>AV.within.sw n cs&&bX n r
 |_::r=>bX n r
def kill:List Bool→List aA→List aA
 |[],bs=>bs
 |_,[]=>[]
 |k::ks,b::bs=>(bif k&&b.born then .dead else b)::kill ks bs
structure U4 (n:Nat) (c:Prop) (v:AV) (bx:List aA) (res:iB) (aL:List aA):Prop where
 ok:c∧((res=.ret v∧aL=bx)∨
  (∃ks u,I5 bx v=some u∧u.within n=true∧aL=(kill ks (tg bx v)).take n∧bX n aL=true∧res=.ret u)∨
  (∃k sz m es,v=.ow k sz m∧bx[k]?=some (.row sz es)∧n≤k∧n≤bx.length∧bX n (bx.take n)=true∧res=.ret (.ow n sz m)∧aL=bx.take n++[.row sz es])∨
  (∃sz,v=.cl []∧n≤bx.length∧bX n (bx.take n)=true∧res=.ret (.ow n sz 0)∧aL=bx.take n++[.row sz []]))
structure U5 (v:AV) (bx:List aA) (res:iB) (aL:List aA):Prop where
 ok:res=.MK v∧aL=bx
def Lv (T:Nat→Option TI) (results:List ResultVar) (n:Nat) (res:iB) (aL:List aA):Ex→St→Prop
 |.exit _,_=>False
 |.panic v,s=>U5 v s.bx res aL
 |_,s=>match Cv T s.sl s.bx results with
  |some (c,vs)=>U4 n c (CY vs) s.bx res aL
  |none=>False
def nO:Nat→List AV→List (Nat×AV)
 |_,[]=>[]
 |i,x::xs=>(i,x)::nO (i+1) xs
end Dem
end
section
open Go
namespace Dem
def kR (es:Array MapEntry) (clock:Nat):Prop:=es.all (·.born<clock)=true∧(es.toList.map (·.born)).Nodup
mutual
def aJ (w:World) (ok:Nat→Prop):D→Value→Prop
 |.bool b,v=>v=.bool b
 |.int k n,v=>v=.int k n
 |.str s,v=>v=.string ⟨s.toArray⟩
 |.sl es,v=>∃base cap,v=.slice base es.length cap∧es.length≤cap∧
  (es=[]∨∃blk off sz,base=some ⟨blk,off,none⟩∧ok blk∧ay w ok blk sz es off)
 |.fn f,v=>v=.func (.func f) #[] #[]
 |.mp ag es,v=>∃blk ms clock,v=.map (some blk)∧ok blk∧w.heap[blk]?=some (.map ms clock)∧kR ms clock∧aZ w ok ag es ms.toList
def aX (w:World) (ok:Nat→Prop) (blk:Nat):List D→Nat→Prop
 |[],_=>True
 |x::xs,off=>(∃u,w.cell? ⟨blk,off,none⟩=some u∧aJ w ok x u)∧aX w ok blk xs (off+1)
def ay (w:World) (ok:Nat→Prop) (blk sz:Nat):List (List D)→Nat→Prop
 |[],_=>True
 |r::rs,off=>r.length=sz∧aX w ok blk r off∧ay w ok blk sz rs (off+sz)
def aZ (w:World) (ok:Nat→Prop) (ag:Bool):List (List D)→List MapEntry→Prop
 |[],ms=>ms=[]
 |r::rs,ms=>∃m FI,ms=m::FI∧gM w ok ag r m∧aZ w ok ag rs FI
def gM (w:World) (ok:Nat→Prop) (ag:Bool):List D→MapEntry→Prop
 |[],_=>False
 |k::ds,m=>aJ w ok k m.key∧∃cs,m.val=(bif ag then .agg ⟨cs⟩ else cs.headD undef)∧(ag=false→cs.length=1)∧cC w ok ds cs
def cC (w:World) (ok:Nat→Prop):List D→List Value→Prop
 |[],vs=>vs=[]
 |d::ds,vs=>∃v r,vs=v::r∧aJ w ok d v∧cC w ok ds r
end
def jg (w w':World) (ok ok':Nat→Prop):Prop:=∀blk,ok blk→ok' blk∧w'.heap[blk]?=w.heap[blk]?
theorem nA {w w':World} {blk:Nat} (h:w'.heap[blk]?=w.heap[blk]?) (off:Nat) (sp:Option Nat):w'.cell? ⟨blk,off,sp⟩=w.cell? ⟨blk,off,sp⟩:=by
 simp only [World.cell?,h]
theorem jg.cell {w w':World} {ok ok':Nat→Prop} (h:jg w w' ok ok') {blk:Nat} (hb:ok blk) (off:Nat):w'.cell? ⟨blk,off,none⟩=w.cell? ⟨blk,off,none⟩:=nA (h blk hb).2 off _
mutual
theorem aJ.mono {w w':World} {ok ok':Nat→Prop} (h:jg w w' ok ok'):∀(x:D) (v:Value),aJ w ok x v→aJ w' ok' x v
 |.bool b,v,hv=>by simpa [aJ] using hv
 |.int k n,v,hv=>by simpa [aJ] using hv
 |.str s,v,hv=>by simpa [aJ] using hv
 |.sl es,v,hv=>by
  simp only [aJ] at hv ⊢
  obtain ⟨base,cap,h1,h2,h3⟩:=hv
  refine ⟨base,cap,h1,h2,h3.imp id ?_⟩
  rintro ⟨blk,off,sz,e1,e2,e3⟩
  exact ⟨blk,off,sz,e1,(h blk e2).1,ay.mono h blk sz (h.cell e2) es off e3⟩
 |.fn f,v,hv=>by simpa [aJ] using hv
 |.mp ag es,v,hv=>by
  simp only [aJ] at hv ⊢
  obtain ⟨blk,ms,clock,h1,h2,h3,h4,h5⟩:=hv
  exact ⟨blk,ms,clock,h1,(h blk h2).1,by rw [(h blk h2).2];exact h3,h4,aZ.mono h ag es _ h5⟩
theorem aX.mono {w w':World} {ok ok':Nat→Prop} (h:jg w w' ok ok') (blk:Nat) (hb:∀off,w'.cell? ⟨blk,off,none⟩=w.cell? ⟨blk,off,none⟩):∀(xs:List D) (off:Nat),aX w ok blk xs off→aX w' ok' blk xs off
 |[],_,_=>by simp [aX]
 |x::xs,off,hv=>by
  simp only [aX] at hv ⊢
  obtain ⟨⟨u,h1,h2⟩,h3⟩:=hv
  exact ⟨⟨u,by rw [hb];exact h1,aJ.mono h x u h2⟩,aX.mono h blk hb xs _ h3⟩
theorem ay.mono {w w':World} {ok ok':Nat→Prop} (h:jg w w' ok ok') (blk sz:Nat) (hb:∀off,w'.cell? ⟨blk,off,none⟩=w.cell? ⟨blk,off,none⟩):∀(rs:List (List D)) (off:Nat),ay w ok blk sz rs off→ay w' ok' blk sz rs off
 |[],_,_=>by simp [ay]
 |r::rs,off,hv=>by
  simp only [ay] at hv ⊢
  exact ⟨hv.1,aX.mono h blk hb r _ hv.2.1,ay.mono h blk sz hb rs _ hv.2.2⟩
theorem aZ.mono {w w':World} {ok ok':Nat→Prop} (h:jg w w' ok ok') (ag:Bool):∀(rs:List (List D)) (ms:List MapEntry),aZ w ok ag rs ms→aZ w' ok' ag rs ms
 |[],_,hv=>by simpa [aZ] using hv
 |r::rs,ms,hv=>by
  simp only [aZ] at hv ⊢
  obtain ⟨m,FI,h1,h2,h3⟩:=hv
  exact ⟨m,FI,h1,gM.mono h ag r m h2,aZ.mono h ag rs FI h3⟩
theorem gM.mono {w w':World} {ok ok':Nat→Prop} (h:jg w w' ok ok') (ag:Bool):∀(r:List D) (m:MapEntry),gM w ok ag r m→gM w' ok' ag r m
 |[],_,hv=>by simp [gM] at hv
 |k::ds,m,hv=>by
  simp only [gM] at hv ⊢
  obtain ⟨h1,cs,h2,h3,h4⟩:=hv
  exact ⟨aJ.mono h k _ h1,cs,h2,h3,cC.mono h ds cs h4⟩
theorem cC.mono {w w':World} {ok ok':Nat→Prop} (h:jg w w' ok ok'):∀(ds:List D) (vs:List Value),cC w ok ds vs→cC w' ok' ds vs
 |[],_,hv=>by simpa [cC] using hv
 |d::ds,vs,hv=>by
  simp only [cC] at hv ⊢
  obtain ⟨v,r,h1,h2,h3⟩:=hv
  exact ⟨v,r,h1,aJ.mono h d v h2,cC.mono h ds r h3⟩
end
def bf (β:Nat→Nat) (bx:List aA) (w:World) (X:Nat→Prop) (blk:Nat):Prop:=
 blk<w.heap.size∧¬X blk∧∀i b,bx[i]?=some b→b.live=true→β i≠blk
def Ac (f:Nat):List Value→Value
 |.tuple fs::vs=>.func (.func f) fs ⟨vs⟩
 |vs=>.func (.func f) #[] ⟨vs⟩
theorem FR (f:Nat) (vs:List Value):∃a b,Ac f vs=.func (.func f) a b:=by unfold Ac;split<;>exact ⟨_,_,rfl⟩
mutual
def aj (β:Nat→Nat) (bx:List aA) (w:World) (ok:Nat→Prop):AV→Value→Prop
 |.any,_=>True
 |.d x,v=>aJ w ok x v
 |.k c,v=>v=c.val
 |.agg cs,v=>∃vs,v=.agg ⟨vs⟩∧ak β bx w ok cs vs
 |.ek cs,v=>∃vs,v=.tuple ⟨vs⟩∧ak β bx w ok cs vs
 |.ptr b off,v=>v=.pointer (some ⟨β b,off,none⟩)∧bT bx b
 |.rp b sz i j,v=>v=.pointer (some ⟨β b,i*sz+j,none⟩)∧bT bx b
 |.ep ds,v=>∃blk off,v=.pointer (some ⟨blk,off,none⟩)∧ok blk∧aX w ok blk ds off
 |.ow b sz n,v=>bT bx b∧((n=0∧∃base,v=.slice base 0 0)∨
  (n≠0∧∃cap c e f,v=.slice (some ⟨β b,0,none⟩) n cap∧n≤cap∧w.heap[β b]?=some (.cells c e f)∧cap*sz≤c.size))
 |.cl es,v=>∃base,v=.slice base es.length es.length∧(es=[]∨∃blk off sz,base=some ⟨blk,off,none⟩∧ok blk∧ay w ok blk sz es off)
 |.fn f jU,v=>∃vs,v=Ac f vs∧ak β bx w ok jU vs
 |.sS t x,v=>∃u,v=.iface t u∧aj β bx w ok x u
 |.cond p x,v=>(p=true→aj β bx w ok x v)∧(p=false→v=undef)
 |.vw b sz off n c ex,v=>bT bx b∧∃base cap cs e f,v=.slice base n cap∧n≤cap∧c≤cap∧(ex=true→cap=c)∧(cap=0∨base=some ⟨β b,off*sz,none⟩∧w.heap[β b]?=some (.cells cs e f)∧(off+cap)*sz≤cs.size)
 |.zX b,v=>v=.map (some (β b))∧bT bx b
def ak (β:Nat→Nat) (bx:List aA) (w:World) (ok:Nat→Prop):List AV→List Value→Prop
 |[],vs=>vs=[]
 |x::xs,vs=>∃u us,vs=u::us∧aj β bx w ok x u∧ak β bx w ok xs us
end
def dm (β:Nat→Nat) (bx:List aA) (w:World) (ok:Nat→Prop):aA→Nat→Prop
 |.var cs,blk=>∃c e,w.heap[blk]?=some (.cells c e (0,0))∧ak β bx w ok cs c.toList
 |.row sz es,blk=>es=[]∨∃c e,w.heap[blk]?=some (.cells c e (0,0))∧ay w ok blk sz es 0
 |.kP sz es,blk=>es=[]∨(ok blk∧ay w ok blk sz es 0)
 |.it s pos,blk=>w.heap[blk]?=some (.stringIter ⟨s.toArray⟩ pos)
 |.mp ag es,blk=>∃ms clock,w.heap[blk]?=some (.map ms clock)∧kR ms clock∧aZ w ok ag es ms.toList
 |.dead,_=>True
 |.bq,_=>True
structure cF (G:Nat→Option (List D)) (β:Nat→Nat) (bx:List aA) (w:World) (X:Nat→Prop):Prop where
 xs:∀blk,X blk→blk<w.heap.size
 zo:∀g ds,G g=some ds→bf β bx w X g∧aX w (bf β bx w X) g ds 0
 inj:∀i j bi bj,bx[i]?=some bi→bx[j]?=some bj→bi.live=true→bj.live=true→β i=β j→i=j
 box:∀i b,bx[i]?=some b→dm β bx w (bf β bx w X) b (β i)
 apart:∀i b,bx[i]?=some b→b.live=true→¬X (β i)
structure Ext (β:Nat→Nat) (bx:List aA) (w:World) (β':Nat→Nat) (aL:List aA) (w':World):Prop where
 os:w'.os=w.os
 tape:w'.tape=w.tape
 output:w'.output=w.output
 size:w.heap.size≤w'.heap.size
 block:∀k,k<w.heap.size→(∀i b,bx[i]?=some b→b.live=true→β i≠k)→w'.heap[k]?=w.heap[k]?
 shape:∀(k:Nat) (c:Array Value) (e:TypeId) (f:Nat×Nat),w.heap[k]?=some (.cells c e f)→∃c',w'.heap[k]?=some (.cells c' e f)∧c'.size=c.size
 born:∀i,bT bx i→β' i=β i∧bT aL i
 live:∀i b,aL[i]?=some b→b.live=true→w.heap.size≤β' i∨∃j b',bx[j]?=some b'∧b'.live=true∧β j=β' i
theorem Ext.refl (β:Nat→Nat) (bx:List aA) (w:World):Ext β bx w β bx w:=
 ⟨rfl,rfl,rfl,Nat.le_refl _,fun _ _ _=>rfl,fun _ c _ _ h=>⟨c,h,rfl⟩,fun _ h=>⟨rfl,h⟩,fun i b h1 h2=>.inr ⟨i,b,h1,h2,rfl⟩⟩
theorem sx {b:aA} (h:b.live=true):b.born=true:=by cases b<;>simp_all [aA.live,aA.born]
theorem Ext.trans {β β' β'':Nat→Nat} {bx aL Pc:List aA} {w w' w'':World} (h:Ext β bx w β' aL w') (g:Ext β' aL w' β'' Pc w''):Ext β bx w β'' Pc w'':=by
 refine ⟨g.os.trans h.os,g.tape.trans h.tape,g.output.trans h.output,Nat.le_trans h.size g.size,?_,?_,?_,?_⟩
 ·intro k hk hl
  rw [g.block k (Nat.lt_of_lt_of_le hk h.size),h.block k hk hl]
  intro i b hb hlv he
  rcases h.live i b hb hlv with h1|⟨j,b',h1,h2,h3⟩
  ·omega
  exact hl j b' h1 h2 (h3.trans he)
 ·intro k c e f hk
  obtain ⟨c',h1,h2⟩:=h.shape k c e f hk
  obtain ⟨c'',h3,h4⟩:=g.shape k c' e f h1
  exact ⟨c'',h3,h4.trans h2⟩
 ·intro i hi
  obtain ⟨h1,h2⟩:=h.born i hi
  obtain ⟨h3,h4⟩:=g.born i h2
  exact ⟨h3.trans h1,h4⟩
 intro i b hb hlv
 rcases g.live i b hb hlv with h1|⟨j,b',h1,h2,h3⟩
 ·exact .inl (Nat.le_trans h.size h1)
 rcases h.live j b' h1 h2 with h4|⟨k,b'',h4,h5,h6⟩
 ·exact .inl (by omega)
 exact .inr ⟨k,b'',h4,h5,h6.trans h3⟩
theorem Ext.keeps {β β':Nat→Nat} {bx aL:List aA} {w w':World} (h:Ext β bx w β' aL w') (X:Nat→Prop):
 jg w w' (bf β bx w X) (bf β' aL w' X):=by
 rintro blk ⟨h1,h2,h3⟩
 refine ⟨⟨Nat.lt_of_lt_of_le h1 h.size,h2,?_⟩,h.block blk h1 h3⟩
 intro i b hb hlv he
 rcases h.live i b hb hlv with h4|⟨j,b',h4,h5,h6⟩
 ·omega
 exact h3 j b' h4 h5 (h6.trans he)
structure tj (β:Nat→Nat) (bx:List aA) (w:World) (ok:Nat→Prop) (β':Nat→Nat) (aL:List aA) (w':World) (ok':Nat→Prop):Prop where
 keeps:jg w w' ok ok'
 born:∀i,bT bx i→β' i=β i∧bT aL i
 shape:∀(k:Nat) (c:Array Value) (e:TypeId) (f:Nat×Nat),w.heap[k]?=some (.cells c e f)→∃c',w'.heap[k]?=some (.cells c' e f)∧c'.size=c.size
theorem Ext.eT {β β':Nat→Nat} {bx aL:List aA} {w w':World} (h:Ext β bx w β' aL w') (X:Nat→Prop):
 tj β bx w (bf β bx w X) β' aL w' (bf β' aL w' X):=⟨h.keeps X,h.born,h.shape⟩
mutual
theorem aj.mono {β β':Nat→Nat} {bx aL:List aA} {w w':World} {ok ok':Nat→Prop} (h:tj β bx w ok β' aL w' ok'):
 ∀(x:AV) (v:Value),aj β bx w ok x v→aj β' aL w' ok' x v
 |.any,_,_=>by simp [aj]
 |.d x,v,hv=>by simp only [aj] at hv ⊢;exact aJ.mono h.keeps x v hv
 |.k c,v,hv=>by simpa [aj] using hv
 |.agg cs,v,hv=>by simp only [aj] at hv ⊢;obtain ⟨vs,e,g⟩:=hv;exact ⟨vs,e,ak.mono h cs vs g⟩
 |.ek cs,v,hv=>by simp only [aj] at hv ⊢;obtain ⟨vs,e,g⟩:=hv;exact ⟨vs,e,ak.mono h cs vs g⟩
 |.ptr b off,v,hv=>by simp only [aj] at hv ⊢;obtain ⟨e,g⟩:=hv;exact ⟨by rw [(h.born b g).1];exact e,(h.born b g).2⟩
 |.rp b sz i j,v,hv=>by simp only [aj] at hv ⊢;obtain ⟨e,g⟩:=hv;exact ⟨by rw [(h.born b g).1];exact e,(h.born b g).2⟩
 |.ep ds,v,hv=>by
  simp only [aj] at hv ⊢
  obtain ⟨blk,off,e,g1,g2⟩:=hv
  exact ⟨blk,off,e,(h.keeps blk g1).1,aX.mono h.keeps blk (h.keeps.cell g1) ds off g2⟩
 |.ow b sz n,v,hv=>by
  simp only [aj] at hv ⊢
  obtain ⟨g,hv⟩:=hv
  refine ⟨(h.born b g).2,hv.imp id ?_⟩
  rintro ⟨hn,cap,c,e,f,e1,e2,e3,e4⟩
  obtain ⟨c',e5,e6⟩:=h.shape _ _ _ _ e3
  rw [(h.born b g).1]
  exact ⟨hn,cap,c',e,f,e1,e2,e5,by rw [e6];exact e4⟩
 |.cl es,v,hv=>by
  simp only [aj] at hv ⊢
  obtain ⟨base,e,g⟩:=hv
  refine ⟨base,e,g.imp id ?_⟩
  rintro ⟨blk,off,sz,e1,e2,e3⟩
  exact ⟨blk,off,sz,e1,(h.keeps blk e2).1,ay.mono h.keeps blk sz (h.keeps.cell e2) es off e3⟩
 |.fn f jU,v,hv=>by simp only [aj] at hv ⊢;obtain ⟨vs,e,g⟩:=hv;exact ⟨vs,e,ak.mono h jU vs g⟩
 |.sS t x,v,hv=>by simp only [aj] at hv ⊢;obtain ⟨u,e,g⟩:=hv;exact ⟨u,e,aj.mono h x u g⟩
 |.cond p x,v,hv=>by simp only [aj] at hv ⊢;exact ⟨fun hp=>aj.mono h x v (hv.1 hp),hv.2⟩
 |.vw b sz off n c ex,v,hv=>by
  simp only [aj] at hv ⊢
  obtain ⟨g,base,cap,cs,e,f,e1,e2,e3,e4,e5⟩:=hv
  rcases e5 with e5|⟨e5,e6,e7⟩
  ·exact ⟨(h.born b g).2,base,cap,cs,e,f,e1,e2,e3,e4,.inl e5⟩
  obtain ⟨c',k5,k6⟩:=h.shape _ _ _ _ e6
  rw [(h.born b g).1]
  exact ⟨(h.born b g).2,base,cap,c',e,f,e1,e2,e3,e4,.inr ⟨e5,k5,by rw [k6];exact e7⟩⟩
 |.zX b,v,hv=>by simp only [aj] at hv ⊢;obtain ⟨e,g⟩:=hv;exact ⟨by rw [(h.born b g).1];exact e,(h.born b g).2⟩
theorem ak.mono {β β':Nat→Nat} {bx aL:List aA} {w w':World} {ok ok':Nat→Prop} (h:tj β bx w ok β' aL w' ok'):
 ∀(xs:List AV) (vs:List Value),ak β bx w ok xs vs→ak β' aL w' ok' xs vs
 |[],vs,hv=>by simpa [ak] using hv
 |x::xs,vs,hv=>by
  simp only [ak] at hv ⊢
  obtain ⟨u,us,e,g1,g2⟩:=hv
  exact ⟨u,us,e,aj.mono h x u g1,ak.mono h xs us g2⟩
end
theorem ak.length {β:Nat→Nat} {bx:List aA} {w:World} {ok:Nat→Prop}:∀{xs:List AV} {vs:List Value},ak β bx w ok xs vs→vs.length=xs.length
 |[],vs,h=>by simp only [ak] at h;simp [h]
 |x::xs,vs,h=>by simp only [ak] at h;obtain ⟨u,us,rfl,_,g⟩:=h;simp [ak.length g]
theorem ak.get {β:Nat→Nat} {bx:List aA} {w:World} {ok:Nat→Prop}:∀{xs:List AV} {vs:List Value} (i:Nat) (x:AV),ak β bx w ok xs vs→xs[i]?=some x→∃v,vs[i]?=some v∧aj β bx w ok x v
 |[],_,i,x,_,hx=>by simp at hx
 |y::ys,vs,i,x,h,hx=>by
  simp only [ak] at h
  obtain ⟨u,us,rfl,g1,g2⟩:=h
  cases i with
  |zero=>simp at hx;subst hx;exact ⟨u,by simp,g1⟩
  |succ i=>simp at hx;obtain ⟨v,h1,h2⟩:=ak.get i x g2 hx;exact ⟨v,by simpa using h1,h2⟩
theorem ak.drop {β:Nat→Nat} {bx:List aA} {w:World} {ok:Nat→Prop}:∀(n:Nat) {xs:List AV} {vs:List Value},ak β bx w ok xs vs→ak β bx w ok (xs.drop n) (vs.drop n)
 |0,xs,vs,h=>by simpa using h
 |n+1,[],vs,h=>by simp only [ak] at h;subst h;simp [ak]
 |n+1,x::xs,vs,h=>by
  simp only [ak] at h
  obtain ⟨u,us,rfl,_,g2⟩:=h
  simpa using ak.drop n g2
theorem ak.take {β:Nat→Nat} {bx:List aA} {w:World} {ok:Nat→Prop}:∀(n:Nat) {xs:List AV} {vs:List Value},ak β bx w ok xs vs→ak β bx w ok (xs.take n) (vs.take n)
 |0,xs,vs,h=>by simp [ak]
 |n+1,[],vs,h=>by simp only [ak] at h;subst h;simp [ak]
 |n+1,x::xs,vs,h=>by
  simp only [ak] at h
  obtain ⟨u,us,rfl,g1,g2⟩:=h
  simp only [List.take_succ_cons,ak]
  exact ⟨u,_,rfl,g1,ak.take n g2⟩
theorem ak.append {β:Nat→Nat} {bx:List aA} {w:World} {ok:Nat→Prop}:∀{xs ys:List AV} {vs us:List Value},ak β bx w ok xs vs→ak β bx w ok ys us→ak β bx w ok (xs++ys) (vs++us)
 |[],ys,vs,us,h,g=>by simp only [ak] at h;subst h;simpa using g
 |x::xs,ys,vs,us,h,g=>by
  simp only [ak] at h
  obtain ⟨u,Pd,rfl,g1,g2⟩:=h
  simp only [List.cons_append,ak]
  exact ⟨u,_,rfl,g1,ak.append g2 g⟩
def bc:List Value→Nat→List Value→List Value
 |cs,_,[]=>cs
 |[],_,_::_=>[]
 |_::cs,0,v::vs=>v::bc cs 0 vs
 |c::cs,n+1,v::vs=>c::bc cs n (v::vs)
theorem ak.eO {β:Nat→Nat} {bx:List aA} {w:World} {ok:Nat→Prop}:∀{xs:List AV} {vs:List Value} (n:Nat) {ys:List AV} {us:List Value},ak β bx w ok xs vs→ak β bx w ok ys us→
 ak β bx w ok (Dem.eO xs n ys) (bc vs n us)
 |xs,vs,n,[],us,h,g=>by
  simp only [ak] at g;subst g
  cases xs<;>cases vs<;>simpa [Dem.eO,bc] using h
 |[],vs,n,y::ys,us,h,g=>by
  simp only [ak] at h g;obtain ⟨u,Pd,rfl,_,_⟩:=g;subst h
  simp [Dem.eO,bc,ak]
 |x::xs,vs,0,y::ys,us,h,g=>by
  simp only [ak] at h g
  obtain ⟨u,Pd,rfl,g1,g2⟩:=g
  obtain ⟨v,vs',rfl,h1,h2⟩:=h
  simp only [Dem.eO,bc,ak]
  exact ⟨u,_,rfl,g1,ak.eO 0 h2 g2⟩
 |x::xs,vs,n+1,y::ys,us,h,g=>by
  simp only [ak] at h
  obtain ⟨v,vs',rfl,h1,h2⟩:=h
  have g0:=g
  simp only [ak] at g
  obtain ⟨u,Pd,rfl,g1,g2⟩:=g
  simp only [Dem.eO,bc,ak]
  exact ⟨v,_,rfl,h1,ak.eO n h2 g0⟩
theorem dm.mono {β β':Nat→Nat} {bx aL:List aA} {w w':World} {ok ok':Nat→Prop} (h:tj β bx w ok β' aL w' ok') {b:aA} {blk:Nat}
 (hl:b.live=true→w'.heap[blk]?=w.heap[blk]?) (hb:dm β bx w ok b blk):dm β' aL w' ok' b blk:=by
 cases b with
 |var cs=>
  obtain ⟨c,e,h1,h2⟩:=hb
  exact ⟨c,e,by rw [hl rfl];exact h1,ak.mono h _ _ h2⟩
 |row sz es=>
  cases es with
  |nil=>exact .inl rfl
  |cons r rs=>
   rcases hb with hb|⟨c,e,h1,h2⟩
   ·exact .inl hb
   exact .inr ⟨c,e,by rw [hl rfl];exact h1,ay.mono h.keeps blk sz (fun off=>nA (hl rfl) off _) _ _ h2⟩
 |kP sz es=>
  rcases hb with hb|⟨h1,h2⟩
  ·exact .inl hb
  exact .inr ⟨(h.keeps blk h1).1,ay.mono h.keeps blk sz (h.keeps.cell h1) _ _ h2⟩
 |it s pos=>simp only [dm] at hb ⊢;rw [hl rfl];exact hb
 |mp ag es=>
  obtain ⟨ms,clock,h1,h2,h3⟩:=hb
  exact ⟨ms,clock,by rw [hl rfl];exact h1,h2,aZ.mono h.keeps ag es _ h3⟩
 |dead=>trivial
 |bq=>trivial
theorem cF.step {G:Nat→Option (List D)} {β β':Nat→Nat} {bx aL:List aA} {w w':World} {X:Nat→Prop} (cx:cF G β bx w X) (ex:Ext β bx w β' aL w')
 (aaz:∀i b,aL[i]?=some b→(bx[i]?=some b∧(b.live=true→w'.heap[β i]?=w.heap[β i]?))∨dm β' aL w' (bf β' aL w' X) b (β' i))
 (hinj:∀i j bi bj,aL[i]?=some bi→aL[j]?=some bj→bi.live=true→bj.live=true→β' i=β' j→i=j):cF G β' aL w' X:=by
 refine ⟨fun blk hb=>Nat.lt_of_lt_of_le (cx.xs blk hb) ex.size,?_,hinj,?_,?_⟩
 ·intro g ds hg
  obtain ⟨h1,h2⟩:=cx.zo g ds hg
  exact ⟨(ex.keeps X g h1).1,aX.mono (ex.keeps X) g ((ex.keeps X).cell h1) _ _ h2⟩
 ·intro i b hb
  rcases aaz i b hb with ⟨h1,h2⟩|h
  ·by_cases dH:b.born=true
   ·rw [(ex.born i ⟨b,h1,dH⟩).1]
    exact dm.mono (ex.eT X) h2 (cx.box i b h1)
   cases b<;>simp_all [aA.born,dm]
  exact h
 intro i b hb hl hX
 rcases ex.live i b hb hl with h|⟨j,b',h1,h2,h3⟩
 ·have:=cx.xs _ hX;omega
 exact cx.apart j b' h1 h2 (h3▸hX)
structure Ej (w w':World):Prop where
 heap:w'.heap=w.heap
 os:w'.os=w.os
 tape:w'.tape=w.tape
 output:w'.output=w.output
theorem jh {β:Nat→Nat} {bx:List aA} {w w':World} (h:Ej w w'):Ext β bx w β bx w':=
 ⟨h.os,h.tape,h.output,by rw [h.heap];exact Nat.le_refl _,fun k _ _=>by rw [h.heap],fun k c e f hk=>⟨c,by rw [h.heap];exact hk,rfl⟩,fun i hi=>⟨rfl,hi⟩,fun i b h1 h2=>.inr ⟨i,b,h1,h2,rfl⟩⟩
theorem qw {G:Nat→Option (List D)} {β:Nat→Nat} {bx:List aA} {w w':World} {X:Nat→Prop} (cx:cF G β bx w X) (h:Ej w w'):cF G β bx w' X:=
 cx.step (jh h) (fun i b hb=>.inl ⟨hb,fun _=>by rw [h.heap]⟩) cx.inj
theorem fB (w:World):Ej w {w with drawn:=w.drawn+1}:=⟨rfl,rfl,rfl,rfl⟩
theorem jk (w:World) (o:Obj) (k:Nat) (h:k<w.heap.size):({w with heap:=w.heap.push o}:World).heap[k]?=w.heap[k]?:=by
 show (w.heap.push o)[k]?=_
 rw [Array.getElem?_push,if_neg (by omega)]
theorem jv (w:World) (o:Obj):({w with heap:=w.heap.push o}:World).heap[w.heap.size]?=some o:=by
 show (w.heap.push o)[w.heap.size]?=_
 simp
theorem eW {w:World} {k:Nat} {o:Obj} (h:w.heap[k]?=some o):k<w.heap.size:=by
 rcases Nat.lt_or_ge k w.heap.size with h'|h'
 ·exact h'
 simp [Array.getElem?_eq_none h'] at h
theorem uN {β:Nat→Nat} {bx:List aA} {w:World} (o:Obj):Ext β bx w β bx {w with heap:=w.heap.push o}:=by
 refine ⟨rfl,rfl,rfl,by simp,fun k hk _=>jk w o k hk,fun k c e f hk=>⟨c,?_,rfl⟩,fun i hi=>⟨rfl,hi⟩,fun i b h1 h2=>.inr ⟨i,b,h1,h2,rfl⟩⟩
 rw [jk w o k (eW hk)];exact hk
theorem dm.eX {β:Nat→Nat} {bx:List aA} {w:World} {ok:Nat→Prop} {b:aA} {blk:Nat} (h:dm β bx w ok b blk) (hl:b.live=true):blk<w.heap.size:=by
 cases b with
 |var cs=>obtain ⟨c,e,h1,_⟩:=h;exact eW h1
 |row sz es=>
  cases es with
  |nil=>simp [aA.live] at hl
  |cons r rs=>
   rcases h with h|⟨c,e,h1,_⟩;· simp at h
   exact eW h1
 |it s pos=>exact eW h
 |mp ag es=>obtain ⟨ms,clock,h1,_⟩:=h;exact eW h1
 |kP _ _=>simp [aA.live] at hl
 |dead=>simp [aA.live] at hl
 |bq=>simp [aA.live] at hl
theorem FT {G:Nat→Option (List D)} {β:Nat→Nat} {bx:List aA} {w:World} {X:Nat→Prop} (cx:cF G β bx w X) (o:Obj):cF G β bx {w with heap:=w.heap.push o} X:=
 cx.step (uN o) (fun i b hb=>.inl ⟨hb,fun hl=>jk w o _ ((cx.box i b hb).eX hl)⟩) cx.inj
def lz (β:Nat→Nat) (i blk:Nat):Nat→Nat:=fun j=>if j=i then blk else β j
theorem bp (β:Nat→Nat) (i blk:Nat):lz β i blk i=blk:=by simp [lz]
theorem c6 (β:Nat→Nat) {i j:Nat} (blk:Nat) (h:j≠i):lz β i blk j=β j:=by simp [lz,h]
theorem eM {bx:List aA} {B:aA} {i:Nat} {b:aA} (h:bx[i]?=some b):(bx++[B])[i]?=some b:=by
 have:i<bx.length:=by
  rcases Nat.lt_or_ge i bx.length with h'|h';· exact h'
  simp [List.getElem?_eq_none h'] at h
 rw [List.getElem?_append_left this];exact h
theorem bw {bx:List aA} {B:aA} {i:Nat} {b:aA} (h:(bx++[B])[i]?=some b):(bx[i]?=some b∧i<bx.length)∨(i=bx.length∧b=B):=by
 rcases Nat.lt_or_ge i bx.length with h'|h'
 ·rw [List.getElem?_append_left h'] at h;exact .inl ⟨h,h'⟩
 rw [List.getElem?_append_right h'] at h
 by_cases hi:i=bx.length
 ·subst hi;simp at h;exact .inr ⟨rfl,h.symm⟩
 simp [show i-bx.length≠0 by omega] at h
theorem gj {β:Nat→Nat} {bx:List aA} {w:World} (o:Obj) (B:aA):Ext β bx w (lz β bx.length w.heap.size) (bx++[B]) {w with heap:=w.heap.push o}:=by
 refine ⟨rfl,rfl,rfl,by simp,fun k hk _=>jk w o k hk,fun k c e f hk=>⟨c,?_,rfl⟩,?_,?_⟩
 ·rw [jk w o k (eW hk)];exact hk
 ·rintro i ⟨b,h1,h2⟩
  have:i<bx.length:=by
   rcases Nat.lt_or_ge i bx.length with h'|h';· exact h'
   simp [List.getElem?_eq_none h'] at h1
  exact ⟨c6 _ _ (by omega),b,eM h1,h2⟩
 intro i b h1 h2
 rcases bw h1 with ⟨h3,h4⟩|⟨rfl,rfl⟩
 ·exact .inr ⟨i,b,h3,h2,(c6 _ _ (by omega)).symm⟩
 exact .inl (by rw [bp];exact Nat.le_refl _)
theorem kS {G:Nat→Option (List D)} {β:Nat→Nat} {bx:List aA} {w:World} {X:Nat→Prop} (cx:cF G β bx w X) (o:Obj) (B:aA)
 (hB:dm (lz β bx.length w.heap.size) (bx++[B]) {w with heap:=w.heap.push o} (bf (lz β bx.length w.heap.size) (bx++[B]) {w with heap:=w.heap.push o} X) B w.heap.size):
 cF G (lz β bx.length w.heap.size) (bx++[B]) {w with heap:=w.heap.push o} X:=by
 refine cx.step (gj o B) ?_ ?_
 ·intro i b hb
  rcases bw hb with ⟨h3,h4⟩|⟨rfl,rfl⟩
  ·exact .inl ⟨h3,fun hl=>jk w o _ ((cx.box i b h3).eX hl)⟩
  exact .inr (by rw [bp];exact hB)
 intro i j bi bj h1 h2 l1 l2 he
 rcases bw h1 with ⟨h3,h4⟩|⟨rfl,rfl⟩<;>rcases bw h2 with ⟨h5,h6⟩|⟨rfl,rfl⟩
 ·rw [c6 _ _ (by omega),c6 _ _ (by omega)] at he
  exact cx.inj i j bi bj h3 h5 l1 l2 he
 ·rw [c6 _ _ (by omega),bp] at he
  have:=(cx.box i bi h3).eX l1;omega
 ·rw [bp,c6 _ _ (by omega)] at he
  have:=(cx.box j bj h5).eX l2;omega
 rfl
end Dem
end
section
open Go
namespace Dem
structure kH (P:Program) (T:Nat→Option TI):Prop where
 ti:∀t ti,T t=some ti→qc P t=some ti
 fields:∀t ti fs,T t=some ti→ti.kd=.struct fs→∀f∈fs,∃tf,T f.2=some tf
 deep:8≤P.depth
theorem aI {P:Program} {t:Nat} {ti:TI} (h:qc P t=some ti):
 ∃i d,P.info? t=some i∧P.underlying t=some d∧ti.size=i.size∧ti.bytes=i.bytes∧ti.kd=cP d∧ti.zero=(match i.zero with|some z=>SF z|none=>.any):=by
 unfold qc at h
 split at h
 ·rename_i i d h1 h2
  simp at h;subst h
  exact ⟨i,d,h1,h2,rfl,rfl,rfl,rfl⟩
 simp at h
theorem MN {P:Program} {t:Nat} {ti:TI} (h:qc P t=some ti) {nm:String} {f:Nat} (hi:ti.inv=some (nm,f)):
 ∃i d,P.info? t=some i∧P.underlying t=some d∧(∀e,d≠.pointer e)∧∃m,i.methods.find? (fun m=>m.name==nm)=some m∧m.path.toList=[]∧m.func=some (f,false):=by
 unfold qc at h
 split at h
 ·rename_i i d h1 h2
  simp only [osI] at h;subst h
  simp only at hi
  cases hp:(cP d).plain with
  |false=>simp [hp] at hi
  |true=>
  simp only [hp,cond_true] at hi
  refine ⟨i,d,h1,h2,fun e he=>by subst he;simp [cP,Kd.plain] at hp,?_⟩
  unfold U0 at hi
  obtain ⟨XZ,hn,hi⟩:=List.exists_of_findSome?_eq_some hi
  split at hi
  ·rename_i a b path g hm
   cases he:path.toList.isEmpty with
   |false=>simp [he] at hi
   |true=>
   simp only [he,cond_true,osI,Prod.mk.injEq] at hi
   obtain ⟨rfl,rfl⟩:=hi
   exact ⟨_,by rw [←Array.find?_toList];exact hm,by simpa using he,rfl⟩
  cases hi
 simp at h
theorem SK {P:Program} {t:Nat} {ti:TI} (h:qc P t=some ti) {d:TypeDesc} (hd:P.underlying t=some d):ti.eq=O2 P t d:=by
 unfold qc at h
 split at h
 ·rename_i i d' h1 h2
  rw [hd] at h2
  simp at h;subst h
  simp only [osI] at h2;subst h2;rfl
 simp at h
section
variable {P:Program} {w:World} {t:Nat}
theorem aQ {d:TypeDesc} (h:P.underlying t=some d):(underlying t).run P w=.ok d w:=by
 simp [underlying,program,Sem.run,h,Bind.bind,Sem.bind,Pure.pure]
theorem mc {i:TypeInfo} (h:P.info? t=some i):(typeInfo t).run P w=.ok i w:=by
 simp [typeInfo,program,Sem.run,h,Bind.bind,Sem.bind,Pure.pure]
theorem bQ {i:TypeInfo} (h:P.info? t=some i):(Go.sizeOf t).run P w=.ok i.size w:=by
 simp [Go.sizeOf,mc h]
theorem gP {i:TypeInfo} {z:Value} (h:P.info? t=some i) (hz:i.zero=some z):(zeroValue t).run P w=.ok z w:=by
 simp [zeroValue,mc h,hz]
theorem CZ {d:TypeDesc} (h:P.underlying t=some d):(isAgg t).run P w=.ok (cP d).isAgg w:=by
 simp [isAgg,aQ h]
 cases d<;>simp [cP,Kd.isAgg]
theorem run_load {a:Addr} {v:Value} (h:w.cell? a=some v):(load a).run P w=.ok v w:=by
 simp [load,Sem.run,h]
end
theorem fN (blk off n:Nat):(⟨blk,off,none⟩:Addr).add n=⟨blk,off+n,none⟩:=by
 unfold Addr.add;split
 ·simp_all
 rfl
theorem run_loadCellsFrom {P:Program} {w:World} {blk off:Nat}:∀(vs:List Value) (i:Nat) (acc:Array Value),(∀j v,vs[j]?=some v→w.cell? ⟨blk,off+i+j,none⟩=some v)→
 (loadCellsFrom ⟨blk,off,none⟩ i vs.length acc).run P w=.ok (acc++vs.toArray) w
 |[],i,acc,_=>by simp [loadCellsFrom]
 |v::vs,i,acc,h=>by
  have h0:=h 0 v rfl
  simp only [List.length_cons,loadCellsFrom,fN,Sem.run_bind]
  rw [run_load (v:=v) (by simpa using h0)]
  simp only [Result.andThen_ok]
  rw [run_loadCellsFrom vs (i+1) (acc.push v) (fun j u hj=>by have:=h (j+1) u (by simpa using hj);rwa [show off+i+(j+1)=off+(i+1)+j by omega] at this)]
  simp
theorem run_loadCells {P:Program} {w:World} {blk off:Nat} (vs:List Value) (h:∀j v,vs[j]?=some v→w.cell? ⟨blk,off+j,none⟩=some v):
 (loadCells ⟨blk,off,none⟩ vs.length).run P w=.ok vs.toArray w:=by
 have:=run_loadCellsFrom (P:=P) vs 0 #[] (w:=w) (blk:=blk) (off:=off) (by simpa using h)
 simpa [loadCells] using this
def dB (G:Nat→Option (List D)) (β:Nat→Nat) (bx:List aA) (w:World) (X:Nat→Prop) (r:Result Next) (v:AV) (aL:List aA):Prop:=
 ∃β' w',Ext β bx w β' aL w'∧cF G β' aL w' X∧
  ((∃u,r=.ok (.value u) w'∧aj β' aL w' (bf β' aL w' X) v u)∨(r=.ok .skip w'∧v=.any))
section
variable {P:Program} {T:Nat→Option TI} {G:Nat→Option (List D)} {β:Nat→Nat} {bx:List aA} {w:World} {X:Nat→Prop}
theorem dB.pure {r:Result Next} {v:AV} {u:Value} (cx:cF G β bx w X) (hr:r=.ok (.value u) w) (h:aj β bx w (bf β bx w X) v u):dB G β bx w X r v bx:=
 ⟨β,w,Ext.refl _ _ _,cx,.inl ⟨u,hr,h⟩⟩
theorem sy {ok:Nat→Prop} {blk:Nat}:∀(ds:List D) (off:Nat),aX w ok blk ds off→∃vs,vs.length=ds.length∧(∀j v,vs[j]?=some v→w.cell? ⟨blk,off+j,none⟩=some v)∧
 ak β bx w ok (ds.map .d) vs
 |[],off,_=>⟨[],rfl,by simp,by simp [ak]⟩
 |x::xs,off,h=>by
  simp only [aX] at h
  obtain ⟨⟨u,h1,h2⟩,h3⟩:=h
  obtain ⟨vs,g1,g2,g3⟩:=sy xs (off+1) h3
  refine ⟨u::vs,by simp [g1],?_,?_⟩
  ·intro j v hj
   cases j with
   |zero=>simp at hj;subst hj;simpa using h1
   |succ j=>have:=g2 j v (by simpa using hj);rwa [show off+(j+1)=off+1+j by omega]
  simp only [List.map_cons,ak,aj];exact ⟨u,vs,rfl,h2,g3⟩
theorem aX.drop {ok:Nat→Prop} {blk:Nat}:∀(n:Nat) (ds:List D) (off:Nat),aX w ok blk ds off→aX w ok blk (ds.drop n) (off+n)
 |0,ds,off,h=>by simpa using h
 |n+1,[],off,h=>by simp [aX]
 |n+1,x::xs,off,h=>by
  simp only [aX] at h
  have:=aX.drop n xs (off+1) h.2
  simpa [show off+(n+1)=off+1+n by omega] using this
theorem aX.take {ok:Nat→Prop} {blk:Nat}:∀(n:Nat) (ds:List D) (off:Nat),aX w ok blk ds off→aX w ok blk (ds.take n) off
 |0,ds,off,h=>by simp [aX]
 |n+1,[],off,h=>by simp [aX]
 |n+1,x::xs,off,h=>by
  simp only [aX] at h
  simp only [List.take_succ_cons,aX]
  exact ⟨h.1,aX.take n xs _ h.2⟩
theorem ay.get {ok:Nat→Prop} {blk sz:Nat}:∀(i:Nat) (es:List (List D)) (off:Nat),ay w ok blk sz es off→i<es.length→(es.getD i []).length=sz∧aX w ok blk (es.getD i []) (off+i*sz)
 |_,[],_,_,hi=>by simp at hi
 |0,r::rs,off,h,_=>by simp only [ay] at h;simpa using ⟨h.1,h.2.1⟩
 |i+1,r::rs,off,h,hi=>by
  simp only [ay] at h
  have:=ay.get i rs (off+sz) h.2.2 (by simpa using hi)
  simpa [Nat.add_mul,show off+sz+i*sz=off+(i*sz+sz) by omega] using this
theorem tO {ti:TI} {t:Nat} (ht:qc P t=some ti) {cs:List AV} {v:AV} {vs:List Value} {blk off:Nat} {ok:Nat→Prop}
 (hs:cH ti.kd.isAgg ti.size cs=some v) (hr:ak β bx w ok cs vs) (hc:∀j v,vs[j]?=some v→w.cell? ⟨blk,off+j,none⟩=some v):
 ∃u,(loadVar t ⟨blk,off,none⟩).run P w=.ok u w∧aj β bx w ok v u:=by
 obtain ⟨i,d,h1,h2,h3,h4,h5,h6⟩:=aI ht
 unfold cH at hs
 simp only [loadVar,Sem.run_bind,CZ h2,Result.andThen_ok,h5] at hs ⊢
 cases hk:(cP d).isAgg with
 |true=>
  simp only [hk,cond_true] at hs
  cases hle:Nat.ble ti.size cs.length with
  |false=>simp [hle] at hs
  |true=>
   simp only [hle,cond_true,osI] at hs
   subst hs
   have hlen:=ak.length hr
   have hle':ti.size≤cs.length:=Nat.le_of_ble_eq_true hle
   have:=run_loadCells (P:=P) (w:=w) (blk:=blk) (off:=off) (vs.take ti.size) (fun j v hj=>by
    rw [List.getElem?_take] at hj
    split at hj
    ·exact hc j v hj
    simp at hj)
   rw [List.length_take,Nat.min_eq_left (by omega)] at this
   simp only [if_true,Sem.run_bind,bQ h1,Result.andThen_ok,←h3,this]
   exact ⟨_,rfl,by simp only [aj];exact ⟨_,rfl,ak.take _ hr⟩⟩
 |false=>
  simp only [hk,cond_false] at hs
  cases cs with
  |nil=>simp at hs
  |cons c cs=>
   simp at hs;subst hs
   simp only [ak] at hr
   obtain ⟨u,us,rfl,g1,_⟩:=hr
   have:=hc 0 u rfl
   simp only [Bool.false_eq_true,if_false]
   exact ⟨u,run_load (by simpa using this),g1⟩
theorem Ad (hT:kH P T) (cx:cF G β bx w X) {t:Nat} {ti:TI} (ht:T t=some ti) {a:AV} {u:Value} (ha:aj β bx w (bf β bx w X) a u)
 {c:Prop} {v:AV} {b:Option (List aA)} (hr:pU ti a bx=some ⟨c,v,b⟩) (hc:c):
 b=none∧∃x,(Instr.loadAt t u).run P w=.ok x w∧aj β bx w (bf β bx w X) v x:=by
 have ht':=hT.ti t ti ht
 unfold pU at hr
 split at hr
 ·rename_i b' off
  simp only [aj] at ha
  obtain ⟨rfl,hb⟩:=ha
  split at hr
  ·rename_i cs sA
   split at hr
   ·rename_i v' hs
    simp only [R.pure,osI,R.mk.injEq] at hr
    obtain ⟨_,rfl,rfl⟩:=hr
    obtain ⟨ca,e,h1,h2⟩:=cx.box _ _ sA
    have h3:=ak.drop off h2
    obtain ⟨x,g1,g2⟩:=tO (P:=P) (w:=w) (blk:=β b') (off:=off) ht' hs h3 (fun j v hj=>by
     rw [List.getElem?_drop] at hj
     simp only [World.cell?,h1]
     simpa using hj)
    exact ⟨rfl,x,by simpa [Instr.loadAt,Instr.sureAddr] using g1,g2⟩
   simp at hr
  simp at hr
 ·rename_i ds
  simp only [aj] at ha
  obtain ⟨blk,off,rfl,hb,hrow⟩:=ha
  split at hr
  ·rename_i v' hs
   simp only [R.pure,osI,R.mk.injEq] at hr
   obtain ⟨_,rfl,rfl⟩:=hr
   obtain ⟨vs,g1,g2,g3⟩:=sy (β:=β) (bx:=bx) ds off hrow
   obtain ⟨x,k1,k2⟩:=tO (P:=P) (w:=w) (blk:=blk) (off:=off) ht' hs g3 g2
   exact ⟨rfl,x,by simpa [Instr.loadAt,Instr.sureAddr] using k1,k2⟩
  simp at hr
 ·rename_i b' sz i j
  simp only [aj] at ha
  obtain ⟨rfl,hb⟩:=ha
  have main:∀(s:Nat) (es:List (List D)),i<es.length→s=sz→ay w (bf β bx w X) (β b') s es 0→∀v',cH ti.kd.isAgg ti.size (List.map AV.d ((es.getD i []).drop j))=some v'→
   ∃x,(Instr.loadAt t (.pointer (some ⟨β b',i*sz+j,none⟩))).run P w=.ok x w∧aj β bx w (bf β bx w X) v' x:=by
   intro s es hi hs hrows v' hsp
   obtain ⟨_,hrow⟩:=ay.get i es 0 hrows hi
   have hrow:=aX.drop j _ _ hrow
   obtain ⟨vs,g1,g2,g3⟩:=sy (β:=β) (bx:=bx) _ _ hrow
   subst hs
   obtain ⟨x,k1,k2⟩:=tO (P:=P) (w:=w) (blk:=β b') (off:=0+i*s+j) ht' hsp g3 g2
   exact ⟨x,by simpa [Instr.loadAt,Instr.sureAddr] using k1,k2⟩
  split at hr
  ·rename_i s es sA
   split at hr
   ·rename_i v' hsp
    simp only [osI,R.mk.injEq] at hr
    obtain ⟨rfl,rfl,rfl⟩:=hr
    rcases cx.box _ _ sA with h|⟨ca,e,h1,h2⟩
    ·subst h;simp at hc
    exact ⟨rfl,main s es hc.2 hc.1 h2 _ hsp⟩
   simp at hr
  ·rename_i s es sA
   split at hr
   ·rename_i v' hsp
    simp only [osI,R.mk.injEq] at hr
    obtain ⟨rfl,rfl,rfl⟩:=hr
    rcases cx.box _ _ sA with h|⟨h1,h2⟩
    ·subst h;simp at hc
    exact ⟨rfl,main s es hc.2 hc.1 h2 _ hsp⟩
   simp at hr
  simp at hr
 simp at hr
def I6:Value→Prop
 |.agg _=>False
 |.tuple _=>False
 |_=>True
theorem aJ.sc {ok:Nat→Prop} {x:D} {v:Value} (h:aJ w ok x v):I6 v:=by
 cases x<;>simp only [aJ] at h
 ·subst h;trivial
 ·subst h;trivial
 ·subst h;trivial
 ·obtain ⟨_,_,rfl,_⟩:=h;trivial
 ·subst h;trivial
 obtain ⟨_,_,_,rfl,_⟩:=h;trivial
theorem aj.sc {ok:Nat→Prop} {x:AV} {v:Value} (hx:x.sc=true) (h:aj β bx w ok x v):I6 v:=by
 cases x<;>simp only [AV.sc,Bool.false_eq_true] at hx<;>simp only [aj] at h
 ·exact aJ.sc h
 ·rename_i c;subst h;cases c<;>trivial
 ·obtain ⟨rfl,_⟩:=h;trivial
 ·obtain ⟨rfl,_⟩:=h;trivial
 ·obtain ⟨_,_,rfl,_⟩:=h;trivial
 ·obtain ⟨_,h|h⟩:=h
  ·obtain ⟨_,_,rfl⟩:=h;trivial
  obtain ⟨_,_,_,_,_,rfl,_⟩:=h;trivial
 ·obtain ⟨_,rfl,_⟩:=h;trivial
 ·obtain ⟨vs,rfl,_⟩:=h;obtain ⟨a,b,e⟩:=FR _ vs;rw [e];trivial
 ·obtain ⟨_,rfl,_⟩:=h;trivial
 obtain ⟨rfl,_⟩:=h;trivial
theorem ak.sc {ok:Nat→Prop}:∀{xs:List AV} {vs:List Value},uJ xs=true→ak β bx w ok xs vs→∀v∈vs,I6 v
 |[],vs,_,h=>by simp only [ak] at h;subst h;simp
 |x::xs,vs,hx,h=>by
  simp only [ak] at h
  obtain ⟨u,us,rfl,g1,g2⟩:=h
  cases hs:x.sc with
  |false=>simp [uJ,hs] at hx
  |true=>
   simp only [uJ,hs,cond_true] at hx
   intro v hv
   rcases List.mem_cons.1 hv with rfl|hv
   ·exact aj.sc hs g1
   exact ak.sc hx g2 v hv
theorem nP {ok:Nat→Prop} {x:AV} {v:Value} {cs:List AV} (hx:x.cells?=some cs) (h:aj β bx w ok x v):
 ∃vs,v.cells=⟨vs⟩∧ak β bx w ok cs vs∧(∀u∈vs,I6 u):=by
 have one:∀(y:AV) (u:Value),y.sc=true→aj β bx w ok y u→∃vs,u.cells=⟨vs⟩∧ak β bx w ok [y] vs∧(∀u∈vs,I6 u):=by
  intro y u hy hu
  have:=aj.sc hy hu
  refine ⟨[u],?_,by simp only [ak];exact ⟨u,[],rfl,hu,rfl⟩,by simpa using this⟩
  cases u<;>simp_all [Value.cells,I6]
 cases x with
 |any=>simp [AV.cells?] at hx
 |vw _ _ _ _ _ _=>simp [AV.cells?] at hx
 |ek _=>simp [AV.cells?] at hx
 |cond _ _=>simp [AV.cells?] at hx
 |agg as=>
  simp only [AV.cells?] at hx
  cases ha:uJ as with
  |false=>simp [ha] at hx
  |true=>
   simp only [ha,cond_true,osI] at hx
   subst hx
   simp only [aj] at h
   obtain ⟨vs,rfl,g⟩:=h
   exact ⟨vs,rfl,g,ak.sc ha g⟩
 |d x=>simp only [AV.cells?,osI] at hx;subst hx;exact one _ _ rfl h
 |k x=>simp only [AV.cells?,osI] at hx;subst hx;exact one _ _ rfl h
 |ptr _ _=>simp only [AV.cells?,osI] at hx;subst hx;exact one _ _ rfl h
 |rp _ _ _ _=>simp only [AV.cells?,osI] at hx;subst hx;exact one _ _ rfl h
 |ep _=>simp only [AV.cells?,osI] at hx;subst hx;exact one _ _ rfl h
 |ow _ _ _=>simp only [AV.cells?,osI] at hx;subst hx;exact one _ _ rfl h
 |cl _=>simp only [AV.cells?,osI] at hx;subst hx;exact one _ _ rfl h
 |fn _ _=>simp only [AV.cells?,osI] at hx;subst hx;exact one _ _ rfl h
 |sS _ _=>simp only [AV.cells?,osI] at hx;subst hx;exact one _ _ rfl h
 |zX _=>simp only [AV.cells?,osI] at hx;subst hx;exact one _ _ rfl h
def eA (w:World) (blk:Nat) (o:Obj):World:={w with heap:=w.heap.setIfInBounds blk o}
theorem Ae (w:World) (blk:Nat) (o:Obj) (k:Nat):(eA w blk o).heap[k]?=if k=blk then (w.heap[k]?).map (fun _=>o) else w.heap[k]?:=by
 show (w.heap.setIfInBounds blk o)[k]?=_
 rw [Array.getElem?_setIfInBounds]
 by_cases h:blk=k
 ·subst h
  by_cases hk:blk<w.heap.size
  ·simp [hk]
  simp [hk]
 simp [h,Ne.symm h]
theorem dW {w:World} {blk:Nat} {o o':Obj} (h:w.heap[blk]?=some o'):(eA w blk o).heap[blk]?=some o:=by rw [Ae];simp [h]
theorem iQ {w:World} {blk k:Nat} {o:Obj} (h:k≠blk):(eA w blk o).heap[k]?=w.heap[k]?:=by rw [Ae];simp [h]
theorem Ek (w:World) (blk:Nat) (o o':Obj):eA (eA w blk o) blk o'=eA w blk o':=by
 unfold eA
 simp
theorem FU {w:World} {blk off:Nat} {c:Array Value} {e:TypeId} {f:Nat×Nat} (h:w.heap[blk]?=some (.cells c e f)) (v:Value):
 w.setCell ⟨blk,off,none⟩ v=eA w blk (.cells (c.setIfInBounds off v) e f):=by
 unfold World.setCell eA
 congr 1
 apply Array.ext_getElem?
 intro i
 rw [Array.getElem?_modify,Array.getElem?_setIfInBounds]
 by_cases hi:blk=i
 ·subst hi
  have hlt:=eW h
  have h':w.heap[blk]=.cells c e f:=by simpa [hlt] using h
  simp [hlt,h']
 simp [hi]
theorem oI:∀(l:List Value) (n:Nat) (v:Value) (vs:List Value),bc l n (v::vs)=bc (l.set n v) (n+1) vs
 |[],n,v,vs=>by cases vs<;>simp [bc]
 |c::cs,0,v,vs=>by
  simp only [bc,List.set_cons_zero]
  cases vs with
  |nil=>cases cs<;>simp [bc]
  |cons u us=>simp [bc]
 |c::cs,n+1,v,vs=>by
  simp only [bc,List.set_cons_succ]
  rw [oI cs n v vs]
  cases vs with
  |nil=>simp [bc]
  |cons u us=>simp [bc]
theorem I7 {w:World} {blk off:Nat} {c:Array Value} {e:TypeId} (h:w.heap[blk]?=some (.cells c e (0,0))) (ho:off<c.size) {v:Value} (hv:I6 v):
 (store ⟨blk,off,none⟩ v).run P w=.ok () (eA w blk (.cells (c.setIfInBounds off v) e (0,0))):=by
 have h1:w.cell? ⟨blk,off,none⟩=some c[off]:=by simp [World.cell?,h,ho]
 have h2:w.frozen? ⟨blk,off,none⟩=false:=by simp [World.frozen?,h]
 rw [←FU h]
 cases v<;>simp [I6] at hv<;>simp [store,Sem.run,h1,h2]
theorem jw {blk off:Nat} {e:TypeId}:∀(vs:List Value) (i:Nat) (w:World) (c:Array Value),w.heap[blk]?=some (.cells c e (0,0))→(∀v∈vs,I6 v)→off+i+vs.length≤c.size→
 (storeCells ⟨blk,off,none⟩ vs i).run P w=.ok () (eA w blk (.cells ⟨bc c.toList (off+i) vs⟩ e (0,0)))
 |[],i,w,c,h,_,_=>by
  have:eA w blk (.cells c e (0,0))=w:=by
   have:w.heap.setIfInBounds blk (.cells c e (0,0))=w.heap:=by
    apply Array.ext_getElem?
    intro k
    rw [Array.getElem?_setIfInBounds]
    split
    ·rename_i hk;subst hk;split<;>simp_all
    rfl
   simp [eA,this]
  cases hc:c.toList with
  |nil=>
   simp [storeCells,bc];have wE:c=#[]:=by simpa using hc
   subst wE;exact this.symm
  |cons x xs=>simp [storeCells,bc];rw [←hc];exact this.symm
 |v::vs,i,w,c,h,hs,hl=>by
  simp only [List.length_cons] at hl
  simp only [storeCells,Sem.run_bind,fN]
  rw [I7 h (by omega) (hs v (by simp))]
  simp only [Result.andThen_ok]
  rw [jw vs (i+1) _ (c.setIfInBounds (off+i) v) (dW h) (fun u hu=>hs u (by simp [hu])) (by simp;omega),Ek,oI]
  congr 4
  simp [show off+(i+1)=off+i+1 by omega]
theorem uO {t:Nat} {ti:TI} (ht:qc P t=some ti) {blk off:Nat} {w:World} {c:Array Value} {e:TypeId} (h:w.heap[blk]?=some (.cells c e (0,0))) {v:Value} {vs:List Value} (hv:v.cells=⟨vs⟩)
 (hs:∀u∈vs,I6 u) (hn:vs.length=ti.size) (hl:off+vs.length≤c.size):
 (storeVar t ⟨blk,off,none⟩ v).run P w=.ok () (eA w blk (.cells ⟨bc c.toList off vs⟩ e (0,0))):=by
 obtain ⟨i,d,h1,h2,h3,h4,h5,h6⟩:=aI ht
 have:=jw (P:=P) (off:=off) vs 0 w c h hs (by simpa using hl)
 simp only [Nat.add_zero] at this
 simp [storeVar,hv,bQ h1,hn,h3,this]
theorem dn:∀(l:List Value) (n:Nat) (vs:List Value),(bc l n vs).length=l.length
 |l,n,[]=>by cases l<;>simp [bc]
 |[],n,v::vs=>by simp [bc]
 |c::cs,0,v::vs=>by simp [bc,dn cs 0 vs]
 |c::cs,n+1,v::vs=>by simp [bc,dn cs n (v::vs)]
end
end Dem
end
section
open Go
namespace Dem
section
variable {P:Program} {T:Nat→Option TI} {G:Nat→Option (List D)} {β:Nat→Nat} {bx:List aA} {w:World} {X:Nat→Prop}
theorem aK {b i:Nat} {B B':aA} (h:(bx.set b B')[i]?=some B):(i=b∧B=B'∧b<bx.length)∨(i≠b∧bx[i]?=some B):=by
 rw [List.getElem?_set] at h
 split at h
 ·rename_i x7;subst x7
  split at h
  ·simp at h;exact .inl ⟨rfl,h.symm,by assumption⟩
  simp at h
 rename_i x7;exact .inr ⟨fun e=>x7 e.symm,h⟩
theorem jz {i:Nat} {B:aA} (h:bx[i]?=some B):i<bx.length:=by
 rcases Nat.lt_or_ge i bx.length with h'|h'
 ·exact h'
 simp [List.getElem?_eq_none h'] at h
theorem jA {b:Nat} {B B':aA} (h:bx[b]?=some B):(bx.set b B')[b]?=some B':=by
 have:=jz h
 simp [this]
theorem iJ {b i:Nat} {B':aA} (hB:B'.born=true) (h:bT bx i):bT (bx.set b B') i:=by
 obtain ⟨B,h1,h2⟩:=h
 by_cases hi:i=b
 ·subst hi;exact ⟨B',jA h1,hB⟩
 exact ⟨B,by rw [List.getElem?_set_ne (Ne.symm hi)];exact h1,h2⟩
theorem mg {b:Nat} {B B':aA} (hb:bx[b]?=some B) (hl:B.live=true) {c c':Array Value} {e:TypeId} (hh:w.heap[β b]?=some (.cells c e (0,0))) (hc:c'.size=c.size) (SM:B'.born=true):
 Ext β bx w β (bx.set b B') (eA w (β b) (.cells c' e (0,0))):=by
 refine ⟨rfl,rfl,rfl,by simp [eA],?_,?_,fun i hi=>⟨rfl,iJ SM hi⟩,?_⟩
 ·intro k hk hl'
  exact iQ (fun e=>hl' b B hb hl e.symm)
 ·intro k c1 e1 f1 hk
  by_cases h:k=β b
  ·subst h
   rw [hh] at hk
   simp only [osI,Obj.cells.injEq] at hk
   obtain ⟨rfl,rfl,rfl⟩:=hk
   exact ⟨c',dW hh,hc⟩
  exact ⟨c1,by rw [iQ h];exact hk,rfl⟩
 intro i b' h1 h2
 rcases aK h1 with ⟨rfl,_,_⟩|⟨_,h3⟩
 ·exact .inr ⟨i,B,hb,hl,rfl⟩
 exact .inr ⟨i,b',h3,h2,rfl⟩
theorem tP (cx:cF G β bx w X) {b:Nat} {B B':aA} (hb:bx[b]?=some B) (hl:B.live=true) {c c':Array Value} {e:TypeId} (hh:w.heap[β b]?=some (.cells c e (0,0))) (hc:c'.size=c.size) (SM:B'.born=true)
 (hok:dm β (bx.set b B') (eA w (β b) (.cells c' e (0,0))) (bf β (bx.set b B') (eA w (β b) (.cells c' e (0,0))) X) B' (β b)):
 cF G β (bx.set b B') (eA w (β b) (.cells c' e (0,0))) X:=by
 refine cx.step (mg hb hl hh hc SM) ?_ ?_
 ·intro i b' h1
  rcases aK h1 with ⟨rfl,rfl,_⟩|⟨h2,h3⟩
  ·exact .inr hok
  refine .inl ⟨h3,fun hl'=>iQ (fun e=>h2 (cx.inj i b b' B h3 hb hl' hl e))⟩
 intro i j bi bj h1 h2 l1 l2 he
 rcases aK h1 with ⟨rfl,rfl,_⟩|⟨h3,h4⟩<;>rcases aK h2 with ⟨rfl,rfl,_⟩|⟨h5,h6⟩
 ·rfl
 ·exact cx.inj _ j B bj hb h6 hl l2 he
 ·exact cx.inj i _ bi B h4 hb l1 hl he
 exact cx.inj i j bi bj h4 h6 l1 l2 he
theorem iK {b:Nat} {B B':aA} (_hb:bx[b]?=some B) (SM:B'.live=false) (dH:B'.born=true):Ext β bx w β (bx.set b B') w:=by
 refine ⟨rfl,rfl,rfl,Nat.le_refl _,fun _ _ _=>rfl,fun k c e f h=>⟨c,h,rfl⟩,fun i hi=>⟨rfl,iJ dH hi⟩,?_⟩
 intro i b' h1 h2
 rcases aK h1 with ⟨rfl,rfl,_⟩|⟨_,h3⟩
 ·rw [SM] at h2;simp at h2
 exact .inr ⟨i,b',h3,h2,rfl⟩
theorem j9 (cx:cF G β bx w X) {b:Nat} {B B':aA} (hb:bx[b]?=some B) (SM:B'.live=false) (dH:B'.born=true)
 (hok:dm β (bx.set b B') w (bf β (bx.set b B') w X) B' (β b)):cF G β (bx.set b B') w X:=by
 refine cx.step (iK hb SM dH) ?_ ?_
 ·intro i b' h1
  rcases aK h1 with ⟨rfl,rfl,_⟩|⟨h2,h3⟩
  ·exact .inr hok
  exact .inl ⟨h3,fun _=>rfl⟩
 intro i j bi bj h1 h2 l1 l2 he
 rcases aK h1 with ⟨rfl,rfl,_⟩|⟨h3,h4⟩
 ·rw [SM] at l1;simp at l1
 rcases aK h2 with ⟨rfl,rfl,_⟩|⟨h5,h6⟩
 ·rw [SM] at l2;simp at l2
 exact cx.inj i j bi bj h4 h6 l1 l2 he
theorem Lw (cx:cF G β bx w X) {b:Nat} {sz:Nat} {es:List (List D)} (hb:bx[b]?=some (.row sz es)):
 Ext β bx w β (bx.set b (.kP sz es)) w∧cF G β (bx.set b (.kP sz es)) w X∧(es=[]∨bf β (bx.set b (.kP sz es)) w X (β b)∧ay w (bf β (bx.set b (.kP sz es)) w X) (β b) sz es 0):=by
 have ex:Ext β bx w β (bx.set b (.kP sz es)) w:=iK hb rfl rfl
 have key:es=[]∨bf β (bx.set b (.kP sz es)) w X (β b)∧ay w (bf β (bx.set b (.kP sz es)) w X) (β b) sz es 0:=by
  rcases cx.box b _ hb with h|⟨c,e,h1,h2⟩
  ·exact .inl h
  cases es with
  |nil=>exact .inl rfl
  |cons r rs=>
   refine .inr ⟨⟨eW h1,cx.apart b _ hb rfl,?_⟩,ay.mono (ex.keeps X) _ _ (fun _=>rfl) _ _ h2⟩
   intro i b' h3 h4 he
   rcases aK h3 with ⟨rfl,rfl,_⟩|⟨h5,h6⟩
   ·simp [aA.live] at h4
   exact h5 (cx.inj i b b' _ h6 hb h4 rfl he)
 exact ⟨ex,j9 cx hb rfl rfl key,key⟩
theorem ay.lens {ok:Nat→Prop} {blk sz:Nat}:∀(es:List (List D)) (off:Nat),ay w ok blk sz es off→∀r∈es,r.length=sz
 |[],_,_=>by simp
 |r::rs,off,h=>by
  simp only [ay] at h
  intro x hx
  rcases List.mem_cons.1 hx with rfl|hx
  ·exact h.1
  exact ay.lens rs _ h.2.2 x hx
theorem ke {ok:Nat→Prop} {blk sz:Nat}:∀(es:List (List D)) (off:Nat),ay w ok blk sz es off→∃vs,vs.length=es.length*sz∧(∀j v,vs[j]?=some v→w.cell? ⟨blk,off+j,none⟩=some v)∧
 ak β bx w ok (es.flatten.map .d) vs
 |[],off,_=>⟨[],by simp,by simp,by simp [ak]⟩
 |r::rs,off,h=>by
  simp only [ay] at h
  obtain ⟨h1,h2,h3⟩:=h
  obtain ⟨vs,g1,g2,g3⟩:=sy (β:=β) (bx:=bx) r off h2
  obtain ⟨us,k1,k2,k3⟩:=ke rs (off+sz) h3
  refine ⟨vs++us,by simp [g1,k1,h1,Nat.add_mul];omega,?_,by simpa using ak.append g3 k3⟩
  intro j v hj
  rcases Nat.lt_or_ge j vs.length with hlt|hge
  ·rw [List.getElem?_append_left hlt] at hj;exact g2 j v hj
  rw [List.getElem?_append_right hge] at hj
  have:=k2 _ v hj
  rwa [show off+sz+(j-vs.length)=off+j by omega] at this
theorem El {ok:Nat→Prop} {blk:Nat}:∀(ds:List D) (off:Nat) (vs:List Value),(∀j v,vs[j]?=some v→w.cell? ⟨blk,off+j,none⟩=some v)→ak β bx w ok (ds.map .d) vs→aX w ok blk ds off
 |[],_,_,_,_=>by simp [aX]
 |x::xs,off,vs,hc,h=>by
  simp only [List.map_cons,ak,aj] at h
  obtain ⟨u,us,rfl,g1,g2⟩:=h
  simp only [aX]
  refine ⟨⟨u,by simpa using hc 0 u rfl,g1⟩,El xs (off+1) us (fun j v hj=>?_) g2⟩
  have:=hc (j+1) v (by simpa using hj)
  rwa [show off+(j+1)=off+1+j by omega] at this
theorem m0 {ok:Nat→Prop} {blk sz:Nat}:∀(es:List (List D)) (off:Nat) (vs:List Value),(∀r∈es,r.length=sz)→(∀j v,vs[j]?=some v→w.cell? ⟨blk,off+j,none⟩=some v)→
 ak β bx w ok (es.flatten.map .d) vs→ay w ok blk sz es off
 |[],_,_,_,_,_=>by simp [ay]
 |r::rs,off,vs,hl,hc,h=>by
  simp only [List.flatten_cons,List.map_append] at h
  have h1:=ak.take r.length h
  have h2:=ak.drop r.length h
  rw [List.take_left' (by simp)] at h1
  rw [List.drop_left' (by simp)] at h2
  have hr:r.length=sz:=hl r (by simp)
  simp only [ay]
  refine ⟨hr,El r off _ (fun j v hj=>?_) h1,m0 rs (off+sz) _ (fun x hx=>hl x (by simp [hx])) (fun j v hj=>?_) h2⟩
  ·rw [List.getElem?_take] at hj
   split at hj
   ·exact hc j v hj
   simp at hj
  rw [List.getElem?_drop] at hj
  have:=hc _ v hj
  rwa [show off+(r.length+j)=off+sz+j by omega] at this
theorem Af {ok:Nat→Prop} {x:AV} {es:List (List D)} {u:Value} (hx:∀b sz n,x≠.ow b sz n) (OZ:x.uK=false) (hr:x.rows bx=some es) (h:aj β bx w ok x u):
 ∃base cap,u=.slice base es.length cap∧es.length≤cap∧(es=[]∨∃blk off sz,base=some ⟨blk,off,none⟩∧ok blk∧ay w ok blk sz es off):=by
 cases x with
 |d y=>
  cases y with
  |sl es'=>simp only [AV.rows,osI] at hr;subst hr;simpa [aj,aJ] using h
  |_=>simp [AV.rows] at hr
 |cl es'=>
  simp only [AV.rows,osI] at hr;subst hr
  simp only [aj] at h
  obtain ⟨base,rfl,g⟩:=h
  exact ⟨base,_,rfl,Nat.le_refl _,g⟩
 |ow b sz n=>exact absurd rfl (hx b sz n)
 |vw b sz off n c ex=>simp [AV.uK] at OZ
 |_=>simp [AV.rows] at hr
theorem ay.Pe {ok:Nat→Prop} {blk sz:Nat}:∀(n:Nat) (es:List (List D)) (off:Nat),ay w ok blk sz es off→ay w ok blk sz (es.drop n) (off+n*sz)
 |0,es,off,h=>by simpa using h
 |n+1,[],off,h=>by simp [ay]
 |n+1,r::rs,off,h=>by
  simp only [ay] at h
  have:=ay.Pe n rs (off+sz) h.2.2
  simpa [Nat.add_mul,show off+sz+n*sz=off+(n*sz+sz) by omega] using this
theorem ay.FV {ok:Nat→Prop} {blk sz:Nat}:∀(n:Nat) (es:List (List D)) (off:Nat),ay w ok blk sz es off→ay w ok blk sz (es.take n) off
 |0,es,off,h=>by simp [ay]
 |n+1,[],off,h=>by simp [ay]
 |n+1,r::rs,off,h=>by
  simp only [ay] at h
  simp only [List.take_succ_cons,ay]
  exact ⟨h.1,h.2.1,ay.FV n rs _ h.2.2⟩
theorem C0 {s sz n m:Nat} {α:Type} {x y:α} (h:(bif Nat.beq s sz&&Nat.ble n m then some x else none)=some y):s=sz∧n≤m∧x=y:=by
 cases h1:Nat.beq s sz<;>cases h2:Nat.ble n m<;>simp [h1,h2] at h
 exact ⟨Nat.eq_of_beq_eq_true h1,Nat.le_of_ble_eq_true h2,h⟩
theorem oJ {b sz off n c:Nat} {ex:Bool} {Lx:List (List D)} {I8:Nat→Prop} {u:Value} {ok:Nat→Prop} (hn:off+n≤Lx.length) (hrows:Lx=[]∨ay w I8 (β b) sz Lx 0) (h:aj β bx w ok (.vw b sz off n c ex) u):
 ∃base cap,u=.slice base ((Lx.drop off).take n).length cap∧((Lx.drop off).take n).length≤cap∧((Lx.drop off).take n=[]∨base=some ⟨β b,off*sz,none⟩∧ay w I8 (β b) sz ((Lx.drop off).take n) (off*sz)):=by
 simp only [aj] at h
 obtain ⟨_,base,cap,cs,e,f,rfl,h1,h2,h3,h4⟩:=h
 have hlen:((Lx.drop off).take n).length=n:=by simp;omega
 refine ⟨base,cap,by rw [hlen],by rw [hlen];exact h1,?_⟩
 by_cases hn0:n=0
 ·subst hn0;exact .inl (by simp)
 right
 rcases h4 with h4|⟨h4,_⟩
 ·omega
 refine ⟨h4,?_⟩
 rcases hrows with rfl|hrows
 ·simp at hn;omega
 have:=ay.FV n _ _ (ay.Pe off _ _ hrows)
 simpa using this
theorem MO {s sz n m:Nat} {α:Type} {x y:α} (h:(bif Nat.beq s sz&&Nat.beq n m then some x else none)=some y):s=sz∧n=m∧x=y:=by
 cases h1:Nat.beq s sz<;>cases h2:Nat.beq n m<;>simp [h1,h2] at h
 exact ⟨Nat.eq_of_beq_eq_true h1,Nat.eq_of_beq_eq_true h2,h⟩
theorem uP (cx:cF G β bx w X) {b sz n:Nat} {es:List (List D)} {u:Value} (hr:(AV.ow b sz n).rows bx=some es) (h:aj β bx w (bf β bx w X) (.ow b sz n) u):
 n=es.length∧(∃base cap,u=.slice base es.length cap∧es.length≤cap∧(es=[]∧cap=0∨es≠[]∧base=some ⟨β b,0,none⟩∧ay w (bf β bx w X) (β b) sz es 0∧
  ∃c e f,w.heap[β b]?=some (.cells c e f)∧cap*sz≤c.size)):=by
 have main:∀es',n=es'.length→(es'=[]∨ay w (bf β bx w X) (β b) sz es' 0)→∃base cap,u=.slice base es'.length cap∧es'.length≤cap∧(es'=[]∧cap=0∨es'≠[]∧base=some ⟨β b,0,none⟩∧ay w (bf β bx w X) (β b) sz es' 0∧
  ∃c e f,w.heap[β b]?=some (.cells c e f)∧cap*sz≤c.size):=by
  intro es' hn hrows
  simp only [aj] at h
  obtain ⟨_,⟨h0,base,rfl⟩|⟨h0,cap,c,e,f,rfl,h1,h2,h3⟩⟩:=h
  ·have:es'=[]:=by simpa using (hn.symm.trans h0)
   subst this
   exact ⟨base,0,by simp,by simp,.inl ⟨rfl,rfl⟩⟩
  rcases hrows with rfl|hrows
  ·exact absurd (by simpa using hn) h0
  exact ⟨_,cap,by rw [hn],by omega,.inr ⟨by rintro rfl;exact h0 (by simpa using hn),rfl,hrows,c,e,f,h2,h3⟩⟩
 simp only [AV.rows] at hr
 split at hr
 ·rename_i s es' hb
  obtain ⟨rfl,rfl,rfl⟩:=MO hr
  exact ⟨rfl,main _ rfl ((cx.box b _ hb).imp id fun ⟨_,_,_,g⟩=>g)⟩
 ·rename_i s es' hb
  obtain ⟨rfl,rfl,rfl⟩:=MO hr
  exact ⟨rfl,main _ rfl ((cx.box b _ hb).imp id fun ⟨_,g⟩=>g)⟩
 simp at hr
theorem VK {b sz n:Nat} {y:D} (h:(AV.ow b sz n).rY bx=some y):∃es,y=.sl es∧(AV.ow b sz n).rows bx=some es:=by
 simp only [AV.rY] at h
 simp only [AV.rows]
 split at h
 ·rename_i s es hb
  obtain ⟨rfl,rfl,rfl⟩:=MO h
  exact ⟨es,rfl,by simp [hb]⟩
 ·rename_i s es hb
  obtain ⟨rfl,rfl,rfl⟩:=MO h
  exact ⟨es,rfl,by simp [hb]⟩
 simp at h
theorem kf (cx:cF G β bx w X) {x:AV} {es:List (List D)} {u:Value} (hr:x.rows bx=some es) (h:aj β bx w (bf β bx w X) x u):
 Ext β bx w β (x.cq bx) w∧cF G β (x.cq bx) w X∧
 ∃base cap,u=.slice base es.length cap∧es.length≤cap∧(es=[]∨∃blk off sz,base=some ⟨blk,off,none⟩∧bf β (x.cq bx) w X blk∧ay w (bf β (x.cq bx) w X) blk sz es off):=by
 by_cases hx:∃b sz n,x=.ow b sz n
 ·obtain ⟨b,sz,n,rfl⟩:=hx
  obtain ⟨hn,base,cap,rfl,h1,h2⟩:=uP cx hr h
  simp only [AV.rows] at hr
  split at hr
  ·rename_i s es' hb
   obtain ⟨rfl,_,rfl⟩:=MO hr
   obtain ⟨g1,g2,g3⟩:=Lw cx hb
   have qx:(AV.ow b s n).cq bx=bx.set b (.kP s es'):=by simp [AV.cq,hb]
   rw [qx]
   refine ⟨g1,g2,base,cap,rfl,h1,?_⟩
   rcases h2 with ⟨rfl,_⟩|⟨hne,rfl,_⟩
   ·exact .inl rfl
   rcases g3 with rfl|⟨g3,g4⟩
   ·exact .inl rfl
   exact .inr ⟨β b,0,s,rfl,g3,g4⟩
  ·rename_i s es' hb
   obtain ⟨rfl,_,rfl⟩:=MO hr
   have qx:(AV.ow b s n).cq bx=bx:=by simp [AV.cq,hb]
   rw [qx]
   refine ⟨Ext.refl _ _ _,cx,base,cap,rfl,h1,?_⟩
   rcases h2 with ⟨rfl,_⟩|⟨hne,rfl,g,_⟩
   ·exact .inl rfl
   rcases cx.box b _ hb with rfl|⟨g3,g4⟩
   ·exact .inl rfl
   exact .inr ⟨β b,0,s,rfl,g3,g4⟩
  simp at hr
 have hx':∀b sz n,x≠.ow b sz n:=fun b sz n e=>hx ⟨b,sz,n,e⟩
 cases hv:x.uK with
 |true=>
  cases x with
  |vw b sz off n c ex=>
   simp only [AV.rows] at hr
   split at hr
   ·rename_i s es' hb
    obtain ⟨rfl,hle,rfl⟩:=C0 hr
    obtain ⟨g1,g2,g3⟩:=Lw cx hb
    have qx:(AV.vw b s off n c ex).cq bx=bx.set b (.kP s es'):=by simp [AV.cq,hb]
    rw [qx]
    refine ⟨g1,g2,?_⟩
    obtain ⟨base,cap,rfl,k1,k2⟩:=oJ (I8:=bf β (bx.set b (.kP s es')) w X) hle (g3.imp id fun g=>g.2) h
    refine ⟨base,cap,rfl,k1,?_⟩
    rcases g3 with rfl|⟨g3,_⟩
    ·left;simp
    rcases k2 with k2|⟨rfl,k3⟩
    ·exact .inl k2
    exact .inr ⟨β b,off*s,s,rfl,g3,k3⟩
   ·rename_i s es' hb
    obtain ⟨rfl,hle,rfl⟩:=C0 hr
    have qx:(AV.vw b s off n c ex).cq bx=bx:=by simp [AV.cq,hb]
    rw [qx]
    refine ⟨Ext.refl _ _ _,cx,?_⟩
    have g3:=cx.box b _ hb
    obtain ⟨base,cap,rfl,k1,k2⟩:=oJ (I8:=bf β bx w X) hle (g3.imp id fun g=>g.2) h
    refine ⟨base,cap,rfl,k1,?_⟩
    rcases g3 with rfl|⟨g3,_⟩
    ·left;simp
    rcases k2 with k2|⟨rfl,k3⟩
    ·exact .inl k2
    exact .inr ⟨β b,off*s,s,rfl,g3,k3⟩
   simp at hr
  |_=>simp [AV.uK] at hv
 |false=>
 have qx:x.cq bx=bx:=by cases x<;>simp_all [AV.cq,AV.uK]
 rw [qx]
 exact ⟨Ext.refl _ _ _,cx,Af hx' hv hr h⟩
theorem Ag (cx:cF G β bx w X) {x:AV} {y:D} {u:Value} (hd:x.rY bx=some y) (h:aj β bx w (bf β bx w X) x u):
 Ext β bx w β (x.cq bx) w∧cF G β (x.cq bx) w X∧aJ w (bf β (x.cq bx) w X) y u:=by
 cases x with
 |d x=>simp only [AV.rY,osI] at hd;subst hd;exact ⟨Ext.refl _ _ _,cx,h⟩
 |cl es=>
  simp only [AV.rY,osI] at hd;subst hd
  obtain ⟨g1,g2,g3⟩:=kf cx (x:=.cl es) (es:=es) rfl h
  exact ⟨g1,g2,by simpa [aJ] using g3⟩
 |ow b sz n=>
  obtain ⟨es,rfl,hr⟩:=VK hd
  obtain ⟨g1,g2,g3⟩:=kf cx hr h
  exact ⟨g1,g2,by simpa [aJ] using g3⟩
 |fn f cs=>
  cases cs with
  |nil=>
   simp only [AV.rY,osI] at hd;subst hd
   simp only [aj,ak] at h
   obtain ⟨vs,rfl,rfl⟩:=h
   exact ⟨Ext.refl _ _ _,cx,by simp [Ac,aJ]⟩
  |cons c cs=>simp [AV.rY] at hd
 |_=>simp [AV.rY] at hd
theorem uQ {z:AV} {i s:Nat} {es:List (List D)} (h:bx[i]?=some (.row s es)∨bx[i]?=some (.kP s es)):(z.cq bx)[i]?=some (.row s es)∨(z.cq bx)[i]?=some (.kP s es):=by
 cases z with
 |ow b sz n=>
  simp only [AV.cq]
  split
  ·rename_i s' es' hb
   by_cases hi:i=b
   ·subst hi
    rw [hb] at h
    simp at h
    obtain ⟨rfl,rfl⟩:=h
    exact .inr (jA hb)
   rw [List.getElem?_set_ne (Ne.symm hi)];exact h
  exact h
 |vw b sz off n c ex=>
  simp only [AV.cq]
  split
  ·rename_i s' es' hb
   by_cases hi:i=b
   ·subst hi
    rw [hb] at h
    simp at h
    obtain ⟨rfl,rfl⟩:=h
    exact .inr (jA hb)
   rw [List.getElem?_set_ne (Ne.symm hi)];exact h
  exact h
 |_=>exact h
theorem C1 {x z:AV} {y:D} (h:x.rY bx=some y):x.rY (z.cq bx)=some y:=by
 cases x with
 |ow b sz n=>
  simp only [AV.rY] at h ⊢
  split at h
  ·rename_i s es hb
   rcases uQ (z:=z) (.inl hb) with g|g<;>simp [g,h]
  ·rename_i s es hb
   rcases uQ (z:=z) (.inr hb) with g|g<;>simp [g,h]
  simp at h
 |fn f cs=>cases cs with
  |nil=>exact h
  |cons c cs=>exact h
 |_=>exact h
theorem tQ {z:AV}:∀{xs:List AV} {ys:List D},iU bx xs=some ys→iU (z.cq bx) xs=some ys
 |[],ys,h=>h
 |x::xs,ys,h=>by
  simp only [iU] at h ⊢
  split at h
  ·rename_i y ys' hy hys
   rw [C1 hy,tQ hys];exact h
  simp at h
theorem wK:∀(xs:List AV) (bx:List aA) (ys:List D) (vs:List Value),cF G β bx w X→iU bx xs=some ys→ak β bx w (bf β bx w X) xs vs→
 Ext β bx w β (eD bx xs) w∧cF G β (eD bx xs) w X∧ak β (eD bx xs) w (bf β (eD bx xs) w X) (ys.map .d) vs
 |[],bx,ys,vs,cx,hd,h=>by simp [iU] at hd;subst hd;exact ⟨Ext.refl _ _ _,cx,by simpa [eD] using h⟩
 |x::xs,bx,ys,vs,cx,hd,h=>by
  simp only [iU] at hd
  split at hd
  ·rename_i y ys' hy hys
   simp at hd;subst hd
   simp only [ak] at h
   obtain ⟨u,us,rfl,g1,g2⟩:=h
   obtain ⟨e1,c1,r1⟩:=Ag cx hy g1
   obtain ⟨e2,c2,r2⟩:=wK xs (x.cq bx) ys' us c1 (tQ hys) (ak.mono (e1.eT X) _ _ g2)
   refine ⟨e1.trans e2,c2,?_⟩
   simp only [eD,List.map_cons,ak,aj]
   exact ⟨u,us,rfl,aJ.mono (e2.keeps X) _ _ r1,r2⟩
  simp at hd
theorem mh:∀(l m:List Value) (n:Nat) (vs:List Value),n+vs.length≤l.length→bc (l++m) n vs=bc l n vs++m
 |l,m,n,[],_=>by cases l<;>cases m<;>simp [bc]
 |[],m,n,v::vs,h=>by simp at h
 |c::cs,m,0,v::vs,h=>by
  simp only [List.length_cons] at h
  simp only [List.cons_append,bc]
  rw [mh cs m 0 vs (by omega)]
 |c::cs,m,n+1,v::vs,h=>by
  simp only [List.length_cons] at h
  simp only [List.cons_append,bc]
  rw [mh cs m n (v::vs) (by simp;omega)]
theorem mj:∀(l:List D) (n:Nat) (vs:List D),(be l n vs).length=l.length
 |l,n,[]=>by cases l<;>simp [be]
 |[],n,v::vs=>by simp [be]
 |c::cs,0,v::vs=>by simp [be,mj cs 0 vs]
 |c::cs,n+1,v::vs=>by simp [be,mj cs n (v::vs)]
theorem qy:∀(l:List D) (n:Nat) (vs:List D),(be l n vs).map AV.d=eO (l.map .d) n (vs.map .d)
 |l,n,[]=>by cases l<;>simp [be,eO]
 |[],n,v::vs=>by simp [be,eO]
 |c::cs,0,v::vs=>by simp [be,eO,qy cs 0 vs]
 |c::cs,n+1,v::vs=>by simp [be,eO];rw [qy cs n (v::vs)];simp
theorem uR:∀(l m:List D) (n:Nat) (vs:List D),be (l++m) (l.length+n) vs=l++be m n vs
 |[],m,n,vs=>by simp
 |c::cs,m,n,vs=>by
  cases vs with
  |nil=>cases m<;>simp [be]
  |cons v vs=>
   rw [show (c::cs).length+n=(cs.length+n)+1 by simp;omega]
   simp only [List.cons_append,be]
   rw [uR cs m n (v::vs)]
theorem nB:∀(l m:List D) (n:Nat) (vs:List D),n+vs.length≤l.length→be (l++m) n vs=be l n vs++m
 |l,m,n,[],_=>by cases l<;>cases m<;>simp [be]
 |[],m,n,v::vs,h=>by simp at h
 |c::cs,m,0,v::vs,h=>by
  simp only [List.length_cons] at h
  simp only [List.cons_append,be]
  rw [nB cs m 0 vs (by omega)]
 |c::cs,m,n+1,v::vs,h=>by
  simp only [List.length_cons] at h
  simp only [List.cons_append,be]
  rw [nB cs m n (v::vs) (by simp;omega)]
theorem qz {sz:Nat}:∀(es:List (List D)) (i j:Nat) (ds:List D),(∀r∈es,r.length=sz)→i<es.length→j+ds.length≤(es.getD i []).length→
 (es.set i (be (es.getD i []) j ds)).flatten=be es.flatten (i*sz+j) ds
 |[],i,j,ds,_,h,_=>by simp at h
 |r::rs,0,j,ds,hl,_,hj=>by
  simp at hj
  simp only [List.set_cons_zero,List.flatten_cons,Nat.zero_mul,Nat.zero_add]
  rw [nB r _ j ds hj]
  simp
 |r::rs,i+1,j,ds,hl,hi,hj=>by
  have hr:r.length=sz:=hl r (by simp)
  simp at hi hj
  have:=qz rs i j ds (fun x hx=>hl x (by simp [hx])) hi (by simpa using hj)
  simp only [List.set_cons_succ,List.flatten_cons,List.getD_cons_succ]
  rw [this,show (i+1)*sz+j=r.length+(i*sz+j) by rw [hr,Nat.add_mul];omega,uR]
theorem Pf {ok:Nat→Prop} {x:AV} {y:D} {u:Value} (h:x.rY []=some y) (hx:aj β bx w ok x u):aJ w ok y u:=by
 cases x with
 |d x=>simp only [AV.rY,osI] at h;subst h;simpa [aj] using hx
 |cl es=>
  simp only [AV.rY,osI] at h;subst h
  simp only [aj] at hx
  obtain ⟨base,rfl,g⟩:=hx
  simp only [aJ];exact ⟨base,_,rfl,Nat.le_refl _,g⟩
 |ow b sz n=>simp [AV.rY] at h
 |fn f cs=>
  cases cs with
  |nil=>
   simp only [AV.rY,osI] at h;subst h
   simp only [aj,ak] at hx
   obtain ⟨vs,rfl,rfl⟩:=hx
   simp [aJ,Ac]
  |cons c cs=>simp [AV.rY] at h
 |_=>simp [AV.rY] at h
theorem sB {ok:Nat→Prop}:∀{xs:List AV} {ys:List D} {us:List Value},iU [] xs=some ys→ak β bx w ok xs us→ak β bx w ok (ys.map .d) us
 |[],ys,us,h,hx=>by simp [iU] at h;subst h;simpa using hx
 |x::xs,ys,us,h,hx=>by
  simp only [iU] at h
  split at h
  ·rename_i y ys' h1 h2
   simp only [osI] at h;subst h
   simp only [ak] at hx
   obtain ⟨u,Pd,rfl,g1,g2⟩:=hx
   simp only [List.map_cons,ak,aj]
   exact ⟨u,Pd,rfl,Pf h1 g1,sB h2 g2⟩
  simp at h
end
end Dem
end
section
open Go
namespace Dem
section
variable {P:Program} {T:Nat→Option TI} {G:Nat→Option (List D)} {β:Nat→Nat} {bx:List aA} {w:World} {X:Nat→Prop}
theorem oK {w:World} {blk:Nat} {c:Array Value} {e:TypeId} {f:Nat×Nat} (h:w.heap[blk]?=some (.cells c e f)) {vs:List Value} (hc:∀j v,vs[j]?=some v→w.cell? ⟨blk,0+j,none⟩=some v):
 ∃rest,c.toList=vs++rest:=by
 refine ⟨c.toList.drop vs.length,?_⟩
 have:vs=c.toList.take vs.length:=by
  apply List.ext_getElem?
  intro j
  rw [List.getElem?_take]
  split
  ·rename_i hj
   have h1:=hc j vs[j] (by simp [hj])
   simp only [World.cell?,h] at h1
   simp only [hj,List.getElem?_eq_getElem]
   simpa using h1.symm
  rename_i hj;simp;omega
 conv=>lhs;rw [←List.take_append_drop vs.length c.toList]
 rw [←this]
theorem Pg {es:List (List D)} {i:Nat} (h:i<es.length):es.getD i []∈es:=by
 simp [List.getD_eq_getElem?_getD,h]
theorem FW (hT:kH P T) (cx:cF G β bx w X) {t:Nat} {ti:TI} (ht:T t=some ti) {a x:AV} {ua ux:Value} (ha:aj β bx w (bf β bx w X) a ua) (hx:aj β bx w (bf β bx w X) x ux)
 {c:Prop} {v:AV} {b:Option (List aA)} (hr:tM ti a x bx=some ⟨c,v,b⟩) (hc:c):
 v=.any∧∃aL w',b=some aL∧(Instr.storeAt t ua ux).run P w=.ok () w'∧Ext β bx w β aL w'∧cF G β aL w' X:=by
 have ht':=hT.ti t ti ht
 unfold tM at hr
 split at hr
 ·simp at hr
 rename_i vs hvs
 cases hn:Nat.beq vs.length ti.size with
 |false=>simp [hn] at hr
 |true=>
 have hn':=Nat.eq_of_beq_eq_true hn
 simp only [hn,cond_true] at hr
 obtain ⟨us,hcells,SN,hsc⟩:=nP hvs hx
 have hul:=ak.length SN
 split at hr
 ·rename_i b' off
  simp only [aj] at ha
  obtain ⟨rfl,hb⟩:=ha
  split at hr
  ·rename_i cs sA
   cases hle:Nat.ble (off+vs.length) cs.length with
   |false=>simp [hle] at hr
   |true=>
   have hle':=Nat.le_of_ble_eq_true hle
   simp only [hle,cond_true,osI,R.mk.injEq] at hr
   obtain ⟨_,rfl,rfl⟩:=hr
   obtain ⟨ca,e,h1,h2⟩:=cx.box _ _ sA
   have SO:=ak.length h2
   have hrun:=uO (P:=P) ht' h1 hcells hsc (by omega) (off:=off) (by simp at SO;omega)
   refine ⟨rfl,_,_,rfl,by simpa [Instr.storeAt,Instr.sureAddr] using hrun,?_,?_⟩
   ·exact mg sA rfl h1 (by simp [dn]) rfl
   have ex:=mg (B':=.var (eO cs off vs)) (c':=⟨bc ca.toList off us⟩) sA rfl h1 (by simp [dn]) rfl
   refine tP cx sA rfl h1 (by simp [dn]) rfl ⟨_,e,dW h1,?_⟩
   exact ak.mono (ex.eT X) _ _ (ak.eO off h2 SN)
  simp at hr
 ·rename_i b' sz i j
  simp only [aj] at ha
  obtain ⟨rfl,hb⟩:=ha
  split at hr
  ·rename_i ds hds
   split at hr
   ·rename_i s es sA
    simp only [osI,R.mk.injEq] at hr
    obtain ⟨rfl,rfl,rfl⟩:=hr
    obtain ⟨rfl,hi,hj⟩:=hc
    obtain ⟨e1,c1,r1⟩:=wK vs bx ds us cx hds SN
    rcases c1.box _ _ sA with rfl|⟨ca,e,h1,h2⟩
    ·simp at hi
    have x9:=ay.lens _ _ h2
    obtain ⟨C2,g1,g2,g3⟩:=ke (β:=β) (bx:=eD bx vs) es 0 h2
    obtain ⟨rest,pV⟩:=oK h1 g2
    have Sq:us.length=ds.length:=by simpa using ak.length r1
    have hrow:(es.getD i []).length=s:=x9 _ (Pg hi)
    have hle:i*s+j+us.length≤C2.length:=by
     rw [g1,Sq]
     have:(i+1)*s≤es.length*s:=Nat.mul_le_mul_right _ hi
     rw [Nat.add_mul] at this;omega
    have hsize:ca.size=C2.length+rest.length:=by
     have:=congrArg List.length pV;simpa using this
    have cz:(aA.row s es).live=true:=by cases es<;>simp_all [aA.live]
    have hrun:=uO (P:=P) ht' h1 hcells hsc (by omega) (off:=i*s+j) (by omega)
    have hne:es.set i (be (es.getD i []) j ds)≠[]:=by cases es<;>simp_all
    have ex:=mg (B':=.row s (es.set i (be (es.getD i []) j ds))) (c':=⟨bc ca.toList (i*s+j) us⟩) sA cz h1 (by simp [dn]) rfl
    refine ⟨rfl,_,_,rfl,by simpa [Instr.storeAt,Instr.sureAddr] using hrun,e1.trans ex,?_⟩
    refine tP c1 sA cz h1 (by simp [dn]) rfl (.inr ⟨_,e,dW h1,?_⟩)
    refine m0 (β:=β) (bx:=(eD bx vs).set b' (.row s (es.set i (be (es.getD i []) j ds)))) _ _ (bc C2 (i*s+j) us) ?_ ?_ ?_
    ·intro r hr
     rcases List.mem_or_eq_of_mem_set hr with hr|rfl
     ·exact x9 r hr
     rw [mj];exact hrow
    ·intro k u hk
     simp only [World.cell?,dW h1]
     have:(bc ca.toList (i*s+j) us)[k]?=some u:=by
      rw [pV,mh _ _ _ _ hle,List.getElem?_append_left]
      ·exact hk
      rcases Nat.lt_or_ge k (bc C2 (i*s+j) us).length with h|h
      ·exact h
      simp [List.getElem?_eq_none h] at hk
     simpa using this
    rw [qz es i j ds x9 hi hj,qy]
    exact ak.mono (ex.eT X) _ _ (ak.eO _ g3 r1)
   simp at hr
  simp at hr
 simp at hr
end
end Dem
end
section
open Go
namespace Dem
section
variable {P:Program} {T:Nat→Option TI} {G:Nat→Option (List D)} {β:Nat→Nat} {bx:List aA} {w:World} {X:Nat→Prop}
theorem Ah {ok:Nat→Prop} (v:Value):aj β bx w ok (I4 v) v:=by
 unfold I4
 split<;>simp only [aj,aJ,KC.val]
 exact ⟨none,rfl,.inl trv⟩
theorem C3 {ok:Nat→Prop}:∀vs:List Value,ak β bx w ok (vs.map I4) vs
 |[]=>by simp [ak]
 |v::vs=>by simp only [List.map_cons,ak];exact ⟨v,vs,rfl,Ah v,C3 vs⟩
theorem uS {ok:Nat→Prop} (v:Value):aj β bx w ok (SF v) v:=by
 unfold SF
 split
 ·rename_i cs
  simp only [aj]
  exact ⟨cs.toList,rfl,C3 _⟩
 exact Ah v
theorem ya (cx:cF G β bx w X) (t:Nat) {x:AV} {u:Value} {cs:List AV} (hx:x.cells?=some cs) (h:aj β bx w (bf β bx w X) x u):
 ∃β' w',(newVar t u).run P w=.ok ⟨β' bx.length,0,none⟩ w'∧Ext β bx w β' (bx++[.var cs]) w'∧cF G β' (bx++[.var cs]) w' X:=by
 obtain ⟨vs,h1,h2,h3⟩:=nP hx h
 refine ⟨lz β bx.length w.heap.size,{w with heap:=w.heap.push (.cells ⟨vs⟩ t)},?_,gj _ _,kS cx _ _ ?_⟩
 ·simp [newVar,newRow,newObj,Sem.run,h1,bp]
 refine ⟨⟨vs⟩,t,jv _ _,?_⟩
 exact ak.mono ((gj (β:=β) (bx:=bx) (w:=w) (.cells ⟨vs⟩ t) (.var cs)).eT X) _ _ h2
theorem FX {t:Nat} {ti:TI} (ht:qc P t=some ti) {f o ft:Nat} (ho:zY ti.kd f=some (o,ft)) {tf:TI} (hft:qc P ft=some tf) (hs:tf.size≠0) (blk off:Nat):
 (Instr.fieldAt t (.pointer (some ⟨blk,off,none⟩)) f).run P w=.ok (.pointer (some ⟨blk,off+o,none⟩)) w:=by
 obtain ⟨i,d,h1,h2,h3,h4,h5,h6⟩:=aI ht
 obtain ⟨fi,fd,g1,g2,g3,g4,g5,g6⟩:=aI hft
 rw [h5] at ho
 cases d<;>simp [cP,zY] at ho
 rename_i fs
 obtain ⟨fl,hfl,rfl,rfl⟩:=ho
 have hsz:fi.size≠0:=by rw [←g3];exact hs
 simp [Instr.fieldAt,aQ h2,hfl,Instr.sureAddr,fieldPlace,bQ g1,hsz,fN]
theorem nQ {t:Nat} {ti:TI} (ht:qc P t=some ti) {cs:List AV} {v:AV} {vs:List Value} {ok:Nat→Prop} {off:Nat}
 (hs:cH ti.kd.isAgg ti.size (cs.drop off)=some v) (hr:ak β bx w ok cs vs):
 ∃u,(part t ⟨vs⟩ off).run P w=.ok u w∧aj β bx w ok v u:=by
 obtain ⟨i,d,h1,h2,h3,h4,h5,h6⟩:=aI ht
 have hr':=ak.drop off hr
 unfold cH at hs
 simp only [part,Sem.run_bind,CZ h2,Result.andThen_ok,h5] at hs ⊢
 cases hk:(cP d).isAgg with
 |true=>
  simp only [hk,cond_true] at hs
  cases hle:Nat.ble ti.size (cs.drop off).length with
  |false=>rw [hle] at hs;simp at hs
  |true=>
   simp only [hle,cond_true,osI] at hs
   subst hs
   simp only [if_true,Sem.run_bind,bQ h1,Result.andThen_ok]
   refine ⟨_,rfl,?_⟩
   simp only [aj]
   refine ⟨(vs.drop off).take ti.size,?_,ak.take _ hr'⟩
   simp [h3,List.extract_eq_take_drop]
 |false=>
  simp only [hk,cond_false] at hs
  cases hc:cs.drop off with
  |nil=>simp [hc] at hs
  |cons c cs'=>
   simp [hc] at hs;subst hs
   rw [hc] at hr'
   simp only [ak] at hr'
   obtain ⟨u,us,hd,g1,_⟩:=hr'
   have:vs[off]?=some u:=by
    have:=congrArg (fun l=>l[0]?) hd
    simpa using this
   simp [this]
   exact g1
theorem FY (ok:Nat→Prop) {op:BinOp} {k:IntKind} {x y:Int} {c:Prop} {d:D} (h:SG op k x y=some (c,d)) (hc:c) (t:Nat):
 ∃u,(Go.binOp op t (.int k x) (.int k y)).run P w=.ok u w∧aJ w ok d u:=by
 cases op<;>simp only [SG,osI,Prod.mk.injEq,reduceCtorEq] at h<;>obtain ⟨rfl,rfl⟩:=h<;>
  simp [Go.binOp,Op.intArith,Op.intDiv,Op.intBits,Op.intCmp,aJ,hc]<;>first|rfl|(simp [bne];done)|skip
theorem toList_mk (s:List UInt8):(⟨s.toArray⟩:ByteArray).toList=s:=by rw [ByteArray.toList_eq]
theorem SP (x y:List UInt8):(x==y)=decide (x=y):=by
 cases h:(x==y)
 ·simp at h;simp [h]
 simp at h;simp [h]
theorem Ph (ok:Nat→Prop) {op:BinOp} {x y:List UInt8} {c:Prop} {d:D} (h:SH op x y=some (c,d)) (hc:c) (t:Nat):
 ∃u,(Go.binOp op t (.string ⟨x.toArray⟩) (.string ⟨y.toArray⟩)).run P w=.ok u w∧aJ w ok d u:=by
 cases op<;>simp only [SH,osI,Prod.mk.injEq,reduceCtorEq] at h<;>obtain ⟨rfl,rfl⟩:=h<;>
  simp only [Go.binOp,Op.stringOp,toList_mk]
 ·have:¬(((⟨x.toArray⟩:ByteArray).size+(⟨y.toArray⟩:ByteArray).size:Nat):Int)>IntKind.i64.max:=by
   have h1:(⟨x.toArray⟩:ByteArray).size=x.length:=by simp [ByteArray.size]
   have h2:(⟨y.toArray⟩:ByteArray).size=y.length:=by simp [ByteArray.size]
   have h3:IntKind.i64.max=9223372036854775807:=by decide
   rw [h1,h2,h3];omega
  rw [if_neg this]
  refine ⟨_,rfl,?_⟩
  simp only [aJ]
  congr 1
 all_goals exact ⟨_,rfl,by simp [aJ,SP]⟩
theorem Pj {op:BinOp} {x y:AV} {ux uy:Value} {c:Prop} {d:D} {ok:Nat→Prop} (h:O4 op x y=some (c,d)) (hc:c) (hx:aj β bx w ok x ux) (hy:aj β bx w ok y uy) (t:Nat):
 ∃u,(Go.binOp op t ux uy).run P w=.ok u w∧aJ w ok d u∧(∀a b:Operand,(eqGuard op t a b ux uy).run P w=.ok () w):=by
 have Ai:∀(k:IntKind) (n:Int) (v:Value) (a b:Operand),(eqGuard op t a b (.int k n) v).run P w=.ok () w:=by
  intro k n v a b;simp only [eqGuard];split<;>simp
 have Pk:∀(s:ByteArray) (v:Value) (a b:Operand),(eqGuard op t a b (.string s) v).run P w=.ok () w:=by
  intro s v a b;simp only [eqGuard];split<;>simp
 unfold O4 at h
 split at h
 ·simp only [aj,aJ] at hx hy;subst hx;subst hy
  simp only [osI,Prod.mk.injEq] at h;obtain ⟨rfl,rfl⟩:=h
  have hn:=Int.not_lt.2 hc
  exact ⟨_,by simp only [Go.binOp,Op.shift,if_neg hn];rfl,by simp only [aJ],Ai _ _ _⟩
 ·simp only [aj,aJ] at hx hy;subst hx;subst hy
  simp only [osI,Prod.mk.injEq] at h;obtain ⟨rfl,rfl⟩:=h
  have hn:=Int.not_lt.2 hc
  exact ⟨_,by simp only [Go.binOp,Op.shift,if_neg hn];rfl,by simp only [aJ],Ai _ _ _⟩
 ·rename_i k x k' y _ _
  simp only [aj,aJ] at hx hy;subst hx;subst hy
  cases hk:(k==k') with
  |false=>simp [hk] at h
  |true=>
   simp only [hk,cond_true] at h
   have:k=k':=by simpa using hk
   subst this
   obtain ⟨u,h1,h2⟩:=FY (P:=P) (w:=w) ok h hc t
   exact ⟨u,h1,h2,Ai _ _ _⟩
 ·rename_i x y _ _
  simp only [aj,aJ] at hx hy;subst hx;subst hy
  obtain ⟨u,h1,h2⟩:=Ph (P:=P) (w:=w) ok h hc t
  exact ⟨u,h1,h2,Pk _ _⟩
 simp at h
theorem SQ {op:UnOp} {x:AV} {ux:Value} {d:D} {ok:Nat→Prop} (h:XC op x=some d) (hx:aj β bx w ok x ux):
 ∃u,(Op.unary op ux).run P w=.ok u w∧aJ w ok d u:=by
 unfold XC at h
 split at h<;>(try (simp at h;done))<;>simp only [aj,aJ] at hx<;>subst hx<;>simp only [osI] at h<;>subst h
 ·exact ⟨_,rfl,by simp [aJ]⟩
 ·exact ⟨_,rfl,by simp [aJ]⟩
 exact ⟨_,rfl,by simp [aJ]⟩
end
end Dem
end
section
open Go
namespace Dem
section
variable {P:Program} {T:Nat→Option TI} {G:Nat→Option (List D)} {β:Nat→Nat} {bx:List aA} {w:World} {X:Nat→Prop}
theorem ay.drop {ok:Nat→Prop} {blk sz:Nat}:∀(n:Nat) (es:List (List D)) (off:Nat),ay w ok blk sz es off→ay w ok blk sz (es.drop n) (off+n*sz)
 |0,es,off,h=>by simpa using h
 |n+1,[],off,h=>by simp [ay]
 |n+1,r::rs,off,h=>by
  simp only [ay] at h
  have:=ay.drop n rs (off+sz) h.2.2
  simpa [Nat.add_mul,show off+sz+n*sz=off+(n*sz+sz) by omega] using this
theorem ay.take {ok:Nat→Prop} {blk sz:Nat}:∀(n:Nat) (es:List (List D)) (off:Nat),ay w ok blk sz es off→ay w ok blk sz (es.take n) off
 |0,es,off,h=>by simp [ay]
 |n+1,[],off,h=>by simp [ay]
 |n+1,r::rs,off,h=>by
  simp only [ay] at h
  simp only [List.take_succ_cons,ay]
  exact ⟨h.1,h.2.1,ay.take n rs _ h.2.2⟩
def BV:Option Int→Option Value→Prop
 |none,none=>True
 |some z,some (.int _ z')=>z'=z
 |_,_=>False
theorem oL {ev:Operand→AV} {ρ:Operand→Value} {x:Option Operand} {l:Option Int} {ok:Nat→Prop} (h:Cp ev x=some l) (hr:∀y,x=some y→aj β bx w ok (ev y) (ρ y)):BV l (x.map ρ):=by
 cases x with
 |none=>simp [Cp] at h;subst h;trivial
 |some y=>
  have hy:=hr y rfl
  simp only [Cp] at h
  split at h
  ·rename_i k n he
   simp at h;subst h
   rw [he] at hy
   simp only [aj,aJ] at hy
   simp [BV,hy]
  simp at h
theorem zF {α:Type} (l:List α) (lo hi:Option Int):iH l lo hi=(l.drop (aV lo)).take (aP l.length hi-aV lo):=by
 cases lo<;>cases hi<;>simp [iH,aV,aP]
 rw [List.take_of_length_le];simp
theorem m5 {len:Nat} {lo hi:Option Int} (h:bN len lo hi):aV lo≤aP len hi∧aP len hi≤len:=by
 cases lo<;>cases hi<;>simp [bN,aV,aP] at*<;>omega
theorem iR {x:Value} {z:Int} {y:Nat} {code:BoundsCode} (hx:BV (some z) (some x)) (h0:0≤z) (h1:z≤y):(Instr.sliceBound x y code).run P w=.ok z.toNat w:=by
 cases x<;>simp [BV] at hx
 subst hx
 simp [Instr.sliceBound,asIntOf,h0,h1]
theorem oM {U6:Bool} {len cap:Nat} {lo hi:Option Int} {vl vh:Option Value} (hl:BV lo vl) (hh:BV hi vh) (hc:bN len lo hi) (hcap:len≤cap):
 (Instr.sliceBounds U6 len cap vl vh none).run P w=.ok (aV lo,aP len hi,cap) w:=by
 have hle:=m5 hc
 have low:∀(x:Value) (z:Int),BV (some z) (some x)→lo=some z→(Instr.sliceBound x (aP len hi) .sliceB).run P w=.ok z.toNat w:=by
  intro x z hx he
  subst he
  exact iR hx (by cases hi<;>simp [bN] at hc<;>omega) (by simp [aV] at hle;omega)
 cases hi with
 |none=>
  cases vh with
  |some _=>simp [BV] at hh
  |none=>
  cases lo with
  |none=>cases vl<;>simp [BV] at hl;simp [Instr.sliceBounds,aV,aP]
  |some z=>
   cases vl with
   |none=>simp [BV] at hl
   |some x=>
    have:=low x z hl rfl
    simp only [aP] at this
    simp [Instr.sliceBounds,this,aV,aP]
 |some h=>
  cases vh with
  |none=>simp [BV] at hh
  |some xh=>
  have hb:=iR (P:=P) (w:=w) (y:=cap) (code:=if U6 then .sliceAcap else .sliceAlen) hh (by cases lo<;>simp [bN] at hc<;>omega) (by cases lo<;>simp [bN] at hc<;>omega)
  cases lo with
  |none=>cases vl<;>simp [BV] at hl;simp [Instr.sliceBounds,aV,aP,hb]
  |some z=>
   cases vl with
   |none=>simp [BV] at hl
   |some x=>
    have:=low x z hl rfl
    simp only [aP] at this
    simp [Instr.sliceBounds,this,aV,aP,hb]
theorem FZ {len cap:Nat} {lo:Option Int} {h:Int} {vl:Option Value} {xh xm:Value} (hl:BV lo vl) (hh:BV (some h) (some xh)) (hm:BV (some h) (some xm)) (hc:bN len lo (some h)) (hcap:len≤cap):
 (Instr.sliceBounds true len cap vl (some xh) (some xm)).run P w=.ok (aV lo,h.toNat,h.toNat) w:=by
 have hle:=m5 hc
 have h0:0≤h∧h≤len:=by cases lo<;>simp [bN] at hc<;>omega
 unfold Instr.sliceBounds
 simp only [Sem.run_bind]
 rw [iR hm h0.1 (by omega)]
 simp only [Result.andThen_ok]
 rw [iR hh h0.1 (by omega)]
 simp only [Result.andThen_ok]
 cases lo with
 |none=>cases vl<;>simp [BV] at hl;simp [aV]
 |some z=>
  cases vl with
  |none=>simp [BV] at hl
  |some x=>
   have hz:0≤z∧z≤h:=by simp [bN] at hc;omega
   simp only [Sem.run_bind]
   rw [iR hl hz.1 (by omega)]
   simp [aV]
theorem F0 {ok:Nat→Prop} {base:Option Addr} {es:List (List D)} {lo hi:Option Int} {m size:Nat} (hc:bN es.length lo hi) (hm:aP es.length hi≤m)
 (hs:∀r∈es,r.length=size) (h:es=[]∨∃blk off sz,base=some ⟨blk,off,none⟩∧ok blk∧ay w ok blk sz es off):
 (iH es lo hi).length=aP es.length hi-aV lo∧
 (iH es lo hi=[]∨∃blk off sz,(if m=aV lo then base else base.map (·.add (aV lo*size)))=some ⟨blk,off,none⟩∧ok blk∧ay w ok blk sz (iH es lo hi) off):=by
 have hle:=m5 hc
 have hlen:(iH es lo hi).length=aP es.length hi-aV lo:=by rw [zF];simp;omega
 refine ⟨hlen,?_⟩
 by_cases X1:iH es lo hi=[]
 ·exact .inl X1
 refine .inr ?_
 have hpos:0<(iH es lo hi).length:=List.length_pos_iff.2 X1
 have hne:es≠[]:=by rintro rfl;simp [zF] at hpos
 rcases h with h|⟨blk,off,sz,rfl,h1,h2⟩
 ·exact absurd h hne
 have hsz:sz=size:=by
  cases es with
  |nil=>exact absurd rfl hne
  |cons r rs=>simp only [ay] at h2;rw [←h2.1];exact hs r (by simp)
 subst hsz
 rw [if_neg (by omega)]
 refine ⟨blk,off+aV lo*sz,sz,by simp [fN],h1,?_⟩
 rw [zF]
 exact ay.take _ _ _ (ay.drop _ _ _ h2)
theorem Pm {x:AV} (h:cE [x]=true):x.cq bx=bx:=by cases x<;>simp_all [AV.cq,cE]
theorem tU {ok:Nat→Prop} {blk sz:Nat}:∀(n:Nat) (ds:List D) (off:Nat),n*sz≤ds.length→aX w ok blk ds off→ay w ok blk sz (chunk sz n ds) off∧(chunk sz n ds).length=n
 |0,ds,off,_,_=>by simp [chunk,ay]
 |n+1,ds,off,hl,h=>by
  rw [Nat.add_mul] at hl
  obtain ⟨h1,h2⟩:=tU (sz:=sz) n (ds.drop sz) (off+sz) (by simp;omega) (aX.drop sz ds off h)
  simp only [chunk,ay,List.length_cons,h2,and_true]
  exact ⟨by simp;omega,aX.take _ _ _ h,h1⟩
theorem F1 (hT:kH P T) (cx:cF G β bx w X) {t:Nat} {x:AV} {ux:Value} {lo hi mx:Option Int} {vl vh vm:Option Value} (hx:aj β bx w (bf β bx w X) x ux)
 (hl:BV lo vl) (hh:BV hi vh) (hm:BV mx vm) {c:Prop} {v:AV} {b:Option (List aA)} (hr:qj T t x lo hi mx bx=some ⟨c,v,b⟩) (hc:c):
 ∃u,(Instr.sliceAt t ux vl vh vm).run P w=.ok u w∧Ext β bx w β (dN bx b) w∧cF G β (dN bx b) w X∧
  aj β (dN bx b) w (bf β (dN bx b) w X) v u:=by
 unfold qj at hr
 cases ht:T t with
 |none=>simp [ht] at hr
 |some ti=>
 have ht':=hT.ti t ti ht
 obtain ⟨i,d,h1,h2,h3,h4,h5,h6⟩:=aI ht'
 simp only [ht] at hr
 have Ly:dN bx (bif cE [x] then none else some (x.cq bx))=x.cq bx:=by
  cases ho:cE [x] with
  |true=>simp [Pm ho,dN]
  |false=>rfl
 cases hk:ti.kd with
 |str=>
  rw [hk] at hr
  rw [hk] at h5
  cases d<;>simp [cP] at h5
  cases mx with
  |some _=>cases x<;>simp at hr
  |none=>
  cases x with
  |d y=>
   cases y with
   |str s=>
    simp only [R.when,osI,R.mk.injEq] at hr
    obtain ⟨rfl,rfl,rfl⟩:=hr
    simp only [aj,aJ] at hx
    subst hx
    have hmn:vm=none:=by cases vm<;>simp [BV] at hm;rfl
    subst hmn
    have hb:=oM (P:=P) (w:=w) (U6:=false) hl hh hc (Nat.le_refl _)
    refine ⟨.string ((⟨s.toArray⟩:ByteArray).extract (aV lo) (aP s.length hi)),?_,Ext.refl _ _ _,cx,?_⟩
    ·have hsz:(⟨s.toArray⟩:ByteArray).size=s.length:=by simp [ByteArray.size]
     simp only [Instr.sliceAt,Sem.run_bind,aQ h2,Result.andThen_ok,Instr.slice,hsz]
     simp [hb]
    simp only [aj,aJ,zF]
    rw [Lib.extract_eq]
   |_=>simp at hr
  |_=>simp at hr
 |slice e=>
  rw [hk] at hr
  rw [hk] at h5
  cases d<;>simp [cP] at h5
  subst h5
  cases mx with
  |none=>
   have oN:(match x.rows bx,T e with
    |some es,some te=>some (R.mk (bN es.length lo hi∧∀r∈es,r.length=te.size) (.d (.sl (iH es lo hi))) (bif cE [x] then none else some (x.cq bx)))
    |_,_=>none)=some ⟨c,v,b⟩:=by
    cases x<;>first|exact hr|(rename_i y;cases y<;>exact hr)
   clear hr
   split at oN
   ·rename_i es te aC hte
    simp only [osI,R.mk.injEq] at oN
    obtain ⟨rfl,rfl,rfl⟩:=oN
    obtain ⟨Cr,Cs⟩:=hc
    obtain ⟨ei,ed,g1,g2,g3,g4,g5,g6⟩:=aI (hT.ti _ _ hte)
    obtain ⟨k1,k2,base,cap,rfl,k3,k4⟩:=kf cx aC hx
    rw [Ly]
    have hmn:vm=none:=by cases vm<;>simp [BV] at hm;rfl
    subst hmn
    have hb:=oM (P:=P) (w:=w) (U6:=true) hl hh Cr k3
    have hle:=m5 Cr
    obtain ⟨j1,j2⟩:=F0 (w:=w) (m:=cap) Cr (by omega) (fun r hr=>by rw [Cs r hr]) k4
    refine ⟨.slice (if cap=aV lo then base else base.map (·.add (aV lo*te.size))) (aP es.length hi-aV lo) (cap-aV lo),?_,k1,k2,?_⟩
    ·simp [Instr.sliceAt,aQ h2,Instr.slice,hb,bQ g1,g3]
    simp only [aj,aJ]
    exact ⟨_,_,by rw [j1],by rw [j1];omega,j2⟩
   simp at oN
  |some m=>
   have oN:(match x.rows bx,hi,T e with
    |some es,some h,some te=>some (R.mk ((bN es.length lo (some h)∧m=h)∧∀r∈es,r.length=te.size) (.cl (iH es lo (some h))) (bif cE [x] then none else some (x.cq bx)))
    |_,_,_=>none)=some ⟨c,v,b⟩:=by
    cases x<;>first|exact hr|(rename_i y;cases y<;>exact hr)
   clear hr
   split at oN
   ·rename_i es h te aC hte
    simp only [osI,R.mk.injEq] at oN
    obtain ⟨rfl,rfl,rfl⟩:=oN
    obtain ⟨⟨Cr,rfl⟩,Cs⟩:=hc
    obtain ⟨ei,ed,g1,g2,g3,g4,g5,g6⟩:=aI (hT.ti _ _ hte)
    obtain ⟨k1,k2,base,cap,rfl,k3,k4⟩:=kf cx aC hx
    rw [Ly]
    cases vm with
    |none=>simp [BV] at hm
    |some xm=>
    cases vh with
    |none=>simp [BV] at hh
    |some xh=>
    have hb:=FZ (P:=P) (w:=w) hl hh hm Cr k3
    have hle:=m5 Cr
    obtain ⟨j1,j2⟩:=F0 (w:=w) (m:=m.toNat) Cr (by simp [aP]) (fun r hr=>by rw [Cs r hr]) k4
    refine ⟨.slice (if m.toNat=aV lo then base else base.map (·.add (aV lo*te.size))) (m.toNat-aV lo) (m.toNat-aV lo),?_,k1,k2,?_⟩
    ·simp [Instr.sliceAt,aQ h2,Instr.slice,hb,bQ g1,g3]
    simp only [aj]
    refine ⟨_,?_,j2⟩
    rw [j1];rfl
   simp at oN
 |array n e=>
  rw [hk] at hr
  rw [hk] at h5
  cases d<;>simp [cP] at h5
  obtain ⟨rfl,rfl⟩:=h5
  cases mx with
  |some _=>cases x<;>simp at hr
  |none=>
  cases x with
  |ep ds=>
   cases lo with
   |some _=>simp at hr
   |none=>
   cases hi with
   |some _=>simp at hr
   |none=>
   cases hte:T e with
   |none=>simp [hte] at hr
   |some te=>
    simp only [hte,R.when,osI,R.mk.injEq] at hr
    obtain ⟨rfl,rfl,rfl⟩:=hr
    obtain ⟨ei,ed,g1,g2,g3,g4,g5,g6⟩:=aI (hT.ti _ _ hte)
    simp only [aj] at hx
    obtain ⟨blk,off,rfl,k1,k2⟩:=hx
    have e1:vl=none:=by cases vl<;>simp [BV] at hl;rfl
    have e2:vh=none:=by cases vh<;>simp [BV] at hh;rfl
    have e3:vm=none:=by cases vm<;>simp [BV] at hm;rfl
    subst e1;subst e2;subst e3
    obtain ⟨j1,j2⟩:=tU (w:=w) _ ds off hc k2
    refine ⟨.slice (some ⟨blk,off,none⟩) (chunk te.size n ds).length (chunk te.size n ds).length,?_,Ext.refl _ _ _,cx,?_⟩
    ·simp [Instr.sliceAt,aQ h2,Instr.sureAddr,Instr.sliceBounds,bQ g1,j2,fN]
    simp only [aj,aJ]
    exact ⟨_,_,rfl,Nat.le_refl _,.inr ⟨blk,off,_,rfl,k1,j1⟩⟩
  |ptr bb off=>
   cases off with
   |succ _=>simp at hr
   |zero=>
   cases lo with
   |some _=>simp at hr
   |none=>
   cases hi with
   |some _=>simp at hr
   |none=>
   cases hte:T e with
   |none=>simp [hte] at hr
   |some te=>
   cases hb:bx[bb]? with
   |none=>simp [hte,hb] at hr
   |some B=>
   cases B with
   |var cs=>
    simp only [hte,hb] at hr
    cases hd:iU [] cs with
    |none=>simp [hd] at hr
    |some ds=>
    simp only [hd,osI,R.mk.injEq] at hr
    obtain ⟨rfl,rfl,rfl⟩:=hr
    obtain ⟨ei,ed,g1,g2,g3,g4,g5,g6⟩:=aI (hT.ti _ _ hte)
    simp only [aj] at hx
    obtain ⟨rfl,_⟩:=hx
    have e1:vl=none:=by cases vl<;>simp [BV] at hl;rfl
    have e2:vh=none:=by cases vh<;>simp [BV] at hh;rfl
    have e3:vm=none:=by cases vm<;>simp [BV] at hm;rfl
    subst e1;subst e2;subst e3
    obtain ⟨cc,ce,hp,hcs⟩:=cx.box bb _ hb
    have ex:Ext β bx w β (bx.set bb .dead) w:=iK hb rfl rfl
    have mS:cF G β (bx.set bb .dead) w X:=j9 cx hb rfl rfl (by simp [dm])
    have hok:bf β (bx.set bb .dead) w X (β bb):=by
     refine ⟨eW hp,cx.apart bb _ hb rfl,?_⟩
     intro i b' h3 h4 he
     rcases aK h3 with ⟨rfl,rfl,_⟩|⟨h5,h6⟩
     ·simp [aA.live] at h4
     exact h5 (cx.inj i bb b' _ h6 hb h4 rfl he)
    have hrow:aX w (bf β bx w X) (β bb) ds 0:=by
     refine El ds 0 cc.toList ?_ (sB hd hcs)
     intro j v hj
     simp only [World.cell?,hp]
     simpa using hj
    obtain ⟨j1,j2⟩:=tU (w:=w) _ ds 0 hc (aX.mono (ex.keeps X) _ (fun _=>rfl) _ _ hrow)
    refine ⟨.slice (some ⟨β bb,0,none⟩) (chunk te.size n ds).length (chunk te.size n ds).length,?_,ex,mS,?_⟩
    ·simp [Instr.sliceAt,aQ h2,Instr.sureAddr,Instr.sliceBounds,bQ g1,j2,fN]
    simp only [aj,aJ]
    exact ⟨_,_,rfl,Nat.le_refl _,.inr ⟨_,0,_,rfl,hok,j1⟩⟩
   |_=>simp [hte,hb] at hr
  |_=>simp at hr
 |_=>rw [hk] at hr;cases mx<;>cases x<;>simp at hr
end
end Dem
end
