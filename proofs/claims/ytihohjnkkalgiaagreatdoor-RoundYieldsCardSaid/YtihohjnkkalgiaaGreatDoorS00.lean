/- Parts of a proof, joined. -/
import Derived.Orders
import Derived.Laws.Append
import Derived.RowKit3
set_option linter.all false
set_option maxRecDepth 100000
set_option maxHeartbeats 4000000
open Go
namespace Dem
theorem trv:True:=trivial
theorem osI {α:Type _} {a b:α}:(some a=some b)=(a=b):=Option.some.injEq a b
theorem lgM {α β:Type _} {as:List α} (f:α→β):(as.map f).length=as.length:=List.length_map f
inductive D where
 |bool (b:Bool)
 |int (k:IntKind) (n:Int)
 |str (s:List UInt8)
 |sl (es:List (List D))
 |fn (f:Nat)
 |mp (ag:Bool) (es:List (List D))
inductive KC where
 |om|nilIface|nilFunc|DL
def KC.val:KC→Value
 |.om=>.pointer none
 |.nilIface=>.nilIface
 |.nilFunc=>.nilFunc
 |.DL=>.map none
inductive AV where
 |any
 |d (x:D)
 |k (c:KC)
 |agg (cs:List AV)
 |eA (vs:List AV)
 |ptr (b off:Nat)
 |rp (b sz i j:Nat)
 |ep (ds:List D)
 |ow (b sz n:Nat)
 |cl (es:List (List D))
 |fn (f:Nat) (jV:List AV)
 |rY (t:Nat) (v:AV)
 |cond (p:Bool) (v:AV)
 |vw (b sz off n c:Nat) (ex:Bool)
 |BJ (b:Nat)
inductive aA where
 |var (cs:List AV)
 |row (sz:Nat) (es:List (List D))
 |kI (sz:Nat) (es:List (List D))
 |it (s:List UInt8) (pos:Nat)
 |mp (ag:Bool) (es:List (List D))
 |dead
 |bw
def aA.live:aA→Bool
 |.var _=>true
 |.row _ []=>false
 |.row _ (_::_)=>true
 |.it _ _=>true
 |.mp _ _=>true
 |_=>false
def aA.born:aA→Bool
 |.bw=>false
 |_=>true
def cj (bx:List aA) (i:Nat):Prop:=∃b,bx[i]?=some b∧b.born=true
structure St where
 sl:List (Nat×AV)
 bx:List aA
inductive Ex where
 |normal
 |exit (id:Nat)
 |ret
 |panic (v:AV)
inductive jR where
 |ret (v:AV)
 |Mf (v:AV)
def gH (t:Nat):List (Nat×AV)→AV
 |[]=>.any
 |(u,v)::r=>bif Nat.beq t u then v else gH t r
def put (t:Nat) (v:AV):List (Nat×AV)→List (Nat×AV)
 |[]=>[(t,v)]
 |(u,x)::r=>bif Nat.beq t u then (t,v)::r else (u,x)::put t v r
def eL (dst:Option Nat) (v:AV) (sl:List (Nat×AV)):List (Nat×AV):=
 match dst with
 |some t=>put t v sl
 |none=>sl
def gZ (n:Nat) (dst:Option Nat):Bool:=
 match dst with
 |some t=>Nat.blt t n
 |none=>true
inductive Kd where
 |int (k:IntKind)
 |bool
 |str
 |slice (e:Nat)
 |array (n e:Nat)
 |struct (abz:List (Nat×Nat))
 |map (k e:Nat)
 |iface
 |other
def Kd.plain:Kd→Bool
 |.other=>false
 |.iface=>false
 |_=>true
def Kd.isAgg:Kd→Bool
 |.array _ _=>true
 |.struct _=>true
 |_=>false
structure TI where
 size:Nat
 bytes:Nat
 kd:Kd
 zero:AV
 eq:Bool
 inv:Option (String×Nat):=none
def Ix:Value→AV
 |.bool b=>.d (.bool b)
 |.int k n=>.d (.int k n)
 |.string s=>.d (.str s.data.toList)
 |.slice none 0 0=>.cl []
 |.pointer none=>.k .om
 |.nilIface=>.k .nilIface
 |.nilFunc=>.k .nilFunc
 |.map none=>.k .DL
 |_=>.any
def RC:Value→AV
 |.agg cs=>.agg (cs.toList.map Ix)
 |v=>Ix v
def cY:TypeDesc→Kd
 |.int k=>.int k
 |.bool=>.bool
 |.string=>.str
 |.slice e=>.slice e
 |.array n e=>.array n e
 |.struct fs=>.struct (fs.toList.map fun f=>(f.offset,f.type))
 |.map k e=>.map k e
 |.interface _=>.iface
 |_=>.other
def N7 (P:Program) (t:Nat):TypeDesc→Bool
 |.struct fs=>!P.stoodInHeld t&&fs.toList.all fun f=>f.name != "_"
 |_=>true
def N8:List String:=["demesne/sel.holds","demesne/act.kind"]
def TR (i:TypeInfo):Option (String×Nat):=N8.findSome? fun nm=>match i.methods.toList.find? (fun m=>m.name==nm) with
 |some ⟨_,_,path,some (f,false)⟩=>bif path.toList.isEmpty then some (nm,f) else none
 |_=>none
def pF (P:Program) (t:Nat):Option TI:=
 match P.info? t,P.underlying t with
 |some i,some d=>some {size:=i.size,bytes:=i.bytes,kd:=cY d,zero:=match i.zero with|some z=>RC z|none=>.any,eq:=N7 P t d,inv:=bif (cY d).plain then TR i else none}
 |_,_=>none
def AV.aR:AV→AV
 |.cond _ v=>v
 |v=>v
def AV.ok:AV→Prop
 |.cond p _=>p=true
 |_=>True
def AV.sc:AV→Bool
 |.d _|.k _|.ptr _ _|.rp _ _ _ _|.ep _|.ow _ _ _|.cl _|.fn _ _|.rY _ _|.BJ _=>true
 |_=>false
def uf:List AV→Bool
 |[]=>true
 |x::xs=>bif x.sc then uf xs else false
def AV.cells?:AV→Option (List AV)
 |.agg cs=>bif uf cs then some cs else none
 |.any|.eA _|.cond _ _|.vw _ _ _ _ _ _=>none
 |v=>some [v]
def ct (G:Nat→Option (List D)) (sl:List (Nat×AV)):Operand→AV
 |.tmp t=>gH t sl
 |.const v=>Ix v
 |.global g=>match G g with
  |some ds=>.ep ds
  |none=>.any
 |.func f=>.fn f []
def AV.rm (bx:List aA):AV→Option D
 |.d x=>some x
 |.cl es=>some (.sl es)
 |.fn f []=>some (.fn f)
 |.ow b sz n=>match n,bx[b]? with
  |_,some (.row s es)=>bif Nat.beq s sz&&Nat.beq n es.length then some (.sl es) else none
  |_,some (.kI s es)=>bif Nat.beq s sz&&Nat.beq n es.length then some (.sl es) else none
  |_,_=>none
 |_=>none
def AV.cC (bx:List aA):AV→List aA
 |.ow b _ _=>match bx[b]? with
  |some (.row s es)=>bx.set b (.kI s es)
  |_=>bx
 |.vw b _ _ _ _ _=>match bx[b]? with
  |some (.row s es)=>bx.set b (.kI s es)
  |_=>bx
 |_=>bx
def iV (bx:List aA):List AV→Option (List D)
 |[]=>some []
 |x::xs=>match x.rm bx,iV bx xs with
  |some y,some ys=>some (y::ys)
  |_,_=>none
def eE (bx:List aA):List AV→List aA
 |[]=>bx
 |x::xs=>eE (x.cC bx) xs
def AV.rows (bx:List aA):AV→Option (List (List D))
 |.d (.sl es)=>some es
 |.cl es=>some es
 |.ow b sz n=>match bx[b]? with
  |some (.row s es)=>bif Nat.beq s sz&&Nat.beq n es.length then some es else none
  |some (.kI s es)=>bif Nat.beq s sz&&Nat.beq n es.length then some es else none
  |_=>none
 |.vw b sz off n _ _=>match bx[b]? with
  |some (.row s es)=>bif Nat.beq s sz&&Nat.ble (off+n) es.length then some ((es.drop off).take n) else none
  |some (.kI s es)=>bif Nat.beq s sz&&Nat.ble (off+n) es.length then some ((es.drop off).take n) else none
  |_=>none
 |_=>none
def cM:List AV→Bool
 |[]=>true
 |.ow _ _ _::_=>false
 |.vw _ _ _ _ _ _::_=>false
 |_::r=>cM r
def eN:List AV→Nat→List AV→List AV
 |cs,_,[]=>cs
 |[],_,_::_=>[]
 |_::cs,0,v::vs=>v::eN cs 0 vs
 |c::cs,n+1,v::vs=>c::eN cs n (v::vs)
def be:List D→Nat→List D→List D
 |cs,_,[]=>cs
 |[],_,_::_=>[]
 |_::cs,0,v::vs=>v::be cs 0 vs
 |c::cs,n+1,v::vs=>c::be cs n (v::vs)
structure R where
 c:Prop
 v:AV
 bx:Option (List aA)
def dN (bx:List aA):Option (List aA)→List aA
 |some b=>b
 |none=>bx
def R.pure (v:AV):Option R:=some ⟨True,v,none⟩
def R.when (c:Prop) (v:AV):Option R:=some ⟨c,v,none⟩
def cR (agg:Bool) (size:Nat) (cs:List AV):Option AV:=
 bif agg then (bif Nat.ble size cs.length then some (.agg (cs.take size)) else none) else cs.head?
def o9 (ti:TI) (a:AV) (bx:List aA):Option R:=
 match a with
 |.ptr b off=>match bx[b]? with
  |some (.var cs)=>match cR ti.kd.isAgg ti.size (cs.drop off) with
   |some v=>R.pure v
   |none=>none
  |_=>none
 |.ep ds=>match cR ti.kd.isAgg ti.size (ds.map .d) with
  |some v=>R.pure v
  |none=>none
 |.rp b sz i j=>match bx[b]? with
  |some (.row s es)=>match cR ti.kd.isAgg ti.size (((es.getD i []).drop j).map .d) with
   |some v=>some ⟨s=sz∧i<es.length,v,none⟩
   |none=>none
  |some (.kI s es)=>match cR ti.kd.isAgg ti.size (((es.getD i []).drop j).map .d) with
   |some v=>some ⟨s=sz∧i<es.length,v,none⟩
   |none=>none
  |_=>none
 |_=>none
def sR (ti:TI) (a v:AV) (bx:List aA):Option R:=
 match v.cells? with
 |none=>none
 |some vs=>bif Nat.beq vs.length ti.size then
  match a with
  |.ptr b off=>match bx[b]? with
   |some (.var cs)=>bif Nat.ble (off+vs.length) cs.length then some ⟨True,.any,some (bx.set b (.var (eN cs off vs)))⟩ else none
   |_=>none
  |.rp b sz i j=>match iV bx vs with
   |some ds=>match (eE bx vs)[b]? with
    |some (.row s es)=>some ⟨s=sz∧i<es.length∧j+ds.length≤(es.getD i []).length,.any,
     some ((eE bx vs).set b (.row s (es.set i (be (es.getD i []) j ds))))⟩
    |_=>none
   |none=>none
  |_=>none
  else none
def zo:Kd→Nat→Option (Nat×Nat)
 |.struct fs,i=>fs[i]?
 |_,_=>none
def RD (op:BinOp) (k:IntKind) (x y:Int):Option (Prop×D):=
 match op with
 |.add=>some (True,.int k (k.wrap (x+y)))
 |.sub=>some (True,.int k (k.wrap (x-y)))
 |.mul=>some (True,.int k (k.wrap (x*y)))
 |.quo=>some (y≠0,.int k (k.wrap (x.tdiv y)))
 |.rem=>some (y≠0,.int k (x.tmod y))
 |.and=>some (True,.int k (k.wrap (BitVec.ofInt k.bits x &&& BitVec.ofInt k.bits y).toNat))
 |.or=>some (True,.int k (k.wrap (BitVec.ofInt k.bits x ||| BitVec.ofInt k.bits y).toNat))
 |.xor=>some (True,.int k (k.wrap (BitVec.ofInt k.bits x ^^^ BitVec.ofInt k.bits y).toNat))
 |.andNot=>some (True,.int k (k.wrap (BitVec.ofInt k.bits x &&& ~~~(BitVec.ofInt k.bits y)).toNat))
 |.eql=>some (True,.bool (decide (x=y)))
 |.neq=>some (True,.bool (!decide (x=y)))
 |.lss=>some (True,.bool (decide (x<y)))
 |.leq=>some (True,.bool (decide (x≤y)))
 |.gtr=>some (True,.bool (decide (y<x)))
 |.geq=>some (True,.bool (decide (y≤x)))
 |_=>none
def RE (op:BinOp) (x y:List UInt8):Option (Prop×D):=
 match op with
 |.add=>some (x.length+y.length≤9223372036854775807,.str (x++y))
 |.eql=>some (True,.bool (decide (x=y)))
 |.neq=>some (True,.bool (!decide (x=y)))
 |.lss=>some (True,.bool (Op.bytesLess x y))
 |.leq=>some (True,.bool (Op.bytesLess x y||decide (x=y)))
 |.gtr=>some (True,.bool (!(Op.bytesLess x y||decide (x=y))))
 |.geq=>some (True,.bool (!Op.bytesLess x y))
 |_=>none
def N9 (op:BinOp) (x y:AV):Option (Prop×D):=
 match op,x,y with
 |.shl,.d (.int k x),.d (.int _ y)=>some (0≤y,.int k (k.wrap (x*2^(min y.toNat k.bits))))
 |.shr,.d (.int k x),.d (.int _ y)=>some (0≤y,.int k (x.fdiv (2^(min y.toNat k.bits))))
 |op,.d (.int k x),.d (.int k' y)=>bif k==k' then RD op k x y else none
 |op,.d (.str x),.d (.str y)=>RE op x y
 |_,_,_=>none
def BK (T:Nat→Option TI):Nat→Nat→AV→AV→Option Bool
 |0,_,_,_=>none
 |n+1,t,x,y=>match T t with
  |none=>none
  |some ti=>match ti.kd,x,y with
   |.int _,.d (.int j a),.d (.int k b)=>bif j==k then some (decide (a=b)) else none
   |.bool,.d (.bool a),.d (.bool b)=>some (a==b)
   |.str,.d (.str a),.d (.str b)=>some (decide (a=b))
   |.array len e,.agg xs,.agg ys=>match T e with
    |some te=>bif Nat.beq len 0 then none else (List.range len).foldr (fun i acc=>match cR te.kd.isAgg te.size (xs.drop (i*te.size)),cR te.kd.isAgg te.size (ys.drop (i*te.size)) with
     |some a,some b=>match BK T n e a b,acc with
      |some p,some q=>some (p&&q)
      |_,_=>none
     |_,_=>none) (some true)
    |none=>none
   |.struct fs,.agg xs,.agg ys=>bif ti.eq then fs.foldr (fun f acc=>match T f.2 with
    |some tf=>match cR tf.kd.isAgg tf.size (xs.drop f.1),cR tf.kd.isAgg tf.size (ys.drop f.1) with
     |some a,some b=>match BK T n f.2 a b,acc with
      |some p,some q=>some (p&&q)
      |_,_=>none
     |_,_=>none
    |none=>none) (some true) else none
   |_,_,_=>none
def zq (p:Bool):AV→AV→AV
 |.d (.bool x),.d (.bool y)=>.d (.bool (bif p then x else y))
 |.any,.d (.bool y)=>bif p then .any else .d (.bool y)
 |_,_=>.any
def Wg (op:UnOp) (x:AV):Option D:=
 match op,x with
 |.not,.d (.bool b)=>some (.bool (!b))
 |.neg,.d (.int k n)=>some (.int k (k.wrap (0-n)))
 |.xor,.d (.int k n)=>some (.int k (k.wrap (BitVec.ofInt k.bits (if k.signed then -1 else k.max) ^^^ BitVec.ofInt k.bits n).toNat))
 |_,_=>none
def rq (b:UInt8):List D:=[.int .u8 b.toNat]
def ru:List D→UInt8
 |[.int _ n]=>UInt8.ofNat n.toNat
 |_=>0
def ry (r:List D):Prop:=∃n:Int,r=[.int .u8 n]
def chunk (sz:Nat):Nat→List D→List (List D)
 |0,_=>[]
 |n+1,ds=>ds.take sz::chunk sz n (ds.drop sz)
def BM (ev:Operand→AV):Option Operand→Option (Option Int)
 |none=>some none
 |some x=>match ev x with
  |.d (.int _ n)=>some (some n)
  |_=>none
def iD {α:Type} (l:List α):Option Int→Option Int→List α
 |none,none=>l
 |some a,none=>l.drop a.toNat
 |none,some b=>l.take b.toNat
 |some a,some b=>(l.drop a.toNat).take (b.toNat-a.toNat)
def bS (n:Nat):Option Int→Option Int→Prop
 |none,none=>True
 |some a,none=>0≤a∧a≤n
 |none,some b=>0≤b∧b≤n
 |some a,some b=>0≤a∧a≤b∧b≤n
def pL (T:Nat→Option TI) (t:Nat) (x:AV) (lo hi mx:Option Int) (bx:List aA):Option R:=
 match T t with
 |some ti=>match ti.kd,x,mx with
  |.str,.d (.str s),none=>R.when (bS s.length lo hi) (.d (.str (iD s lo hi)))
  |.slice e,x,none=>match x.rows bx,T e with
   |some es,some te=>some ⟨bS es.length lo hi∧∀r∈es,r.length=te.size,.d (.sl (iD es lo hi)),bif cM [x] then none else some (x.cC bx)⟩
   |_,_=>none
  |.slice e,x,some m=>match x.rows bx,hi,T e with
   |some es,some h,some te=>some ⟨(bS es.length lo (some h)∧m=h)∧∀r∈es,r.length=te.size,.cl (iD es lo (some h)),bif cM [x] then none else some (x.cC bx)⟩
   |_,_,_=>none
  |.array n e,.ep ds,none=>match lo,hi,T e with
   |none,none,some te=>R.when (n*te.size≤ds.length) (.d (.sl (chunk te.size n ds)))
   |_,_,_=>none
  |.array n e,.ptr b 0,none=>match lo,hi,T e,bx[b]? with
   |none,none,some te,some (.var cs)=>match iV [] cs with
    |some ds=>some ⟨n*te.size≤ds.length,.d (.sl (chunk te.size n ds)),some (bx.set b .dead)⟩
    |none=>none
   |_,_,_,_=>none
  |_,_,_=>none
 |none=>none
def Co (sizes:Nat→Option (Nat×Nat)):List AV→List (Nat×AV)→Option (List AV)
 |cells,[]=>some cells
 |cells,(i,v)::rest=>match sizes i,v.cells? with
  |some (off,size),some vs=>bif Nat.beq vs.length size&&Nat.ble (off+vs.length) cells.length then
   Co sizes (eN cells off vs) rest else none
  |_,_=>none
def DM (T:Nat→Option TI) (t:Nat) (parts:List (Nat×AV)):Option R:=
 match T t with
 |some ti=>match ti.zero.cells? with
  |some z=>match ti.kd with
   |.struct fs=>match Co (fun i=>match fs[i]? with|some (o,ft)=>(T ft).map fun x=>(o,x.size)|none=>none) z parts with
    |some cs=>R.pure (.agg cs)
    |none=>none
   |.array _ e=>match T e with
    |some te=>match Co (fun i=>some (i*te.size,te.size)) z parts with
     |some cs=>R.pure (.agg cs)
     |none=>none
    |none=>none
   |_=>none
  |none=>none
 |none=>none
def dR (bx:List aA):List (Nat×AV)→List aA
 |[]=>bx
 |(_,v)::rest=>match v.cells? with
  |some vs=>dR (eE bx vs) rest
  |none=>bx
def mS:Nat→List (Nat×AV)→Bool
 |_,[]=>true
 |i,(j,_)::r=>Nat.beq i j&&mS (i+1) r
def rowsOf (bx:List aA) (size:Nat):List (Nat×AV)→Option (List (List D))
 |[]=>some []
 |(_,v)::r=>match v.cells? with
  |some vs=>match iV bx vs,rowsOf bx size r with
   |some ds,some rs=>bif Nat.beq ds.length size then some (ds::rs) else none
   |_,_=>none
  |none=>none
def Fh:List (Nat×AV)→Bool
 |[]=>true
 |(_,v)::r=>match v.cells? with
  |some vs=>cM vs&&Fh r
  |none=>false
def fY (T:Nat→Option TI) (t n:Nat) (parts:List (Nat×AV)) (bx:List aA):Option R:=
 match T t with
 |some ti=>match ti.kd with
  |.slice e=>match T e with
   |some te=>bif Nat.beq parts.length n&&mS 0 parts&&Nat.ble (n*te.size) 16777216&&te.zero.cells?.isSome then
    match rowsOf bx te.size parts with
    |some rs=>some ⟨True,.cl rs,bif Fh parts then none else some (dR bx parts)⟩
    |none=>none
    else none
   |none=>none
  |_=>none
 |none=>none
def kJ (size:Nat) (x:AV) (bx:List aA):Option (List (List D)):=
 match x with
 |.d (.str b)=>bif Nat.beq size 1 then some (b.map rq) else none
 |x=>x.rows bx
def sameBox (b:Nat):AV→Bool
 |.ow b2 _ _=>Nat.beq b b2
 |.vw b2 _ _ _ _ _=>Nat.beq b b2
 |_=>false
def eO (te:TI):Bool:=
 match te.zero.cells? with
 |some z=>Nat.beq z.length te.size&&Nat.blt 0 te.bytes&&Nat.blt 0 te.size
 |none=>false
def lz (T:Nat→Option TI) (t:Nat) (s x:AV) (bx:List aA):Option R:=
 match T t with
 |some ti=>match ti.kd with
  |.slice e=>match T e with
   |some te=>bif eO te then
    match kJ te.size x bx with
    |some xs=>match s with
     |.cl []=>some ⟨xs.length*te.bytes≤140737488355328∧(∀r∈xs,r.length=te.size),.ow bx.length te.size xs.length,some (bx++[.row te.size xs])⟩
     |.cl (e0::er)=>match xs with
      |[]=>none
      |x0::xr=>some ⟨((e0::er).length+(x0::xr).length)*te.bytes≤140737488355328∧(∀r∈(e0::er)++(x0::xr),r.length=te.size),
       .ow bx.length te.size ((e0::er).length+(x0::xr).length),some (bx++[.row te.size ((e0::er)++(x0::xr))])⟩
     |.ow b sz n=>match bx[b]? with
      |some (.row s2 es)=>bif sameBox b x then none else
       some ⟨s2=sz∧sz=te.size∧n=es.length∧(es.length+xs.length)*te.bytes≤140737488355328∧(∀r∈es++xs,r.length=te.size),
       .ow bx.length te.size (es.length+xs.length),some ((bx.set b .dead)++[.row te.size (es++xs)])⟩
      |_=>none
     |_=>none
    |none=>none
    else none
   |none=>none
  |_=>none
 |none=>none
def BQ (T:Nat→Option TI) (ev:Operand→AV):Op→Option (Prop×List (List D))
 |.call {callee:=.builtin b,args,argTypes}=>match b,args.toList,argTypes.toList with
  |.append,[x,y],[t,u]=>match T t,T u with
   |some ti,some tu=>match ti.kd,tu.kd with
    |.slice e,.slice _=>match T e with
     |some te=>bif eO te then match ev x,ev y with
      |.cl es,.cl (x0::xr)=>some ((es.length+(x0::xr).length)*te.bytes≤140737488355328∧(∀r∈es++(x0::xr),r.length=te.size),es++(x0::xr))
      |_,_=>none
      else none
     |none=>none
    |_,_=>none
   |_,_=>none
  |_,_,_=>none
 |_=>none
def xj (T:Nat→Option TI) (src dst:Nat) (x:AV) (bx:List aA):Option R:=
 match T src,T dst with
 |some ts,some td=>match ts.kd,td.kd,x with
  |_,.int k,.d (.int _ n)=>R.pure (.d (.int k (k.wrap n)))
  |.slice e,.str,x=>match T e,x.rows bx with
   |some te,some es=>match te.kd with
    |.int .u8=>R.when (∀r∈es,ry r) (.d (.str (es.map ru)))
    |_=>none
   |_,_=>none
  |.str,.str,.d (.str s)=>R.pure (.d (.str s))
  |_,_,_=>none
 |_,_=>none
def zu (x:AV) (bx:List aA):Option AV:=
 match x with
 |.d (.sl es)=>some (.d (.int .i64 es.length))
 |.cl es=>some (.d (.int .i64 es.length))
 |.ow b sz n=>match (AV.ow b sz n).rows bx with
  |some es=>some (.d (.int .i64 es.length))
  |none=>none
 |.vw b sz off n c ex=>match (AV.vw b sz off n c ex).rows bx with
  |some es=>some (.d (.int .i64 es.length))
  |none=>none
 |_=>none
def iY (T:Nat→Option TI) (b:Builtin) (args:List AV) (ats:List Nat) (bx:List aA):Option R:=
 match b,args,ats with
 |.len,[x],[t]=>match T t with
  |some ti=>match ti.kd,x with
   |.array n _,_=>R.pure (.d (.int .i64 n))
   |.str,.d (.str s)=>R.pure (.d (.int .i64 s.length))
   |.slice _,x=>match zu x bx with
    |some v=>R.pure v
    |none=>none
   |_,_=>none
  |none=>none
 |.min,[.d (.int k x),.d (.int _ y)],_=>R.pure (.d (.int k (min x y)))
 |.max,[.d (.int k x),.d (.int _ y)],_=>R.pure (.d (.int k (max x y)))
 |.append,[s,x],[t,u]=>match T u with
  |some tu=>match tu.kd with
   |.int _=>none
   |_=>lz T t s x bx
  |none=>none
 |_,_,_=>none
def aW (lo:Option Int):Nat:=(lo.getD 0).toNat
def aS (len:Nat):Option Int→Nat
 |none=>len
 |some h=>h.toNat
def AV.ug:AV→Bool
 |.vw _ _ _ _ _ _=>true
 |_=>false
def iZ (ev:Operand→AV):Op→Bool
 |.slice _ x _ _ _=>(ev x).ug
 |.indexAddr _ x _=>(ev x).ug
 |.makeSlice _ _ _=>true
 |.call {callee:=.builtin b,args,..}=>match b,args.toList with
  |.copy,_=>true
  |.clear,_=>true
  |.cap,_=>true
  |.len,[x]=>(ev x).ug
  |.append,[x,_]=>(ev x).ug
  |_,_=>false
 |_=>false
def dS (n c:Nat) (lo hi:Option Int):Prop:=
 match hi with
 |none=>bS n lo none
 |some h=>bS c lo (some h)
def viewAt:AV→Option (Nat×Nat×Nat×Nat×Nat×Bool)
 |.vw b sz off n c ex=>some (b,sz,off,n,c,ex)
 |.ow b sz n=>some (b,sz,0,n,n,false)
 |_=>none
def mT (te:TI):Option (List D):=
 match te.zero.cells? with
 |some z=>iV [] z
 |none=>none
def elemOf (T:Nat→Option TI) (t:Nat):Option TI:=
 match T t with
 |some ti=>match ti.kd with
  |.slice e=>T e
  |_=>none
 |none=>none
def DN (T:Nat→Option TI) (t:Nat):Option Bool:=
 match T t with
 |some ti=>match ti.kd with
  |.int _=>some true
  |_=>some false
 |none=>none
def wrote (es:List (List D)) (off:Nat) (xs:List (List D)):List (List D):=es.take off++xs++es.drop (off+xs.length)
def eP (es:List (List D)) (off k:Nat):Prop:=off≤es.length∧(es=[]→k=0)
def uh (size:Nat) (y:AV) (n:Nat) (bx:List aA):Option (Prop×Nat×List (List D)):=
 match y with
 |.vw b sz off n2 _ _=>match bx[b]? with
  |some (.row s es)=>bif Nat.beq s sz then some (off+min n2 n≤es.length,min n2 n,(es.drop off).take (min n2 n)) else none
  |some (.kI s es)=>bif Nat.beq s sz then some (off+min n2 n≤es.length,min n2 n,(es.drop off).take (min n2 n)) else none
  |_=>none
 |y=>match kJ size y bx with
  |some xs=>some (True,min xs.length n,xs.take (min xs.length n))
  |none=>none
def Cp (te:TI) (x y:AV) (bx:List aA):Option R:=
 match viewAt x with
 |some (b,sz,off,n,_,_)=>match bx[b]?,uh te.size y n bx with
  |some (.row s es),some (cy,m,xs)=>bif Nat.beq s sz&&Nat.beq sz te.size then
   some ⟨cy∧eP es off m∧∀r∈xs,r.length=te.size,.d (.int .i64 m),
    some (bx.set b (.row sz (wrote es off xs)))⟩ else none
  |_,_=>none
 |none=>none
def DO (te:TI) (x:AV) (bx:List aA):Option R:=
 match viewAt x with
 |some (b,sz,off,n,_,_)=>match bx[b]?,mT te with
  |some (.row s es),some z=>bif Nat.beq s sz&&Nat.beq sz te.size&&eO te then
   some ⟨eP es off n,.eA [],some (bx.set b (.row sz (wrote es off (List.replicate n z))))⟩ else none
  |_,_=>none
 |none=>none
def KW (te:TI) (b sz off n c:Nat) (ex:Bool) (m:Int) (bx:List aA):Option R:=
 match bx[b]?,mT te with
 |some (.row s es),some z=>bif Nat.beq s sz&&Nat.beq sz te.size&&eO te&&ex then
  some ⟨0≤m∧c<n+m.toNat∧off+n≤es.length∧(n+m.toNat)*te.bytes≤140737488355328,
   .vw bx.length sz 0 (n+m.toNat) (n+m.toNat) false,some (bx++[.row sz ((es.drop off).take n++List.replicate m.toNat z)])⟩ else none
 |_,_=>none
def rA (te:TI) (b sz off n c:Nat) (ex:Bool) (y:AV) (bx:List aA):Option R:=
 match bx[b]?,kJ te.size y bx with
 |some (.row s es),some xs=>bif Nat.beq s sz&&Nat.beq sz te.size then
  some ⟨eP es (off+n) xs.length∧n+xs.length≤c∧∀r∈xs,r.length=te.size,.vw b sz off (n+xs.length) c ex,
   some (bx.set b (.row sz (wrote es (off+n) xs)))⟩ else none
 |_,_=>none
def whole (es:List (List D)) (off n c:Nat) (ex:Bool):Prop:=off=0∧n=es.length∧(es=[]→c=0∧ex=true)
def Fi (te:TI) (n m:Int) (bx:List aA):Option R:=
 match mT te with
 |some z=>bif eO te then some ⟨0≤n∧n=m∧n.toNat*te.bytes≤140737488355328,.ow bx.length te.size n.toNat,some (bx++[.row te.size (List.replicate n.toNat z)])⟩ else none
 |none=>none
def mU (T:Nat→Option TI) (ev:Operand→AV) (o:Op) (bx:List aA):Option R:=
 match o with
 |.slice ty x lo hi mx=>match ev x,elemOf T ty,BM ev lo,BM ev hi,BM ev mx with
  |.vw b sz off n c ex,some te,some l,some h,some none=>bif Nat.beq te.size sz then
   some ⟨dS n c l h,.vw b sz (off+aW l) (aS n h-aW l) (c-aW l) ex,none⟩ else none
  |.vw b sz off n c ex,some te,some l,some (some h),some (some m)=>bif Nat.beq te.size sz then
   some ⟨bS c l (some h)∧h≤m∧m≤c,.vw b sz (off+aW l) (h.toNat-aW l) (m.toNat-aW l) true,none⟩ else none
  |_,_,_,_,_=>none
 |.indexAddr ty x i=>match ev x,elemOf T ty,ev i with
  |.vw b sz off n _ _,some te,.d (.int _ z)=>bif Nat.beq te.size sz then some ⟨0≤z∧z<n,.rp b sz (off+z.toNat) 0,none⟩ else none
  |_,_,_=>none
 |.makeSlice ty a b=>match elemOf T ty,ev a,ev b with
  |some te,.d (.int .i64 n),.d (.int .i64 m)=>Fi te n m bx
  |_,_,_=>none
 |.call {callee:=.builtin b,args,argTypes}=>match b,args.toList.map ev,argTypes.toList with
  |.len,[.vw _ _ _ n _ _],[ty]=>match elemOf T ty with
   |some _=>R.pure (.d (.int .i64 n))
   |none=>none
  |.cap,[.vw _ _ _ _ c true],[ty]=>match elemOf T ty with
   |some _=>R.pure (.d (.int .i64 c))
   |none=>none
  |.copy,[x,y],ty::_=>match elemOf T ty with
   |some te=>Cp te x y bx
   |none=>none
  |.clear,[x],ty::_=>match elemOf T ty with
   |some te=>DO te x bx
   |none=>none
  |.append,[.vw b sz off n c ex,y],[ty,u]=>match elemOf T ty,DN T u with
   |some te,some true=>match y with
    |.d (.int .i64 m)=>KW te b sz off n c ex m bx
    |_=>none
   |some te,some false=>bif sameBox b y then rA te b sz off n c ex y bx else
    match bx[b]?,lz T ty (.ow b sz n) y bx with
    |some (.row _ es),some ⟨c1,v,aU⟩=>some ⟨c1∧whole es off n c ex,v,aU⟩
    |_,_=>none
   |_,_=>none
  |_,_,_=>none
 |_=>none
def AV.isAgg:AV→Bool
 |.agg _=>true
 |_=>false
def j9:List AV→Bool
 |[]=>true
 |x::_=>x.sc||x.isAgg
def lA (T:Nat→Option TI) (ev:Operand→AV) (o:Op) (bx:List aA):Option R:=
 match o with
 |.move x=>R.pure (ev x)
 |.assign x=>R.pure (ev x)
 |.alloc t=>match T t with
  |some ti=>match ti.zero.cells? with
   |some cs=>some ⟨True,.ptr bx.length 0,some (bx++[.var cs])⟩
   |none=>none
  |none=>none
 |.box _ x=>match (ev x).cells? with
  |some cs=>some ⟨True,.ptr bx.length 0,some (bx++[.var cs])⟩
  |none=>none
 |.load t a=>match T t with
  |some ti=>o9 ti (ev a) bx
  |none=>none
 |.store t a x=>match T t with
  |some ti=>sR ti (ev a) (ev x) bx
  |none=>none
 |.build t parts=>DM T t (parts.toList.map fun p=>(p.1,ev p.2))
 |.buildSlice t n parts=>fY T t n (parts.toList.map fun p=>(p.1,ev p.2)) bx
 |.fieldAddr t x f=>match T t with
  |some ti=>match zo ti.kd f with
   |some (o,ft)=>match T ft with
    |some tf=>bif Nat.beq tf.size 0 then none else
     match ev x with
     |.ptr b off=>R.pure (.ptr b (off+o))
     |.rp b sz i j=>R.pure (.rp b sz i (j+o))
     |.ep ds=>R.when (o≤ds.length) (.ep (ds.drop o))
     |_=>none
    |none=>none
   |none=>none
  |none=>none
 |.indexAddr t x i=>match T t with
  |some ti=>match ti.kd,ev i with
   |.array n e,.d (.int _ z)=>match T e with
    |some te=>match ev x with
     |.ptr b off=>R.when (0≤z∧z<n) (.ptr b (off+z.toNat*te.size))
     |.rp b sz a j=>R.when (0≤z∧z<n) (.rp b sz a (j+z.toNat*te.size))
     |.ep ds=>R.when (0≤z∧z<n∧z.toNat*te.size≤ds.length) (.ep (ds.drop (z.toNat*te.size)))
     |_=>none
    |none=>none
   |.slice e,.d (.int _ z)=>match T e,ev x with
    |some te,.ow b sz n=>bif Nat.beq te.size sz then R.when (0≤z∧z<n) (.rp b sz z.toNat 0) else none
    |_,_=>none
   |_,_=>none
  |none=>none
 |.field t x f=>match T t with
  |some ti=>match zo ti.kd f with
   |some (o,ft)=>match T ft,ev x with
    |some tf,.agg cs=>match cR tf.kd.isAgg tf.size (cs.drop o) with
     |some v=>R.pure v
     |none=>none
    |_,_=>none
   |none=>none
  |none=>none
 |.index t x i=>match T t with
  |some ti=>match ti.kd,ev x,ev i with
   |.str,.d (.str s),.d (.int _ z)=>R.when (0≤z∧z<s.length) (.d (.int .u8 (s.getD z.toNat 0).toNat))
   |.array n e,.agg cs,.d (.int _ z)=>match T e with
    |some te=>match cR te.kd.isAgg te.size (cs.drop (z.toNat*te.size)) with
     |some v=>R.when (0≤z∧z<n) v
     |none=>none
    |none=>none
   |_,_,_=>none
  |none=>none
 |.extract x i=>match ev x with
  |.eA vs=>match vs[i]? with
   |some v=>R.pure v
   |none=>none
  |_=>none
 |.binOp op t x y _=>match ev x,ev y with
  |.agg xs,.agg ys=>match op with
   |.eql=>(BK T 8 t (.agg xs) (.agg ys)).bind fun d=>R.pure (.d (.bool d))
   |.neq=>(BK T 8 t (.agg xs) (.agg ys)).bind fun d=>R.pure (.d (.bool (!d)))
   |_=>none
  |.d (.bool p),.d (.bool q)=>match T t,op with
   |some ti,.eql=>match ti.kd with
    |.bool=>R.pure (.d (.bool (p==q)))
    |_=>none
   |some ti,.neq=>match ti.kd with
    |.bool=>R.pure (.d (.bool (!(p==q))))
    |_=>none
   |_,_=>none
  |.rY _ _,.k .nilIface=>match T t,op with
   |some ti,.eql=>match ti.kd with
    |.iface=>R.pure (.d (.bool false))
    |_=>none
   |some ti,.neq=>match ti.kd with
    |.iface=>R.pure (.d (.bool true))
    |_=>none
   |_,_=>none
  |.k .nilIface,.k .nilIface=>match y with
   |.const _=>match T t,op with
    |some ti,.eql=>match ti.kd with
     |.iface=>R.pure (.d (.bool true))
     |_=>none
    |some ti,.neq=>match ti.kd with
     |.iface=>R.pure (.d (.bool false))
     |_=>none
    |_,_=>none
   |_=>none
  |x,y=>match N9 op x y with
   |some (c,d)=>R.when c (.d d)
   |none=>none
 |.unOp op _ x=>(Wg op (ev x)).bind fun d=>R.pure (.d d)
 |.convert s d x=>xj T s d (ev x) bx
 |.slice t x lo hi mx=>match BM ev lo,BM ev hi,BM ev mx with
  |some l,some h,some m=>pL T t (ev x) l h m bx
  |_,_,_=>none
 |.makeFunc (.func f) first jV=>bif first.toList.isEmpty then (bif j9 (jV.toList.map ev) then R.pure (.fn f (jV.toList.map ev)) else none) else R.pure (.fn f (.eA (first.toList.map ev)::jV.toList.map ev))
 |.makeInterface t x=>match T t with
  |some ti=>bif ti.kd.plain then R.pure (.rY t (ev x)) else none
  |none=>none
 |.typeAssert x _ u ok=>match T u with
  |some tu=>bif tu.kd.plain&&tu.zero.cells?.isSome then
   match ev x with
   |.rY t v=>bif Nat.beq t u then R.pure (bif ok then .eA [v,.d (.bool true)] else v) else bif ok then R.pure (.eA [tu.zero,.d (.bool false)]) else none
   |.k .nilIface=>bif ok then R.pure (.eA [tu.zero,.d (.bool false)]) else none
   |_=>none
   else none
  |none=>none
 |.nilCheck x=>match ev x with
  |.ptr b o=>R.pure (.ptr b o)
  |.rp b s i j=>R.pure (.rp b s i j)
  |.ep ds=>R.pure (.ep ds)
  |.fn f cs=>R.pure (.fn f cs)
  |_=>none
 |.call {callee:=.builtin b,args,argTypes}=>iY T b (args.toList.map ev) argTypes.toList bx
 |_=>none
def Fb (T:Nat→Option TI) (ev:Operand→AV) (o:Op) (bx:List aA):Option R:=
 bif iZ ev o then mU T ev o bx else lA T ev o bx
def fz (bx:List aA):AV→Option AV
 |.cl es=>some (.d (.sl es))
 |.ow b sz n=>(AV.rm bx (.ow b sz n)).map AV.d
 |.vw b sz off n c ex=>((AV.vw b sz off n c ex).rows bx).map fun es=>.d (.sl es)
 |v=>some v
def Ir (bx:List aA):List AV→Option (List AV)
 |[]=>some []
 |x::xs=>match fz bx x,Ir bx xs with
  |some y,some ys=>some (y::ys)
  |_,_=>none
def pM (bx:List aA):AV→Option AV
 |.agg cs=>(Ir bx cs).map .agg
 |v=>fz bx v
def lW (bx:List aA):AV→List aA
 |.agg cs=>eE bx cs
 |v=>v.cC bx
def fe (bx:List aA):List AV→Option (List AV)
 |[]=>some []
 |x::xs=>match pM bx x,fe bx xs with
  |some y,some ys=>some (y::ys)
  |_,_=>none
def fw (bx:List aA):List AV→List aA
 |[]=>bx
 |x::xs=>fw (lW bx x) xs
def AV.flat:AV→Bool
 |.d (.bool _)|.d (.int _ _)|.d (.str _)|.k _=>true
 |.agg cs=>zw cs
 |.eA cs=>pN cs
 |_=>false
where
 zw:List AV→Bool
  |[]=>true
  |.d (.bool _)::r|.d (.int _ _)::r|.d (.str _)::r|.k _::r=>zw r
  |_=>false
 pN:List AV→Bool
  |[]=>true
  |.d (.bool _)::r|.d (.int _ _)::r|.d (.str _)::r|.k _::r=>pN r
  |.agg cs::r=>zw cs&&pN r
  |_=>false
def dI:List AV→Prop
 |[]=>True
 |x::xs=>x.ok∧dI xs
def fX (G:Nat→Option (List D)) (sl:List (Nat×AV)) (xs:List Operand):List AV:=xs.map (ct G sl)
def lX:AV→List AV→Option (Nat×List AV)
 |.fn f (.eA fs::jV),args=>some (f,fs++args++jV)
 |.fn f jV,args=>bif j9 jV then some (f,args++jV) else none
 |.d (.fn f),args=>some (f,args)
 |_,_=>none
def AV.shut:AV→Bool
 |.any|.d _|.k _|.ep _|.cl _=>true
 |.agg cs|.eA cs|.fn _ cs=>mV cs
 |.rY _ x|.cond _ x=>x.shut
 |.ptr _ _|.rp _ _ _ _|.ow _ _ _|.vw _ _ _ _ _ _|.BJ _=>false
where
 mV:List AV→Bool
  |[]=>true
  |x::xs=>x.shut&&mV xs
def D.flat:D→Bool
 |.sl _=>false
 |.mp _ _=>false
 |_=>true
structure KX (FC:Nat→List AV→List aA→jR→List aA→Prop) (f:Nat) (args:List AV) (bx:List aA)
 (K:AV→List aA→Prop) (Kp:AV→List aA→Prop):Prop where
 ok:∃args' pO res pP,(args'=args∧pO=bx∨fe bx args=some args'∧pO=fw bx args)∧FC f args' pO res pP∧
  (match res with|.ret v=>K v pP|.Mf v=>Kp v pP)
structure Fj (FC:Nat→List AV→List aA→jR→List aA→Prop) (f:Nat) (args:List AV) (bx:List aA)
 (K:AV→List aA→Prop):Prop where
 ok:∃args',fe bx args=some args'∧AV.shut.mV args'=true∧
  (
   (∃v,FC f args' [] (.ret v) []∧(v.flat=true∨fe [] args=some args'∧v.shut=true)∧K v bx)∨
   (∃sz n es,FC f args' [] (.ret (.ow 0 sz n)) [.row sz es]∧((∀r∈es,∀x∈r,x.flat=true)∨fe [] args=some args')∧K (.ow bx.length sz n) (bx++[.row sz es])))
structure Oa (FC:Nat→List AV→List aA→jR→List aA→Prop) (lQ:Prop) (f:Nat) (args:List AV) (bx:List aA)
 (K:AV→List aA→Prop) (Kp:AV→List aA→Prop):Prop where
 ok:lQ∧(Fj FC f args bx K∨KX FC f args bx K Kp)
mutual
def AV.loose (dt:Bool):AV→Bool
 |.any=>true
 |.d (.bool _)|.d (.int _ _)|.d (.str _)|.k _=>true
 |.d _=>dt
 |.ptr _ _=>true
 |.rp _ _ _ _=>true
 |.agg cs=>AV.nv dt cs
 |.fn _ cs=>AV.nv dt cs
 |.rY _ x=>AV.loose dt x
 |_=>false
def AV.nv (dt:Bool):List AV→Bool
 |[]=>true
 |x::xs=>bif AV.loose dt x then AV.nv dt xs else false
end
def Ob (bx:List aA) (i:Nat):Bool:=
 match bx[i]? with
 |some b=>b.born
 |none=>false
def AV.bU (bx:List aA):AV→Bool
 |.any|.d _|.k _|.ep _|.cl _=>true
 |.agg cs|.eA cs|.fn _ cs=>dw bx cs
 |.rY _ x|.cond _ x=>x.bU bx
 |.ptr b _|.rp b _ _ _|.ow b _ _|.vw b _ _ _ _ _|.BJ b=>Ob bx b
where
 dw (bx:List aA):List AV→Bool
  |[]=>true
  |x::xs=>x.bU bx&&dw bx xs
def eB (dt:Bool) (bx:List aA):List aA→Bool
 |[]=>true
 |.var cs::r=>bif AV.nv dt cs&&AV.bU.dw bx cs then eB dt bx r else false
 |.dead::r=>eB dt bx r
 |.bw::r=>eB dt bx r
 |_::_=>false
structure mW (FC:Nat→List AV→List aA→jR→List aA→Prop) (f:Nat) (args:List AV) (bx:List aA) (v:AV):Prop where
 ok:∃args' jS,fe bx args=some args'∧AV.bU.dw jS args'=true∧(∃dt,eB dt jS jS=true∧(dt=true→fe [] args=some args'))∧
  (∀(i:Nat) (b:aA),jS[i]?=some b→b.born=true→∃b',bx[i]?=some b'∧b'.born=true∧(b.live=true→b'=b))∧FC f args' jS (.ret v) jS∧
  (v.flat=true∨fe [] args=some args'∧v.shut=true)
structure TS (FC:Nat→List AV→List aA→jR→List aA→Prop) (g:Bool) (lQ:Prop) (f:Nat) (args:List AV) (bx:List aA)
 (K:AV→Prop):Prop where
 ok:∃v,(g=true→lQ∧mW FC f args bx v)∧K v
structure nI (g:Bool) (c:Prop) (ds:List D) (K:List D→Prop):Prop where
 ok:∃ds',(g=true→c∧ds=ds')∧K ds'
structure vU (v:AV) (A B:Unit→Prop):Prop where
 ok:match v with
 |.d (.bool p)=>(p=true→A ())∧(p=false→B ())
 |_=>False
structure KY (Is:Prop) (K:Bool→Prop):Prop where
 ok:∀b:Bool,(b=true→Is)→K b
def Mg:AV→Option Prop
 |.d (.sl es)=>some (es=[])
 |.cl es=>some (es=[])
 |.ow _ _ n=>some (n=0)
 |_=>none
structure Oc (str:List UInt8) (pos:Nat) (A:Nat→Nat→Prop) (B:Unit→Prop):Prop where
 ok:(pos<str.length→A (Utf8.decode ⟨str.toArray⟩ pos).1 (Utf8.decode ⟨str.toArray⟩ pos).2)∧(¬pos<str.length→B ())
def uj (K:St→Prop) (Q:Ex→St→Prop) (e:Ex) (s:St):Prop:=
 match e with
 |.normal=>K s
 |e=>Q e s
def zx (T:Nat→Option TI) (t:Nat) (x i:AV):Option (Prop×List D):=
 match T t with
 |some ti=>match ti.kd,x,i with
  |.slice e,.d (.sl es),.d (.int _ z)=>match T e with
   |some te=>some (0≤z∧z<es.length∧(∀r∈es,r.length=te.size),es.getD z.toNat [])
   |none=>none
  |.slice e,.cl es,.d (.int _ z)=>match T e with
   |some te=>some (0≤z∧z<es.length∧(∀r∈es,r.length=te.size),es.getD z.toNat [])
   |none=>none
  |_,_,_=>none
 |none=>none
def nJ:Kd→D→Bool
 |.int k,.int j _=>j==k
 |.str,.str _=>true
 |_,_=>false
def pe:D→D→Bool
 |.int j a,.int k b=>j==k&&decide (a=b)
 |.str a,.str b=>decide (a=b)
 |_,_=>false
def rowIs (kd:Kd) (n:Nat) (r:List D):Prop:=∃x ds,r=x::ds∧nJ kd x=true∧ds.length=n
def vV:List (List D)→D→Option (List D)
 |[],_=>none
 |(x::ds)::r,k=>bif pe k x then some ds else vV r k
 |[]::r,k=>vV r k
def rZ:List (List D)→D→List D→List (List D)
 |[],k,v=>[k::v]
 |(x::ds)::r,k,v=>bif pe k x then (k::v)::r else (x::ds)::rZ r k v
 |[]::r,k,v=>[]::rZ r k v
def zy (T:Nat→Option TI) (t:Nat) (m:AV) (bx:List aA):Option (TI×TI×Bool×List (List D)):=
 match T t with
 |some ti=>match ti.kd with
  |.map k e=>match T k,T e,m with
   |some tk,some te,.d (.mp ag es)=>some (tk,te,ag,es)
   |some tk,some te,.k .DL=>some (tk,te,te.kd.isAgg,[])
   |some tk,some te,.BJ b=>match bx[b]? with
    |some (.mp ag es)=>some (tk,te,ag,es)
    |_=>none
   |_,_,_=>none
  |_=>none
 |none=>none
def vW (tk te:TI) (ag:Bool) (es:List (List D)) (k:D):Prop:=ag=te.kd.isAgg∧nJ tk.kd k=true∧∀r∈es,rowIs tk.kd te.size r
structure Iy (g:Bool) (c:Prop) (o:Option (List D)) (K:Option (List D)→Prop):Prop where
 ok:∃o',(g=true→c∧o=o')∧K o'
def oo (te:TI) (BN:Bool) (K:AV→Prop):Option (List D)→Prop
 |none=>match te.zero.cells? with
  |some _=>K (bif BN then .eA [te.zero,.d (.bool false)] else te.zero)
  |none=>False
 |some ds=>match cR te.kd.isAgg te.size (ds.map .d) with
  |some v=>K (bif BN then .eA [v,.d (.bool true)] else v)
  |none=>False
def DP (T:Nat→Option TI) (t:Nat) (m:AV) (bx:List aA):Option (Nat×TI×TI×Bool×List (List D)):=
 match m,zy T t m bx with
 |.BJ b,some (tk,te,ag,es)=>some (b,tk,te,ag,es)
 |_,_=>none
section
variable (FC:Nat→List AV→List aA→jR→List aA→Prop) (T:Nat→Option TI) (G:Nat→Option (List D)) (N:Nat)
def pQ (o:Oper) (s:St) (K:AV→List aA→Prop) (Q:Ex→St→Prop):Prop:=
 match o.op with
 |.pick c a b=>match (ct G s.sl c).aR with
  |.d (.bool p)=>((ct G s.sl c).ok∧(p=true→(ct G s.sl a).ok)∧(p=false→(ct G s.sl b).ok))∧K (zq p (ct G s.sl a).aR (ct G s.sl b).aR) s.bx
  |_=>False
 |.call {callee:=.value f,args,..}=>match lX (ct G s.sl f).aR (args.toList.map fun x=>(ct G s.sl x).aR) with
  |some (i,as)=>Oa FC ((ct G s.sl f).ok∧dI (fX G s.sl args.toList)) i as s.bx (fun v bx=>K v bx) (fun v bx=>Q (.panic v) ⟨[],bx⟩)
  |none=>False
 |.panic x=>match (ct G s.sl x).aR with
  |.rY t v=>(ct G s.sl x).ok∧Q (.panic (.rY t v)) ⟨[],s.bx⟩
  |_=>False
 |.range t x=>match T t with
  |some ti=>match ti.kd,(ct G s.sl x).aR with
   |.str,.d (.str str)=>(ct G s.sl x).ok∧K (.ptr s.bx.length 0) (s.bx++[.it str 0])
   |_,_=>False
  |none=>False
 |.next it true=>match (ct G s.sl it).aR with
  |.ptr b 0=>match s.bx[b]? with
   |some (.it str pos)=>(ct G s.sl it).ok∧Oc str pos (fun c wd=>K (.eA [.d (.bool true),.d (.int .i64 pos),.d (.int .i32 c)]) (s.bx.set b (.it str (pos+wd)))) (fun _=>K (.eA [.d (.bool false)]) s.bx)
   |_=>False
  |_=>False
 |.binOp .eql t x (.const (.slice none 0 0)) _=>match T t,Mg (ct G s.sl x).aR with
  |some ti,some Is=>match ti.kd with
   |.slice _=>(ct G s.sl x).ok∧KY Is (fun b=>K (.d (.bool b)) s.bx)
   |_=>False
  |_,_=>False
 |.binOp .neq t x (.const (.slice none 0 0)) _=>match T t,Mg (ct G s.sl x).aR with
  |some ti,some Is=>match ti.kd with
   |.slice _=>(ct G s.sl x).ok∧KY Is (fun b=>K (.d (.bool (!b))) s.bx)
   |_=>False
  |_,_=>False
 |.makeMap ty none=>match T ty with
  |some ti=>match ti.kd with
   |.map _ e=>match T e with
    |some te=>K (.BJ s.bx.length) (s.bx++[.mp te.kd.isAgg []])
    |none=>False
   |_=>False
  |none=>False
 |.lookup ty m k BN=>match zy T ty (ct G s.sl m).aR s.bx,(ct G s.sl k).aR with
  |some (tk,te,ag,es),.d kd=>Iy true (((ct G s.sl m).ok∧(ct G s.sl k).ok)∧vW tk te ag es kd) (vV es kd) (oo te BN (fun v=>K v s.bx))
  |_,_=>False
 |.mapUpdate ty m k x=>match DP T ty (ct G s.sl m).aR s.bx,(ct G s.sl k).aR,(ct G s.sl x).aR.cells? with
  |some (b,tk,te,ag,es),.d kd,some vs=>match cM vs,iV s.bx vs with
   |true,some ds=>(((ct G s.sl m).ok∧(ct G s.sl k).ok∧(ct G s.sl x).ok)∧vW tk te ag es kd∧ds.length=te.size∧(ct G s.sl x).aR.isAgg=ag)∧K .any (s.bx.set b (.mp ag (rZ es kd ds)))
   |_,_=>False
  |_,_,_=>False
 |op=>
  match (match op with|.indexAddr t x i=>zx T t (ct G s.sl x).aR (ct G s.sl i).aR|_=>none) with
  |some (c,ds)=>nI true (dI (fX G s.sl op.operands.toList)∧c) ds (fun ds=>K (.ep ds) s.bx)
  |none=>match Fb T (fun x=>(ct G s.sl x).aR) op s.bx with
   |some ⟨c,v,b⟩=>(dI (fX G s.sl op.operands.toList)∧c)∧K v (dN s.bx b)
   |none=>False
def Cq (T:Nat→Option TI) (x:AV) (nm:String) (as:List AV):Option (Nat×List AV):=
 match x with
 |.rY t v=>match T t with
  |some ti=>match ti.inv with
   |some (n,i)=>if n=nm then some (i,v::as) else none
   |none=>none
  |none=>none
 |_=>none
def vX (g:Bool) (o:Oper) (s:St) (K:AV→Prop):Prop:=
 match o.op with
 |.pick c a b=>match (ct G s.sl c).aR with
  |.d (.bool p)=>(g=true→((ct G s.sl c).ok∧(p=true→(ct G s.sl a).ok)∧(p=false→(ct G s.sl b).ok)))∧K (zq p (ct G s.sl a).aR (ct G s.sl b).aR)
  |_=>False
 |.call {callee:=.value f,args,..}=>match lX (ct G s.sl f).aR (args.toList.map fun x=>(ct G s.sl x).aR) with
  |some (i,as)=>TS FC g ((ct G s.sl f).ok∧dI (fX G s.sl args.toList)) i as s.bx (fun v=>K v)
  |none=>False
 |.call {callee:=.invoke r nm,args,..}=>match Cq T (ct G s.sl r).aR nm (args.toList.map fun x=>(ct G s.sl x).aR) with
  |some (i,as)=>TS FC g ((ct G s.sl r).ok∧dI (fX G s.sl args.toList)) i as s.bx (fun v=>K v)
  |none=>False
 |op=>
  match (match op with|.indexAddr t x i=>zx T t (ct G s.sl x).aR (ct G s.sl i).aR|_=>none) with
  |some (c,ds)=>nI g (dI (fX G s.sl op.operands.toList)∧c) ds (fun ds=>K (.ep ds))
  |none=>match Fb T (fun x=>(ct G s.sl x).aR) op s.bx with
   |some ⟨c,v,none⟩=>(g=true→dI (fX G s.sl op.operands.toList)∧c)∧K v
   |_=>False
def stepG (g:Bool) (o:Oper) (s:St) (K:AV→Prop):Prop:=(g=false∧∃v,K v)∨vX FC T G g o s K∨
 ∃c es,BQ T (fun x=>(ct G s.sl x).aR) o.op=some (c,es)∧(g=true→dI (fX G s.sl o.op.operands.toList)∧c)∧K (.d (.sl es))
def guardOf (sl:List (Nat×AV)) (ops:List Oper) (j:Nat) (want:Bool):Option Bool:=
 match ops[j]? with
 |some o=>match o.dst with
  |some t=>match gH t sl with
   |.d (.bool q)=>some (bif want then q else !q)
   |.cond g (.d (.bool q))=>some (g&&(bif want then q else !q))
   |_=>none
  |none=>none
 |none=>none
def sS (g:Bool) (o:Oper) (s:St) (K:AV→Prop):Prop:=
 match o.op with
 |.call {callee:=.value f,args,..}=>match lX (ct G s.sl f).aR (args.toList.map fun x=>(ct G s.sl x).aR) with
  |some (i,as)=>∃v,(g=true→((ct G s.sl f).ok∧dI (fX G s.sl args.toList))∧FC i as s.bx (.ret v) s.bx)∧K v
  |none=>False
 |_=>False
def Fk (ops:List Oper):List Oper→(Ex→St→Prop)→St→Prop
 |[],Q,s=>Q .normal s
 |o::rest,Q,s=>bif gZ N o.dst then
  match o.guard with
  |none=>pQ FC T G o s (fun v bx=>Fk ops rest Q ⟨eL o.dst v s.sl,bx⟩) Q
  |some (j,want)=>match guardOf s.sl ops j want with
   |some g=>stepG FC T G g o s (fun v=>Fk ops rest Q ⟨eL o.dst (.cond g v) s.sl,s.bx⟩)∨
    sS FC G g o s (fun v=>Fk ops rest Q ⟨eL o.dst (.cond g v) s.sl,s.bx⟩)
   |none=>False
  else False
def rB (acc:List Nat) (o:Oper):Nat:=
 o.after.toList.foldl (fun s e=>bif Region.binds .any e then s ||| 2^e.on ||| acc.getD e.on 0 else s) 0
def cU:List Oper→List Nat→List Nat
 |[],acc=>acc
 |o::r,acc=>cU r (acc++[rB acc o])
def barrier (b:List Nat) (i:Nat):Bool:=
 Nat.beq (b.getD i 0) (2^i-1)&&(b.drop (i+1)).all (fun x=>x.testBit i)
def oq:List Oper→Nat
 |[]=>0
 |o::r=>(match o.op with|.alloc _=>1|.box _ _=>1|.call _=>1|_=>0)+oq r
def iz (T:Nat→Option TI) (G:Nat→Option (List D)) (sl:List (Nat×AV)) (o:Oper):Option (List AV):=
 match o.guard with
 |some _=>none
 |none=>match o.op with
  |.alloc t=>match T t with
   |some ti=>ti.zero.cells?
   |none=>none
  |.box _ x=>(ct G sl x).cells?
  |_=>none
def gW (ops:Array Oper) (b:List Nat):Nat→List Oper→Bool
 |_,[]=>true
 |i,o::r=>(o.after.toList.all fun e=>!Region.binds .any e||Nat.blt e.on i)&&rC ops (b.getD i 0) o i&&gW ops b (i+1) r
where
 rC (ops:Array Oper) (m:Nat) (o:Oper):Nat→Bool
  |0=>true
  |j+1=>(m.testBit j||(match ops[j]? with|some p=>p.apart ops o|none=>false))&&rC ops m o j
def ff (pre:List Nat) (i:Nat) (o:Oper):Oper:=
 bif pre.contains i then o else {o with after:=o.after++((pre.filter (fun p=>Nat.blt p i)).map (fun p=>({on:=p,ground:=.data}:Edge))).toArray}
def cB (pre:List Nat):Nat→List Oper→List Oper
 |_,[]=>[]
 |i,o::r=>ff pre i o::cB pre (i+1) r
def je (ops:Array Oper):List Nat→List Nat→Bool
 |_,[]=>true
 |done,p::r=>match ops[p]? with
  |some o=>!done.contains p&&o.guard.isNone&&(o.after.all fun e=>!Region.binds .any e||done.contains e.on)&&
   ((List.range ops.size).all fun j=>Nat.beq j p||done.contains j||(match ops[j]? with|some q=>(q.after.any fun e=>Region.binds .any e&&Nat.beq e.on p)||o.apart ops q|none=>true))&&je ops (p::done) r
  |none=>false
def mX (ops:Array Oper):Bool:=ops.all fun o=>match o.op with|.select _ _=>false|_=>true
def RF (G:Nat→Option (List D)) (sl:List (Nat×AV)) (o:Oper):Option AV:=
 match o.op with
 |.move x=>some (ct G sl x)
 |.binOp .add _ x y _=>match ct G sl x,ct G sl y with
  |.d (.int k a),.d (.int k' b)=>bif k==k' then some (.d (.int k (k.wrap (a+b)))) else none
  |_,_=>none
 |.binOp .sub _ x y _=>match ct G sl x,ct G sl y with
  |.d (.int k a),.d (.int k' b)=>bif k==k' then some (.d (.int k (k.wrap (a-b)))) else none
  |_,_=>none
 |_=>none
def Cr (G:Nat→Option (List D)) (N:Nat) (ops:List Oper):List Nat→List (Nat×AV)→Bool
 |[],_=>true
 |p::r,sl=>match ops[p]? with
  |some o=>match RF G sl o with
   |some v=>gZ N o.dst&&Cr G N ops r (eL o.dst v sl)
   |none=>false
  |none=>false
def zA:Op→Bool
 |.move _=>true
 |.extract _ _=>true
 |_=>false
def DQ (ops:Array Oper) (p:Nat) (o:Oper):Bool:=
 match ops[p]? with
 |some q=>q.after.all fun e=>!Region.binds .any e||o.after.any fun e'=>Region.binds .any e'&&Nat.beq e'.on e.on
 |none=>false
def kC (ops:Array Oper) (late:List Nat) (i:Nat) (o:Oper):Oper:=
 bif late.contains i then o else {o with after:=o.after++((late.filter (fun p=>Nat.blt p i&&DQ ops p o)).map (fun p=>({on:=p,ground:=.data}:Edge))).toArray}
def ig (ops:Array Oper) (late:List Nat):Nat→List Oper→List Oper
 |_,[]=>[]
 |i,o::r=>kC ops late i o::ig ops late (i+1) r
def uk (ops:Array Oper) (late:List Nat):Bool:=
 late.all fun p=>match ops[p]? with
  |some o=>zA o.op&&o.guard.isNone&&((List.range ops.size).all fun j=>Nat.beq j p||(o.after.any fun e=>Region.binds .any e&&Nat.beq e.on j)||(match ops[j]? with|some q=>(q.after.any fun e=>Region.binds .any e&&Nat.beq e.on p)||o.apart ops q|none=>true))
  |none=>false
def RG (u:Nat) (v:AV):List (Nat×AV)→List (Nat×AV)
 |[]=>[(u,v)]
 |(s,x)::r=>bif Nat.beq u s then (u,v)::r else bif Nat.blt u s then (u,v)::(s,x)::r else (s,x)::RG u v r
def BR:List (Nat×AV)→List (Nat×AV)
 |[]=>[]
 |(u,v)::r=>RG u v (BR r)
structure Nd where
 ls:List Bool
 ps:List (Nat×Nat)
def Od (k i:Nat):List (Nat×Nat)→Bool
 |[]=>false
 |(p,j)::r=>(Nat.beq p k&&Nat.beq j i)||Od k i r
def Wh:List Bool→List Bool→Bool
 |[],[]=>true
 |a::l,b::m=>(a==b)&&Wh l m
 |_,_=>false
def Oe (ops:Array Oper) (pl:List Nd) (z:Nat):Nat→List Nd→Bool
 |_,[]=>true
 |k,nd::r=>(match Region.ready .any ops nd.ls.toArray with
  |[]=>Nat.beq k z
  |rs=>rs.all fun i=>Nat.blt i nd.ls.length&&(nd.ls.getD i true==false)&&pl.any fun e=>Wh e.ls (nd.ls.set i true)&&Od k i e.ps)&&Oe ops pl z (k+1) r
def KZ (ops:Array Oper) (pl:List Nd):Bool:=Oe ops pl pl.length 0 (⟨List.replicate ops.size false,[]⟩::pl)
inductive OT where
 |done
 |one (i:Nat) (t:OT)
 |more (i:Nat) (t r:OT)
def OT.K0:OT→List Nat
 |.done=>[]
 |.one i _=>[i]
 |.more i _ r=>i::r.K0
def OT.depth:OT→Nat
 |.done=>0
 |.one _ t=>t.depth+1
 |.more _ t r=>max (t.depth+1) r.depth
def OT.fit (ops:Array Oper):OT→Bool→Array Bool→Bool
 |.done,top,listed=>!top||(Region.ready .any ops listed).isEmpty
 |.one i t,top,listed=>(!top||Region.ready .any ops listed==[i])&&t.fit ops true (listed.setIfInBounds i true)
 |.more i t r,top,listed=>(!top||Region.ready .any ops listed==i::r.K0)&&(t.fit ops true (listed.setIfInBounds i true)&&r.fit ops false listed)
def OT.fits (tr:OT) (pre:List Nat) (ops:List Oper):Bool:=Nat.ble tr.depth ops.length&&tr.fit (cB pre 0 ops).toArray true (Array.replicate ops.length false)
structure K1 (ops:List Oper):Prop where
 ok:gW ops.toArray (cU ops []) 0 ops=true
def lY (o:Oper) (sl:List (Nat×AV)) (ij:List aA) (x:Nat) (K:AV→aA→Prop):Prop:=
 ∃f args ats i as args' sz n es,o.op=.call {callee:=.value f,args:=args,argTypes:=ats}∧lX (ct G sl f).aR (args.toList.map fun x=>(ct G sl x).aR)=some (i,as)∧
  ((ct G sl f).ok∧dI (fX G sl args.toList))∧fe ij as=some args'∧AV.shut.mV args'=true∧FC i args' [] (.ret (.ow 0 sz n)) [.row sz es]∧
  ((∀r∈es,∀x∈r,x.flat=true)∨fe [] as=some args')∧ij[x]?=some .bw∧K (.ow x sz n) (.row sz es)
def nK (ops:List Oper) (b:List Nat) (base:Nat):List aA→Nat→Nat→List Oper→(Ex→St→Prop)→St→Prop
 |_,_,_,[],Q,s=>Q .normal s
 |ij,k,i,o::rest,Q,s=>bif gZ N o.dst then
  bif barrier b i then match o.guard with
   |none=>pQ FC T G o s (fun v bx=>nK ops b base bx k (i+1) rest Q ⟨eL o.dst v s.sl,bx⟩) Q
   |some (j,want)=>match guardOf s.sl ops j want with
    |some g=>stepG FC T G g o s (fun v=>nK ops b base s.bx k (i+1) rest Q ⟨eL o.dst (.cond g v) s.sl,s.bx⟩)
    |none=>False
  else match iz T G s.sl o with
   |some cs=>match ij[base+k]? with
    |some .bw=>nK ops b base ij (k+1) (i+1) rest Q ⟨eL o.dst (.ptr (base+k) 0) s.sl,s.bx.set (base+k) (.var cs)⟩
    |_=>False
   |none=>match o.guard with
    |none=>stepG FC T G true o ⟨s.sl,ij⟩ (fun v=>nK ops b base ij k (i+1) rest Q ⟨eL o.dst v s.sl,s.bx⟩)∨
     lY FC G o s.sl ij (base+k) (fun v B=>nK ops b base ij (k+1) (i+1) rest Q ⟨eL o.dst v s.sl,s.bx.set (base+k) B⟩)
    |some (j,want)=>match guardOf s.sl ops j want with
     |some g=>stepG FC T G g o ⟨s.sl,ij⟩ (fun v=>nK ops b base ij k (i+1) rest Q ⟨eL o.dst (.cond g v) s.sl,s.bx⟩)
     |none=>False
  else False
def xk (ops:List Oper) (i:Nat) (K:St→Prop) (Q:Ex→St→Prop) (s:St):Prop:=match ops[i]? with
 |some o=>bif gZ N o.dst then match o.guard with
  |none=>pQ FC T G o s (fun v bx=>K ⟨eL o.dst v s.sl,bx⟩) Q
  |some (j,want)=>match guardOf s.sl ops j want with
   |some g=>vU (.d (.bool g)) (fun _=>pQ FC T G o s (fun v bx=>K ⟨eL o.dst (.cond true v) s.sl,bx⟩) Q) (fun _=>K ⟨eL o.dst (.cond false .any) s.sl,s.bx⟩)
   |none=>False
  else False
 |none=>False
def Mh (ops:List Oper) (Q:Ex→St→Prop) (R:St→Prop):OT→St→Prop
 |.done,s=>R s
 |.one i o,s=>xk FC T G N ops i (Mh ops Q R o) Q s
 |.more i o r,s=>xk FC T G N ops i (Mh ops Q R o) Q s∧Mh ops Q R r s
def TU (ops:List Oper) (Q:Ex→St→Prop) (s:St):Prop:=
 ∃(pre:List Nat) (tr:OT) (s1:St),(je ops.toArray [] pre=true∧mX ops.toArray=true∧Cr G N ops pre s.sl=true)∧tr.fits pre ops=true∧Mh FC T G N ops Q (fun s=>(⟨BR s.sl,s.bx⟩:St)=s1) tr s∧Q .normal s1
def Fl (ops:List Oper) (Q:Ex→St→Prop) (S:List St) (s:St):List (Nat×Nat)→Prop
 |[]=>True
 |(p,i)::r=>(match S[p]? with|some s0=>xk FC T G N ops i (fun s1=>(⟨BR s1.sl,s1.bx⟩:St)=s) Q s0|none=>False)∧Fl ops Q S s r
def allM (ops:List Oper) (Q:Ex→St→Prop) (S:List St):Nat→List Nd→Prop
 |_,[]=>True
 |k,nd::r=>(match S[k]? with|some s=>Fl FC T G N ops Q S s nd.ps|none=>False)∧allM ops Q S (k+1) r
def xo (ks:List Nat):List (Nat×AV)→List (Nat×AV)
 |[]=>[]
 |(u,v)::r=>bif ks.contains u then (u,v)::xo ks r else xo ks r
def TV (ops:List Oper) (Q:Ex→St→Prop) (s:St):Prop:=
 ∃(pl:List Nd) (S:List St) (s1 s0:St),KZ ops.toArray pl=true∧(S[0]?=some s0∧(s0=s∨∃ks,s0=⟨xo ks s.sl,s.bx⟩))∧S[pl.length]?=some s1∧allM FC T G N ops Q S 1 pl∧Q .normal s1
def Of (ops:List Oper) (Q:Ex→St→Prop) (s:St):Prop:=TU FC T G N ops Q s∨TV FC T G N ops Q s∨
 ∃pre late:List Nat,((pre=[]∧late=[])∨(je ops.toArray [] pre=true∧mX ops.toArray=true∧uk (cB pre 0 ops).toArray late=true∧Cr G N ops pre s.sl=true))∧K1 (ig (cB pre 0 ops).toArray late 0 (cB pre 0 ops))∧
  nK FC T G N ops (cU (ig (cB pre 0 ops).toArray late 0 (cB pre 0 ops)) []) s.bx.length (s.bx++List.replicate (oq ops) .bw) 0 0 ops Q ⟨s.sl,s.bx++List.replicate (oq ops) .bw⟩
end
def BS (T:Nat→Option TI) (sl:List (Nat×AV)) (bx:List aA):List ResultVar→Option (Prop×List AV)
 |[]=>some (True,[])
 |.tmp t::r=>match BS T sl bx r with
  |some (c,vs)=>some ((gH t sl).ok∧c,(gH t sl).aR::vs)
  |none=>none
 |.cell t ty::r=>match T ty,BS T sl bx r with
  |some ti,some (c,vs)=>match gH t sl with
   |.ptr b o=>match o9 ti (.ptr b o) bx with
    |some ⟨c',v,_⟩=>some (c'∧c,v::vs)
    |none=>none
   |_=>none
  |_,_=>none
def Cs:List AV→AV
 |[v]=>v
 |vs=>.eA vs
def Iz (bx:List aA):AV→Option AV
 |.eA vs=>(fe bx vs).map .eA
 |v=>pM bx v
def ul (bx:List aA):AV→List aA
 |.eA vs=>fw bx vs
 |v=>lW bx v
def AV.within (n:Nat):AV→Bool
 |.any|.d _|.k _|.ep _|.cl _=>true
 |.agg cs|.eA cs|.fn _ cs=>rD n cs
 |.rY _ x|.cond _ x=>x.within n
 |.ptr b _|.rp b _ _ _|.ow b _ _|.vw b _ _ _ _ _|.BJ b=>Nat.blt b n
where
 rD (n:Nat):List AV→Bool
  |[]=>true
  |x::xs=>x.within n&&rD n xs
def cD (n:Nat):List aA→Bool
 |[]=>true
 |.var cs::r=>AV.within.rD n cs&&cD n r
 |_::r=>cD n r
def kill:List Bool→List aA→List aA
 |[],bs=>bs
 |_,[]=>[]
 |k::ks,b::bs=>(bif k&&b.born then .dead else b)::kill ks bs
structure TW (n:Nat) (c:Prop) (v:AV) (bx:List aA) (res:jR) (aU:List aA):Prop where
 ok:c∧((res=.ret v∧aU=bx)∨
  (∃ks u,Iz bx v=some u∧u.within n=true∧aU=(kill ks (ul bx v)).take n∧cD n aU=true∧res=.ret u)∨
  (∃k sz m es,v=.ow k sz m∧bx[k]?=some (.row sz es)∧n≤k∧n≤bx.length∧cD n (bx.take n)=true∧res=.ret (.ow n sz m)∧aU=bx.take n++[.row sz es])∨
  (∃sz,v=.cl []∧n≤bx.length∧cD n (bx.take n)=true∧res=.ret (.ow n sz 0)∧aU=bx.take n++[.row sz []]))
structure TX (v:AV) (bx:List aA) (res:jR) (aU:List aA):Prop where
 ok:res=.Mf v∧aU=bx
def K2 (T:Nat→Option TI) (results:List ResultVar) (n:Nat) (res:jR) (aU:List aA):Ex→St→Prop
 |.exit _,_=>False
 |.panic v,s=>TX v s.bx res aU
 |_,s=>match BS T s.sl s.bx results with
  |some (c,vs)=>TW n c (Cs vs) s.bx res aU
  |none=>False
def pR:Nat→List AV→List (Nat×AV)
 |_,[]=>[]
 |i,x::xs=>(i,x)::pR (i+1) xs
end Dem
