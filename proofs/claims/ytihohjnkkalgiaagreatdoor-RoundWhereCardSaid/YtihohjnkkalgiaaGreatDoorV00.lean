/- Parts of a proof, joined. -/
import Derived.Orders
import Derived.Laws.Append
import Derived.RowKit3
import Derived.Laws.Externs
import Derived.Lib.Strings
set_option linter.all false
set_option maxRecDepth 100000
set_option maxHeartbeats 4000000
section
open Go
namespace Dem
theorem trv:True:=trivial
theorem osI {α:Type _} {a b:α}:(some a=some b)=(a=b):=Option.some.injEq a b
theorem lgM {α β:Type _} {as:List α} (f:α→β):(as.map f).length=as.length:=List.length_map f
inductive D where
 |bool (b:Bool)
 |int (k:IntKind) (n:Int)
 |str (s:List UInt8)
 |sl (es:List (List D))
 |fn (f:Nat)
 |mp (ag:Bool) (es:List (List D))
inductive KC where
 |oy|nilIface|nilFunc|DJ
def KC.val:KC→Value
 |.oy=>.pointer none
 |.nilIface=>.nilIface
 |.nilFunc=>.nilFunc
 |.DJ=>.map none
inductive AV where
 |any
 |d (x:D)
 |k (c:KC)
 |agg (cs:List AV)
 |dV (vs:List AV)
 |ptr (b off:Nat)
 |rp (b sz i j:Nat)
 |ep (ds:List D)
 |ow (b sz n:Nat)
 |cl (es:List (List D))
 |fn (f:Nat) (jQ:List AV)
 |sj (t:Nat) (v:AV)
 |cond (p:Bool) (v:AV)
 |vw (b sz off n c:Nat) (ex:Bool)
 |BR (b:Nat)
inductive az where
 |var (cs:List AV)
 |row (sz:Nat) (es:List (List D))
 |kC (sz:Nat) (es:List (List D))
 |it (s:List UInt8) (pos:Nat)
 |mp (ag:Bool) (es:List (List D))
 |dead
 |bt
def az.live:az→Bool
 |.var _=>true
 |.row _ []=>false
 |.row _ (_::_)=>true
 |.it _ _=>true
 |.mp _ _=>true
 |_=>false
def az.born:az→Bool
 |.bt=>false
 |_=>true
def bT (bx:List az) (i:Nat):Prop:=∃b,bx[i]?=some b∧b.born=true
structure St where
 sl:List (Nat×AV)
 bx:List az
inductive Ex where
 |normal
 |exit (id:Nat)
 |ret
 |panic (v:AV)
inductive iU where
 |ret (v:AV)
 |Mn (v:AV)
def gK (t:Nat):List (Nat×AV)→AV
 |[]=>.any
 |(u,v)::r=>bif Nat.beq t u then v else gK t r
def put (t:Nat) (v:AV):List (Nat×AV)→List (Nat×AV)
 |[]=>[(t,v)]
 |(u,x)::r=>bif Nat.beq t u then (t,v)::r else (u,x)::put t v r
def eJ (dst:Option Nat) (v:AV) (sl:List (Nat×AV)):List (Nat×AV):=
 match dst with
 |some t=>put t v sl
 |none=>sl
def gY (n:Nat) (dst:Option Nat):Bool:=
 match dst with
 |some t=>Nat.blt t n
 |none=>true
inductive Kd where
 |int (k:IntKind)
 |bool
 |str
 |slice (e:Nat)
 |array (n e:Nat)
 |struct (abT:List (Nat×Nat))
 |map (k e:Nat)
 |iface
 |other
def Kd.plain:Kd→Bool
 |.other=>false
 |.iface=>false
 |_=>true
def Kd.isAgg:Kd→Bool
 |.array _ _=>true
 |.struct _=>true
 |_=>false
structure TI where
 size:Nat
 bytes:Nat
 kd:Kd
 zero:AV
 eq:Bool
 inv:Option (String×Nat):=none
def IA:Value→AV
 |.bool b=>.d (.bool b)
 |.int k n=>.d (.int k n)
 |.string s=>.d (.str s.data.toList)
 |.slice none 0 0=>.cl []
 |.pointer none=>.k .oy
 |.nilIface=>.k .nilIface
 |.nilFunc=>.k .nilFunc
 |.map none=>.k .DJ
 |_=>.any
def RQ:Value→AV
 |.agg cs=>.agg (cs.toList.map IA)
 |v=>IA v
def cU:TypeDesc→Kd
 |.int k=>.int k
 |.bool=>.bool
 |.string=>.str
 |.slice e=>.slice e
 |.array n e=>.array n e
 |.struct fs=>.struct (fs.toList.map fun f=>(f.offset,f.type))
 |.map k e=>.map k e
 |.interface _=>.iface
 |_=>.other
def Ok (P:Program) (t:Nat):TypeDesc→Bool
 |.struct fs=>!P.stoodInHeld t&&fs.toList.all fun f=>f.name != "_"
 |_=>true
def Ol:List String:=["demesne/sel.holds","demesne/act.kind"]
def T7 (i:TypeInfo):Option (String×Nat):=Ol.findSome? fun nm=>match i.methods.toList.find? (fun m=>m.name==nm) with
 |some ⟨_,_,path,some (f,false)⟩=>bif path.toList.isEmpty then some (nm,f) else none
 |_=>none
def pJ (P:Program) (t:Nat):Option TI:=
 match P.info? t,P.underlying t with
 |some i,some d=>some {size:=i.size,bytes:=i.bytes,kd:=cU d,zero:=match i.zero with|some z=>RQ z|none=>.any,eq:=Ok P t d,inv:=bif (cU d).plain then T7 i else none}
 |_,_=>none
def AV.aS:AV→AV
 |.cond _ v=>v
 |v=>v
def AV.ok:AV→Prop
 |.cond p _=>p=true
 |_=>True
def AV.sc:AV→Bool
 |.d _|.k _|.ptr _ _|.rp _ _ _ _|.ep _|.ow _ _ _|.cl _|.fn _ _|.sj _ _|.BR _=>true
 |_=>false
def ur:List AV→Bool
 |[]=>true
 |x::xs=>bif x.sc then ur xs else false
def AV.cells?:AV→Option (List AV)
 |.agg cs=>bif ur cs then some cs else none
 |.any|.dV _|.cond _ _|.vw _ _ _ _ _ _=>none
 |v=>some [v]
def bW (G:Nat→Option (List D)) (sl:List (Nat×AV)):Operand→AV
 |.tmp t=>gK t sl
 |.const v=>IA v
 |.global g=>match G g with
  |some ds=>.ep ds
  |none=>.any
 |.func f=>.fn f []
def AV.rq (bx:List az):AV→Option D
 |.d x=>some x
 |.cl es=>some (.sl es)
 |.fn f []=>some (.fn f)
 |.ow b sz n=>match n,bx[b]? with
  |_,some (.row s es)=>bif Nat.beq s sz&&Nat.beq n es.length then some (.sl es) else none
  |_,some (.kC s es)=>bif Nat.beq s sz&&Nat.beq n es.length then some (.sl es) else none
  |_,_=>none
 |_=>none
def AV.cw (bx:List az):AV→List az
 |.ow b _ _=>match bx[b]? with
  |some (.row s es)=>bx.set b (.kC s es)
  |_=>bx
 |.vw b _ _ _ _ _=>match bx[b]? with
  |some (.row s es)=>bx.set b (.kC s es)
  |_=>bx
 |_=>bx
def iV (bx:List az):List AV→Option (List D)
 |[]=>some []
 |x::xs=>match x.rq bx,iV bx xs with
  |some y,some ys=>some (y::ys)
  |_,_=>none
def eC (bx:List az):List AV→List az
 |[]=>bx
 |x::xs=>eC (x.cw bx) xs
def AV.rows (bx:List az):AV→Option (List (List D))
 |.d (.sl es)=>some es
 |.cl es=>some es
 |.ow b sz n=>match bx[b]? with
  |some (.row s es)=>bif Nat.beq s sz&&Nat.beq n es.length then some es else none
  |some (.kC s es)=>bif Nat.beq s sz&&Nat.beq n es.length then some es else none
  |_=>none
 |.vw b sz off n _ _=>match bx[b]? with
  |some (.row s es)=>bif Nat.beq s sz&&Nat.ble (off+n) es.length then some ((es.drop off).take n) else none
  |some (.kC s es)=>bif Nat.beq s sz&&Nat.ble (off+n) es.length then some ((es.drop off).take n) else none
  |_=>none
 |_=>none
def cF:List AV→Bool
 |[]=>true
 |.ow _ _ _::_=>false
 |.vw _ _ _ _ _ _::_=>false
 |_::r=>cF r
def eM:List AV→Nat→List AV→List AV
 |cs,_,[]=>cs
 |[],_,_::_=>[]
 |_::cs,0,v::vs=>v::eM cs 0 vs
 |c::cs,n+1,v::vs=>c::eM cs n (v::vs)
def be:List D→Nat→List D→List D
 |cs,_,[]=>cs
 |[],_,_::_=>[]
 |_::cs,0,v::vs=>v::be cs 0 vs
 |c::cs,n+1,v::vs=>c::be cs n (v::vs)
structure R where
 c:Prop
 v:AV
 bx:Option (List az)
def dF (bx:List az):Option (List az)→List az
 |some b=>b
 |none=>bx
def R.pure (v:AV):Option R:=some ⟨True,v,none⟩
def R.when (c:Prop) (v:AV):Option R:=some ⟨c,v,none⟩
def cM (agg:Bool) (size:Nat) (cs:List AV):Option AV:=
 bif agg then (bif Nat.ble size cs.length then some (.agg (cs.take size)) else none) else cs.head?
def pn (ti:TI) (a:AV) (bx:List az):Option R:=
 match a with
 |.ptr b off=>match bx[b]? with
  |some (.var cs)=>match cM ti.kd.isAgg ti.size (cs.drop off) with
   |some v=>R.pure v
   |none=>none
  |_=>none
 |.ep ds=>match cM ti.kd.isAgg ti.size (ds.map .d) with
  |some v=>R.pure v
  |none=>none
 |.rp b sz i j=>match bx[b]? with
  |some (.row s es)=>match cM ti.kd.isAgg ti.size (((es.getD i []).drop j).map .d) with
   |some v=>some ⟨s=sz∧i<es.length,v,none⟩
   |none=>none
  |some (.kC s es)=>match cM ti.kd.isAgg ti.size (((es.getD i []).drop j).map .d) with
   |some v=>some ⟨s=sz∧i<es.length,v,none⟩
   |none=>none
  |_=>none
 |_=>none
def sY (ti:TI) (a v:AV) (bx:List az):Option R:=
 match v.cells? with
 |none=>none
 |some vs=>bif Nat.beq vs.length ti.size then
  match a with
  |.ptr b off=>match bx[b]? with
   |some (.var cs)=>bif Nat.ble (off+vs.length) cs.length then some ⟨True,.any,some (bx.set b (.var (eM cs off vs)))⟩ else none
   |_=>none
  |.rp b sz i j=>match iV bx vs with
   |some ds=>match (eC bx vs)[b]? with
    |some (.row s es)=>some ⟨s=sz∧i<es.length∧j+ds.length≤(es.getD i []).length,.any,
     some ((eC bx vs).set b (.row s (es.set i (be (es.getD i []) j ds))))⟩
    |_=>none
   |none=>none
  |_=>none
  else none
def zB:Kd→Nat→Option (Nat×Nat)
 |.struct fs,i=>fs[i]?
 |_,_=>none
def RR (op:BinOp) (k:IntKind) (x y:Int):Option (Prop×D):=
 match op with
 |.add=>some (True,.int k (k.wrap (x+y)))
 |.sub=>some (True,.int k (k.wrap (x-y)))
 |.mul=>some (True,.int k (k.wrap (x*y)))
 |.quo=>some (y≠0,.int k (k.wrap (x.tdiv y)))
 |.rem=>some (y≠0,.int k (x.tmod y))
 |.and=>some (True,.int k (k.wrap (BitVec.ofInt k.bits x &&& BitVec.ofInt k.bits y).toNat))
 |.or=>some (True,.int k (k.wrap (BitVec.ofInt k.bits x ||| BitVec.ofInt k.bits y).toNat))
 |.xor=>some (True,.int k (k.wrap (BitVec.ofInt k.bits x ^^^ BitVec.ofInt k.bits y).toNat))
 |.andNot=>some (True,.int k (k.wrap (BitVec.ofInt k.bits x &&& ~~~(BitVec.ofInt k.bits y)).toNat))
 |.eql=>some (True,.bool (decide (x=y)))
 |.neq=>some (True,.bool (!decide (x=y)))
 |.lss=>some (True,.bool (decide (x<y)))
 |.leq=>some (True,.bool (decide (x≤y)))
 |.gtr=>some (True,.bool (decide (y<x)))
 |.geq=>some (True,.bool (decide (y≤x)))
 |_=>none
def RS (op:BinOp) (x y:List UInt8):Option (Prop×D):=
 match op with
 |.add=>some (x.length+y.length≤9223372036854775807,.str (x++y))
 |.eql=>some (True,.bool (decide (x=y)))
 |.neq=>some (True,.bool (!decide (x=y)))
 |.lss=>some (True,.bool (Op.bytesLess x y))
 |.leq=>some (True,.bool (Op.bytesLess x y||decide (x=y)))
 |.gtr=>some (True,.bool (!(Op.bytesLess x y||decide (x=y))))
 |.geq=>some (True,.bool (!Op.bytesLess x y))
 |_=>none
def Om (op:BinOp) (x y:AV):Option (Prop×D):=
 match op,x,y with
 |.shl,.d (.int k x),.d (.int _ y)=>some (0≤y,.int k (k.wrap (x*2^(min y.toNat k.bits))))
 |.shr,.d (.int k x),.d (.int _ y)=>some (0≤y,.int k (x.fdiv (2^(min y.toNat k.bits))))
 |op,.d (.int k x),.d (.int k' y)=>bif k==k' then RR op k x y else none
 |op,.d (.str x),.d (.str y)=>RS op x y
 |_,_,_=>none
def BS (T:Nat→Option TI):Nat→Nat→AV→AV→Option Bool
 |0,_,_,_=>none
 |n+1,t,x,y=>match T t with
  |none=>none
  |some ti=>match ti.kd,x,y with
   |.int _,.d (.int j a),.d (.int k b)=>bif j==k then some (decide (a=b)) else none
   |.bool,.d (.bool a),.d (.bool b)=>some (a==b)
   |.str,.d (.str a),.d (.str b)=>some (decide (a=b))
   |.array len e,.agg xs,.agg ys=>match T e with
    |some te=>bif Nat.beq len 0 then none else (List.range len).foldr (fun i acc=>match cM te.kd.isAgg te.size (xs.drop (i*te.size)),cM te.kd.isAgg te.size (ys.drop (i*te.size)) with
     |some a,some b=>match BS T n e a b,acc with
      |some p,some q=>some (p&&q)
      |_,_=>none
     |_,_=>none) (some true)
    |none=>none
   |.struct fs,.agg xs,.agg ys=>bif ti.eq then fs.foldr (fun f acc=>match T f.2 with
    |some tf=>match cM tf.kd.isAgg tf.size (xs.drop f.1),cM tf.kd.isAgg tf.size (ys.drop f.1) with
     |some a,some b=>match BS T n f.2 a b,acc with
      |some p,some q=>some (p&&q)
      |_,_=>none
     |_,_=>none
    |none=>none) (some true) else none
   |_,_,_=>none
def zC (p:Bool):AV→AV→AV
 |.d (.bool x),.d (.bool y)=>.d (.bool (bif p then x else y))
 |.any,.d (.bool y)=>bif p then .any else .d (.bool y)
 |_,_=>.any
def WC (op:UnOp) (x:AV):Option D:=
 match op,x with
 |.not,.d (.bool b)=>some (.bool (!b))
 |.neg,.d (.int k n)=>some (.int k (k.wrap (0-n)))
 |.xor,.d (.int k n)=>some (.int k (k.wrap (BitVec.ofInt k.bits (if k.signed then -1 else k.max) ^^^ BitVec.ofInt k.bits n).toNat))
 |_,_=>none
def ru (b:UInt8):List D:=[.int .u8 b.toNat]
def ry:List D→UInt8
 |[.int _ n]=>UInt8.ofNat n.toNat
 |_=>0
def rA (r:List D):Prop:=∃n:Int,r=[.int .u8 n]
def chunk (sz:Nat):Nat→List D→List (List D)
 |0,_=>[]
 |n+1,ds=>ds.take sz::chunk sz n (ds.drop sz)
def BT (ev:Operand→AV):Option Operand→Option (Option Int)
 |none=>some none
 |some x=>match ev x with
  |.d (.int _ n)=>some (some n)
  |_=>none
def iF {α:Type} (l:List α):Option Int→Option Int→List α
 |none,none=>l
 |some a,none=>l.drop a.toNat
 |none,some b=>l.take b.toNat
 |some a,some b=>(l.drop a.toNat).take (b.toNat-a.toNat)
def bO (n:Nat):Option Int→Option Int→Prop
 |none,none=>True
 |some a,none=>0≤a∧a≤n
 |none,some b=>0≤b∧b≤n
 |some a,some b=>0≤a∧a≤b∧b≤n
def pP (T:Nat→Option TI) (t:Nat) (x:AV) (lo hi mx:Option Int) (bx:List az):Option R:=
 match T t with
 |some ti=>match ti.kd,x,mx with
  |.str,.d (.str s),none=>R.when (bO s.length lo hi) (.d (.str (iF s lo hi)))
  |.slice e,x,none=>match x.rows bx,T e with
   |some es,some te=>some ⟨bO es.length lo hi∧∀r∈es,r.length=te.size,.d (.sl (iF es lo hi)),bif cF [x] then none else some (x.cw bx)⟩
   |_,_=>none
  |.slice e,x,some m=>match x.rows bx,hi,T e with
   |some es,some h,some te=>some ⟨(bO es.length lo (some h)∧m=h)∧∀r∈es,r.length=te.size,.cl (iF es lo (some h)),bif cF [x] then none else some (x.cw bx)⟩
   |_,_,_=>none
  |.array n e,.ep ds,none=>match lo,hi,T e with
   |none,none,some te=>R.when (n*te.size≤ds.length) (.d (.sl (chunk te.size n ds)))
   |_,_,_=>none
  |.array n e,.ptr b 0,none=>match lo,hi,T e,bx[b]? with
   |none,none,some te,some (.var cs)=>match iV [] cs with
    |some ds=>some ⟨n*te.size≤ds.length,.d (.sl (chunk te.size n ds)),some (bx.set b .dead)⟩
    |none=>none
   |_,_,_,_=>none
  |_,_,_=>none
 |none=>none
def Co (sizes:Nat→Option (Nat×Nat)):List AV→List (Nat×AV)→Option (List AV)
 |cells,[]=>some cells
 |cells,(i,v)::rest=>match sizes i,v.cells? with
  |some (off,size),some vs=>bif Nat.beq vs.length size&&Nat.ble (off+vs.length) cells.length then
   Co sizes (eM cells off vs) rest else none
  |_,_=>none
def DK (T:Nat→Option TI) (t:Nat) (parts:List (Nat×AV)):Option R:=
 match T t with
 |some ti=>match ti.zero.cells? with
  |some z=>match ti.kd with
   |.struct fs=>match Co (fun i=>match fs[i]? with|some (o,ft)=>(T ft).map fun x=>(o,x.size)|none=>none) z parts with
    |some cs=>R.pure (.agg cs)
    |none=>none
   |.array _ e=>match T e with
    |some te=>match Co (fun i=>some (i*te.size,te.size)) z parts with
     |some cs=>R.pure (.agg cs)
     |none=>none
    |none=>none
   |_=>none
  |none=>none
 |none=>none
def dI (bx:List az):List (Nat×AV)→List az
 |[]=>bx
 |(_,v)::rest=>match v.cells? with
  |some vs=>dI (eC bx vs) rest
  |none=>bx
def mU:Nat→List (Nat×AV)→Bool
 |_,[]=>true
 |i,(j,_)::r=>Nat.beq i j&&mU (i+1) r
def rowsOf (bx:List az) (size:Nat):List (Nat×AV)→Option (List (List D))
 |[]=>some []
 |(_,v)::r=>match v.cells? with
  |some vs=>match iV bx vs,rowsOf bx size r with
   |some ds,some rs=>bif Nat.beq ds.length size then some (ds::rs) else none
   |_,_=>none
  |none=>none
def Fm:List (Nat×AV)→Bool
 |[]=>true
 |(_,v)::r=>match v.cells? with
  |some vs=>cF vs&&Fm r
  |none=>false
def gj (T:Nat→Option TI) (t n:Nat) (parts:List (Nat×AV)) (bx:List az):Option R:=
 match T t with
 |some ti=>match ti.kd with
  |.slice e=>match T e with
   |some te=>bif Nat.beq parts.length n&&mU 0 parts&&Nat.ble (n*te.size) 16777216&&te.zero.cells?.isSome then
    match rowsOf bx te.size parts with
    |some rs=>some ⟨True,.cl rs,bif Fm parts then none else some (dI bx parts)⟩
    |none=>none
    else none
   |none=>none
  |_=>none
 |none=>none
def kD (size:Nat) (x:AV) (bx:List az):Option (List (List D)):=
 match x with
 |.d (.str b)=>bif Nat.beq size 1 then some (b.map ru) else none
 |x=>x.rows bx
def sameBox (b:Nat):AV→Bool
 |.ow b2 _ _=>Nat.beq b b2
 |.vw b2 _ _ _ _ _=>Nat.beq b b2
 |_=>false
def eN (te:TI):Bool:=
 match te.zero.cells? with
 |some z=>Nat.beq z.length te.size&&Nat.blt 0 te.bytes&&Nat.blt 0 te.size
 |none=>false
def lq (T:Nat→Option TI) (t:Nat) (s x:AV) (bx:List az):Option R:=
 match T t with
 |some ti=>match ti.kd with
  |.slice e=>match T e with
   |some te=>bif eN te then
    match kD te.size x bx with
    |some xs=>match s with
     |.cl []=>some ⟨xs.length*te.bytes≤140737488355328∧(∀r∈xs,r.length=te.size),.ow bx.length te.size xs.length,some (bx++[.row te.size xs])⟩
     |.cl (e0::er)=>match xs with
      |[]=>none
      |x0::xr=>some ⟨((e0::er).length+(x0::xr).length)*te.bytes≤140737488355328∧(∀r∈(e0::er)++(x0::xr),r.length=te.size),
       .ow bx.length te.size ((e0::er).length+(x0::xr).length),some (bx++[.row te.size ((e0::er)++(x0::xr))])⟩
     |.ow b sz n=>match bx[b]? with
      |some (.row s2 es)=>bif sameBox b x then none else
       some ⟨s2=sz∧sz=te.size∧n=es.length∧(es.length+xs.length)*te.bytes≤140737488355328∧(∀r∈es++xs,r.length=te.size),
       .ow bx.length te.size (es.length+xs.length),some ((bx.set b .dead)++[.row te.size (es++xs)])⟩
      |_=>none
     |_=>none
    |none=>none
    else none
   |none=>none
  |_=>none
 |none=>none
def BY (T:Nat→Option TI) (ev:Operand→AV):Op→Option (Prop×List (List D))
 |.call {callee:=.builtin b,args,argTypes}=>match b,args.toList,argTypes.toList with
  |.append,[x,y],[t,u]=>match T t,T u with
   |some ti,some tu=>match ti.kd,tu.kd with
    |.slice e,.slice _=>match T e with
     |some te=>bif eN te then match ev x,ev y with
      |.cl es,.cl (x0::xr)=>some ((es.length+(x0::xr).length)*te.bytes≤140737488355328∧(∀r∈es++(x0::xr),r.length=te.size),es++(x0::xr))
      |_,_=>none
      else none
     |none=>none
    |_,_=>none
   |_,_=>none
  |_,_,_=>none
 |_=>none
def xH (T:Nat→Option TI) (src dst:Nat) (x:AV) (bx:List az):Option R:=
 match T src,T dst with
 |some ts,some td=>match ts.kd,td.kd,x with
  |_,.int k,.d (.int _ n)=>R.pure (.d (.int k (k.wrap n)))
  |.slice e,.str,x=>match T e,x.rows bx with
   |some te,some es=>match te.kd with
    |.int .u8=>R.when (∀r∈es,rA r) (.d (.str (es.map ry)))
    |_=>none
   |_,_=>none
  |.str,.str,.d (.str s)=>R.pure (.d (.str s))
  |_,_,_=>none
 |_,_=>none
def zD (x:AV) (bx:List az):Option AV:=
 match x with
 |.d (.sl es)=>some (.d (.int .i64 es.length))
 |.cl es=>some (.d (.int .i64 es.length))
 |.ow b sz n=>match (AV.ow b sz n).rows bx with
  |some es=>some (.d (.int .i64 es.length))
  |none=>none
 |.vw b sz off n c ex=>match (AV.vw b sz off n c ex).rows bx with
  |some es=>some (.d (.int .i64 es.length))
  |none=>none
 |_=>none
def iY (T:Nat→Option TI) (b:Builtin) (args:List AV) (ats:List Nat) (bx:List az):Option R:=
 match b,args,ats with
 |.len,[x],[t]=>match T t with
  |some ti=>match ti.kd,x with
   |.array n _,_=>R.pure (.d (.int .i64 n))
   |.str,.d (.str s)=>R.pure (.d (.int .i64 s.length))
   |.slice _,x=>match zD x bx with
    |some v=>R.pure v
    |none=>none
   |_,_=>none
  |none=>none
 |.min,[.d (.int k x),.d (.int _ y)],_=>R.pure (.d (.int k (min x y)))
 |.max,[.d (.int k x),.d (.int _ y)],_=>R.pure (.d (.int k (max x y)))
 |.append,[s,x],[t,u]=>match T u with
  |some tu=>match tu.kd with
   |.int _=>none
   |_=>lq T t s x bx
  |none=>none
 |_,_,_=>none
def aW (lo:Option Int):Nat:=(lo.getD 0).toNat
def aT (len:Nat):Option Int→Nat
 |none=>len
 |some h=>h.toNat
def AV.uu:AV→Bool
 |.vw _ _ _ _ _ _=>true
 |_=>false
def iZ (ev:Operand→AV):Op→Bool
 |.slice _ x _ _ _=>(ev x).uu
 |.indexAddr _ x _=>(ev x).uu
 |.makeSlice _ _ _=>true
 |.call {callee:=.builtin b,args,..}=>match b,args.toList with
  |.copy,_=>true
  |.clear,_=>true
  |.cap,_=>true
  |.len,[x]=>(ev x).uu
  |.append,[x,_]=>(ev x).uu
  |_,_=>false
 |_=>false
def dJ (n c:Nat) (lo hi:Option Int):Prop:=
 match hi with
 |none=>bO n lo none
 |some h=>bO c lo (some h)
def viewAt:AV→Option (Nat×Nat×Nat×Nat×Nat×Bool)
 |.vw b sz off n c ex=>some (b,sz,off,n,c,ex)
 |.ow b sz n=>some (b,sz,0,n,n,false)
 |_=>none
def mV (te:TI):Option (List D):=
 match te.zero.cells? with
 |some z=>iV [] z
 |none=>none
def elemOf (T:Nat→Option TI) (t:Nat):Option TI:=
 match T t with
 |some ti=>match ti.kd with
  |.slice e=>T e
  |_=>none
 |none=>none
def DL (T:Nat→Option TI) (t:Nat):Option Bool:=
 match T t with
 |some ti=>match ti.kd with
  |.int _=>some true
  |_=>some false
 |none=>none
def wrote (es:List (List D)) (off:Nat) (xs:List (List D)):List (List D):=es.take off++xs++es.drop (off+xs.length)
def eO (es:List (List D)) (off k:Nat):Prop:=off≤es.length∧(es=[]→k=0)
def uv (size:Nat) (y:AV) (n:Nat) (bx:List az):Option (Prop×Nat×List (List D)):=
 match y with
 |.vw b sz off n2 _ _=>match bx[b]? with
  |some (.row s es)=>bif Nat.beq s sz then some (off+min n2 n≤es.length,min n2 n,(es.drop off).take (min n2 n)) else none
  |some (.kC s es)=>bif Nat.beq s sz then some (off+min n2 n≤es.length,min n2 n,(es.drop off).take (min n2 n)) else none
  |_=>none
 |y=>match kD size y bx with
  |some xs=>some (True,min xs.length n,xs.take (min xs.length n))
  |none=>none
def Cp (te:TI) (x y:AV) (bx:List az):Option R:=
 match viewAt x with
 |some (b,sz,off,n,_,_)=>match bx[b]?,uv te.size y n bx with
  |some (.row s es),some (cy,m,xs)=>bif Nat.beq s sz&&Nat.beq sz te.size then
   some ⟨cy∧eO es off m∧∀r∈xs,r.length=te.size,.d (.int .i64 m),
    some (bx.set b (.row sz (wrote es off xs)))⟩ else none
  |_,_=>none
 |none=>none
def DM (te:TI) (x:AV) (bx:List az):Option R:=
 match viewAt x with
 |some (b,sz,off,n,_,_)=>match bx[b]?,mV te with
  |some (.row s es),some z=>bif Nat.beq s sz&&Nat.beq sz te.size&&eN te then
   some ⟨eO es off n,.dV [],some (bx.set b (.row sz (wrote es off (List.replicate n z))))⟩ else none
  |_,_=>none
 |none=>none
def KY (te:TI) (b sz off n c:Nat) (ex:Bool) (m:Int) (bx:List az):Option R:=
 match bx[b]?,mV te with
 |some (.row s es),some z=>bif Nat.beq s sz&&Nat.beq sz te.size&&eN te&&ex then
  some ⟨0≤m∧c<n+m.toNat∧off+n≤es.length∧(n+m.toNat)*te.bytes≤140737488355328,
   .vw bx.length sz 0 (n+m.toNat) (n+m.toNat) false,some (bx++[.row sz ((es.drop off).take n++List.replicate m.toNat z)])⟩ else none
 |_,_=>none
def rB (te:TI) (b sz off n c:Nat) (ex:Bool) (y:AV) (bx:List az):Option R:=
 match bx[b]?,kD te.size y bx with
 |some (.row s es),some xs=>bif Nat.beq s sz&&Nat.beq sz te.size then
  some ⟨eO es (off+n) xs.length∧n+xs.length≤c∧∀r∈xs,r.length=te.size,.vw b sz off (n+xs.length) c ex,
   some (bx.set b (.row sz (wrote es (off+n) xs)))⟩ else none
 |_,_=>none
def whole (es:List (List D)) (off n c:Nat) (ex:Bool):Prop:=off=0∧n=es.length∧(es=[]→c=0∧ex=true)
def Fo (te:TI) (n m:Int) (bx:List az):Option R:=
 match mV te with
 |some z=>bif eN te then some ⟨0≤n∧n=m∧n.toNat*te.bytes≤140737488355328,.ow bx.length te.size n.toNat,some (bx++[.row te.size (List.replicate n.toNat z)])⟩ else none
 |none=>none
def mW (T:Nat→Option TI) (ev:Operand→AV) (o:Op) (bx:List az):Option R:=
 match o with
 |.slice ty x lo hi mx=>match ev x,elemOf T ty,BT ev lo,BT ev hi,BT ev mx with
  |.vw b sz off n c ex,some te,some l,some h,some none=>bif Nat.beq te.size sz then
   some ⟨dJ n c l h,.vw b sz (off+aW l) (aT n h-aW l) (c-aW l) ex,none⟩ else none
  |.vw b sz off n c ex,some te,some l,some (some h),some (some m)=>bif Nat.beq te.size sz then
   some ⟨bO c l (some h)∧h≤m∧m≤c,.vw b sz (off+aW l) (h.toNat-aW l) (m.toNat-aW l) true,none⟩ else none
  |_,_,_,_,_=>none
 |.indexAddr ty x i=>match ev x,elemOf T ty,ev i with
  |.vw b sz off n _ _,some te,.d (.int _ z)=>bif Nat.beq te.size sz then some ⟨0≤z∧z<n,.rp b sz (off+z.toNat) 0,none⟩ else none
  |_,_,_=>none
 |.makeSlice ty a b=>match elemOf T ty,ev a,ev b with
  |some te,.d (.int .i64 n),.d (.int .i64 m)=>Fo te n m bx
  |_,_,_=>none
 |.call {callee:=.builtin b,args,argTypes}=>match b,args.toList.map ev,argTypes.toList with
  |.len,[.vw _ _ _ n _ _],[ty]=>match elemOf T ty with
   |some _=>R.pure (.d (.int .i64 n))
   |none=>none
  |.cap,[.vw _ _ _ _ c true],[ty]=>match elemOf T ty with
   |some _=>R.pure (.d (.int .i64 c))
   |none=>none
  |.copy,[x,y],ty::_=>match elemOf T ty with
   |some te=>Cp te x y bx
   |none=>none
  |.clear,[x],ty::_=>match elemOf T ty with
   |some te=>DM te x bx
   |none=>none
  |.append,[.vw b sz off n c ex,y],[ty,u]=>match elemOf T ty,DL T u with
   |some te,some true=>match y with
    |.d (.int .i64 m)=>KY te b sz off n c ex m bx
    |_=>none
   |some te,some false=>bif sameBox b y then rB te b sz off n c ex y bx else
    match bx[b]?,lq T ty (.ow b sz n) y bx with
    |some (.row _ es),some ⟨c1,v,aR⟩=>some ⟨c1∧whole es off n c ex,v,aR⟩
    |_,_=>none
   |_,_=>none
  |_,_,_=>none
 |_=>none
def AV.isAgg:AV→Bool
 |.agg _=>true
 |_=>false
def jY:List AV→Bool
 |[]=>true
 |x::_=>x.sc||x.isAgg
def lu (T:Nat→Option TI) (ev:Operand→AV) (o:Op) (bx:List az):Option R:=
 match o with
 |.move x=>R.pure (ev x)
 |.assign x=>R.pure (ev x)
 |.alloc t=>match T t with
  |some ti=>match ti.zero.cells? with
   |some cs=>some ⟨True,.ptr bx.length 0,some (bx++[.var cs])⟩
   |none=>none
  |none=>none
 |.box _ x=>match (ev x).cells? with
  |some cs=>some ⟨True,.ptr bx.length 0,some (bx++[.var cs])⟩
  |none=>none
 |.load t a=>match T t with
  |some ti=>pn ti (ev a) bx
  |none=>none
 |.store t a x=>match T t with
  |some ti=>sY ti (ev a) (ev x) bx
  |none=>none
 |.build t parts=>DK T t (parts.toList.map fun p=>(p.1,ev p.2))
 |.buildSlice t n parts=>gj T t n (parts.toList.map fun p=>(p.1,ev p.2)) bx
 |.fieldAddr t x f=>match T t with
  |some ti=>match zB ti.kd f with
   |some (o,ft)=>match T ft with
    |some tf=>bif Nat.beq tf.size 0 then none else
     match ev x with
     |.ptr b off=>R.pure (.ptr b (off+o))
     |.rp b sz i j=>R.pure (.rp b sz i (j+o))
     |.ep ds=>R.when (o≤ds.length) (.ep (ds.drop o))
     |_=>none
    |none=>none
   |none=>none
  |none=>none
 |.indexAddr t x i=>match T t with
  |some ti=>match ti.kd,ev i with
   |.array n e,.d (.int _ z)=>match T e with
    |some te=>match ev x with
     |.ptr b off=>R.when (0≤z∧z<n) (.ptr b (off+z.toNat*te.size))
     |.rp b sz a j=>R.when (0≤z∧z<n) (.rp b sz a (j+z.toNat*te.size))
     |.ep ds=>R.when (0≤z∧z<n∧z.toNat*te.size≤ds.length) (.ep (ds.drop (z.toNat*te.size)))
     |_=>none
    |none=>none
   |.slice e,.d (.int _ z)=>match T e,ev x with
    |some te,.ow b sz n=>bif Nat.beq te.size sz then R.when (0≤z∧z<n) (.rp b sz z.toNat 0) else none
    |_,_=>none
   |_,_=>none
  |none=>none
 |.field t x f=>match T t with
  |some ti=>match zB ti.kd f with
   |some (o,ft)=>match T ft,ev x with
    |some tf,.agg cs=>match cM tf.kd.isAgg tf.size (cs.drop o) with
     |some v=>R.pure v
     |none=>none
    |_,_=>none
   |none=>none
  |none=>none
 |.index t x i=>match T t with
  |some ti=>match ti.kd,ev x,ev i with
   |.str,.d (.str s),.d (.int _ z)=>R.when (0≤z∧z<s.length) (.d (.int .u8 (s.getD z.toNat 0).toNat))
   |.array n e,.agg cs,.d (.int _ z)=>match T e with
    |some te=>match cM te.kd.isAgg te.size (cs.drop (z.toNat*te.size)) with
     |some v=>R.when (0≤z∧z<n) v
     |none=>none
    |none=>none
   |_,_,_=>none
  |none=>none
 |.extract x i=>match ev x with
  |.dV vs=>match vs[i]? with
   |some v=>R.pure v
   |none=>none
  |_=>none
 |.binOp op t x y _=>match ev x,ev y with
  |.agg xs,.agg ys=>match op with
   |.eql=>(BS T 8 t (.agg xs) (.agg ys)).bind fun d=>R.pure (.d (.bool d))
   |.neq=>(BS T 8 t (.agg xs) (.agg ys)).bind fun d=>R.pure (.d (.bool (!d)))
   |_=>none
  |.d (.bool p),.d (.bool q)=>match T t,op with
   |some ti,.eql=>match ti.kd with
    |.bool=>R.pure (.d (.bool (p==q)))
    |_=>none
   |some ti,.neq=>match ti.kd with
    |.bool=>R.pure (.d (.bool (!(p==q))))
    |_=>none
   |_,_=>none
  |.sj _ _,.k .nilIface=>match T t,op with
   |some ti,.eql=>match ti.kd with
    |.iface=>R.pure (.d (.bool false))
    |_=>none
   |some ti,.neq=>match ti.kd with
    |.iface=>R.pure (.d (.bool true))
    |_=>none
   |_,_=>none
  |.k .nilIface,.k .nilIface=>match y with
   |.const _=>match T t,op with
    |some ti,.eql=>match ti.kd with
     |.iface=>R.pure (.d (.bool true))
     |_=>none
    |some ti,.neq=>match ti.kd with
     |.iface=>R.pure (.d (.bool false))
     |_=>none
    |_,_=>none
   |_=>none
  |x,y=>match Om op x y with
   |some (c,d)=>R.when c (.d d)
   |none=>none
 |.unOp op _ x=>(WC op (ev x)).bind fun d=>R.pure (.d d)
 |.convert s d x=>xH T s d (ev x) bx
 |.slice t x lo hi mx=>match BT ev lo,BT ev hi,BT ev mx with
  |some l,some h,some m=>pP T t (ev x) l h m bx
  |_,_,_=>none
 |.makeFunc (.func f) first jQ=>bif first.toList.isEmpty then (bif jY (jQ.toList.map ev) then R.pure (.fn f (jQ.toList.map ev)) else none) else R.pure (.fn f (.dV (first.toList.map ev)::jQ.toList.map ev))
 |.makeInterface t x=>match T t with
  |some ti=>bif ti.kd.plain then R.pure (.sj t (ev x)) else none
  |none=>none
 |.typeAssert x _ u ok=>match T u with
  |some tu=>bif tu.kd.plain&&tu.zero.cells?.isSome then
   match ev x with
   |.sj t v=>bif Nat.beq t u then R.pure (bif ok then .dV [v,.d (.bool true)] else v) else bif ok then R.pure (.dV [tu.zero,.d (.bool false)]) else none
   |.k .nilIface=>bif ok then R.pure (.dV [tu.zero,.d (.bool false)]) else none
   |_=>none
   else none
  |none=>none
 |.nilCheck x=>match ev x with
  |.ptr b o=>R.pure (.ptr b o)
  |.rp b s i j=>R.pure (.rp b s i j)
  |.ep ds=>R.pure (.ep ds)
  |.fn f cs=>R.pure (.fn f cs)
  |_=>none
 |.call {callee:=.builtin b,args,argTypes}=>iY T b (args.toList.map ev) argTypes.toList bx
 |_=>none
def Ff (T:Nat→Option TI) (ev:Operand→AV) (o:Op) (bx:List az):Option R:=
 bif iZ ev o then mW T ev o bx else lu T ev o bx
def fz (bx:List az):AV→Option AV
 |.cl es=>some (.d (.sl es))
 |.ow b sz n=>(AV.rq bx (.ow b sz n)).map AV.d
 |.vw b sz off n c ex=>((AV.vw b sz off n c ex).rows bx).map fun es=>.d (.sl es)
 |v=>some v
def Iw (bx:List az):List AV→Option (List AV)
 |[]=>some []
 |x::xs=>match fz bx x,Iw bx xs with
  |some y,some ys=>some (y::ys)
  |_,_=>none
def pQ (bx:List az):AV→Option AV
 |.agg cs=>(Iw bx cs).map .agg
 |v=>fz bx v
def lV (bx:List az):AV→List az
 |.agg cs=>eC bx cs
 |v=>v.cw bx
def eZ (bx:List az):List AV→Option (List AV)
 |[]=>some []
 |x::xs=>match pQ bx x,eZ bx xs with
  |some y,some ys=>some (y::ys)
  |_,_=>none
def fw (bx:List az):List AV→List az
 |[]=>bx
 |x::xs=>fw (lV bx x) xs
def AV.flat:AV→Bool
 |.d (.bool _)|.d (.int _ _)|.d (.str _)|.k _=>true
 |.agg cs=>zE cs
 |.dV cs=>pR cs
 |_=>false
where
 zE:List AV→Bool
  |[]=>true
  |.d (.bool _)::r|.d (.int _ _)::r|.d (.str _)::r|.k _::r=>zE r
  |_=>false
 pR:List AV→Bool
  |[]=>true
  |.d (.bool _)::r|.d (.int _ _)::r|.d (.str _)::r|.k _::r=>pR r
  |.agg cs::r=>zE cs&&pR r
  |_=>false
def dA:List AV→Prop
 |[]=>True
 |x::xs=>x.ok∧dA xs
def fX (G:Nat→Option (List D)) (sl:List (Nat×AV)) (xs:List Operand):List AV:=xs.map (bW G sl)
def lW:AV→List AV→Option (Nat×List AV)
 |.fn f (.dV fs::jQ),args=>some (f,fs++args++jQ)
 |.fn f jQ,args=>bif jY jQ then some (f,args++jQ) else none
 |.d (.fn f),args=>some (f,args)
 |_,_=>none
def AV.shut:AV→Bool
 |.any|.d _|.k _|.ep _|.cl _=>true
 |.agg cs|.dV cs|.fn _ cs=>kY cs
 |.sj _ x|.cond _ x=>x.shut
 |.ptr _ _|.rp _ _ _ _|.ow _ _ _|.vw _ _ _ _ _ _|.BR _=>false
where
 kY:List AV→Bool
  |[]=>true
  |x::xs=>x.shut&&kY xs
def D.flat:D→Bool
 |.sl _=>false
 |.mp _ _=>false
 |_=>true
structure KZ (FC:Nat→List AV→List az→iU→List az→Prop) (f:Nat) (args:List AV) (bx:List az)
 (K:AV→List az→Prop) (Kp:AV→List az→Prop):Prop where
 ok:∃args' pS res pT,(args'=args∧pS=bx∨eZ bx args=some args'∧pS=fw bx args)∧FC f args' pS res pT∧
  (match res with|.ret v=>K v pT|.Mn v=>Kp v pT)
structure Fp (FC:Nat→List AV→List az→iU→List az→Prop) (f:Nat) (args:List AV) (bx:List az)
 (K:AV→List az→Prop):Prop where
 ok:∃args',eZ bx args=some args'∧AV.shut.kY args'=true∧
  (
   (∃v,FC f args' [] (.ret v) []∧(v.flat=true∨eZ [] args=some args'∧v.shut=true)∧K v bx)∨
   (∃sz n es,FC f args' [] (.ret (.ow 0 sz n)) [.row sz es]∧((∀r∈es,∀x∈r,x.flat=true)∨eZ [] args=some args')∧K (.ow bx.length sz n) (bx++[.row sz es])))
structure On (FC:Nat→List AV→List az→iU→List az→Prop) (kE:Prop) (f:Nat) (args:List AV) (bx:List az)
 (K:AV→List az→Prop) (Kp:AV→List az→Prop):Prop where
 ok:kE∧(Fp FC f args bx K∨KZ FC f args bx K Kp)
mutual
def AV.loose (dt:Bool):AV→Bool
 |.any=>true
 |.d (.bool _)|.d (.int _ _)|.d (.str _)|.k _=>true
 |.d _=>dt
 |.ptr _ _=>true
 |.rp _ _ _ _=>true
 |.agg cs=>AV.nA dt cs
 |.fn _ cs=>AV.nA dt cs
 |.sj _ x=>AV.loose dt x
 |_=>false
def AV.nA (dt:Bool):List AV→Bool
 |[]=>true
 |x::xs=>bif AV.loose dt x then AV.nA dt xs else false
end
def Oo (bx:List az) (i:Nat):Bool:=
 match bx[i]? with
 |some b=>b.born
 |none=>false
def AV.bM (bx:List az):AV→Bool
 |.any|.d _|.k _|.ep _|.cl _=>true
 |.agg cs|.dV cs|.fn _ cs=>dg bx cs
 |.sj _ x|.cond _ x=>x.bM bx
 |.ptr b _|.rp b _ _ _|.ow b _ _|.vw b _ _ _ _ _|.BR b=>Oo bx b
where
 dg (bx:List az):List AV→Bool
  |[]=>true
  |x::xs=>x.bM bx&&dg bx xs
def dW (dt:Bool) (bx:List az):List az→Bool
 |[]=>true
 |.var cs::r=>bif AV.nA dt cs&&AV.bM.dg bx cs then dW dt bx r else false
 |.dead::r=>dW dt bx r
 |.bt::r=>dW dt bx r
 |_::_=>false
structure mX (FC:Nat→List AV→List az→iU→List az→Prop) (f:Nat) (args:List AV) (bx:List az) (v:AV):Prop where
 ok:∃args' jO,eZ bx args=some args'∧AV.bM.dg jO args'=true∧(∃dt,dW dt jO jO=true∧(dt=true→eZ [] args=some args'))∧
  (∀(i:Nat) (b:az),jO[i]?=some b→b.born=true→∃b',bx[i]?=some b'∧b'.born=true∧(b.live=true→b'=b))∧FC f args' jO (.ret v) jO∧
  (v.flat=true∨eZ [] args=some args'∧v.shut=true)
structure T8 (FC:Nat→List AV→List az→iU→List az→Prop) (g:Bool) (kE:Prop) (f:Nat) (args:List AV) (bx:List az)
 (K:AV→Prop):Prop where
 ok:∃v,(g=true→kE∧mX FC f args bx v)∧K v
structure nL (g:Bool) (c:Prop) (ds:List D) (K:List D→Prop):Prop where
 ok:∃ds',(g=true→c∧ds=ds')∧K ds'
structure wk (v:AV) (A B:Unit→Prop):Prop where
 ok:match v with
 |.d (.bool p)=>(p=true→A ())∧(p=false→B ())
 |_=>False
structure K0 (Ix:Prop) (K:Bool→Prop):Prop where
 ok:∀b:Bool,(b=true→Ix)→K b
def Mo:AV→Option Prop
 |.d (.sl es)=>some (es=[])
 |.cl es=>some (es=[])
 |.ow _ _ n=>some (n=0)
 |_=>none
structure Oq (str:List UInt8) (pos:Nat) (A:Nat→Nat→Prop) (B:Unit→Prop):Prop where
 ok:(pos<str.length→A (Utf8.decode ⟨str.toArray⟩ pos).1 (Utf8.decode ⟨str.toArray⟩ pos).2)∧(¬pos<str.length→B ())
def uw (K:St→Prop) (Q:Ex→St→Prop) (e:Ex) (s:St):Prop:=
 match e with
 |.normal=>K s
 |e=>Q e s
def zF (T:Nat→Option TI) (t:Nat) (x i:AV):Option (Prop×List D):=
 match T t with
 |some ti=>match ti.kd,x,i with
  |.slice e,.d (.sl es),.d (.int _ z)=>match T e with
   |some te=>some (0≤z∧z<es.length∧(∀r∈es,r.length=te.size),es.getD z.toNat [])
   |none=>none
  |.slice e,.cl es,.d (.int _ z)=>match T e with
   |some te=>some (0≤z∧z<es.length∧(∀r∈es,r.length=te.size),es.getD z.toNat [])
   |none=>none
  |_,_,_=>none
 |none=>none
def nM:Kd→D→Bool
 |.int k,.int j _=>j==k
 |.str,.str _=>true
 |_,_=>false
def pp:D→D→Bool
 |.int j a,.int k b=>j==k&&decide (a=b)
 |.str a,.str b=>decide (a=b)
 |_,_=>false
def rowIs (kd:Kd) (n:Nat) (r:List D):Prop:=∃x ds,r=x::ds∧nM kd x=true∧ds.length=n
def wm:List (List D)→D→Option (List D)
 |[],_=>none
 |(x::ds)::r,k=>bif pp k x then some ds else wm r k
 |[]::r,k=>wm r k
def sn:List (List D)→D→List D→List (List D)
 |[],k,v=>[k::v]
 |(x::ds)::r,k,v=>bif pp k x then (k::v)::r else (x::ds)::sn r k v
 |[]::r,k,v=>[]::sn r k v
def zG (T:Nat→Option TI) (t:Nat) (m:AV) (bx:List az):Option (TI×TI×Bool×List (List D)):=
 match T t with
 |some ti=>match ti.kd with
  |.map k e=>match T k,T e,m with
   |some tk,some te,.d (.mp ag es)=>some (tk,te,ag,es)
   |some tk,some te,.k .DJ=>some (tk,te,te.kd.isAgg,[])
   |some tk,some te,.BR b=>match bx[b]? with
    |some (.mp ag es)=>some (tk,te,ag,es)
    |_=>none
   |_,_,_=>none
  |_=>none
 |none=>none
def wo (tk te:TI) (ag:Bool) (es:List (List D)) (k:D):Prop:=ag=te.kd.isAgg∧nM tk.kd k=true∧∀r∈es,rowIs tk.kd te.size r
structure IB (g:Bool) (c:Prop) (o:Option (List D)) (K:Option (List D)→Prop):Prop where
 ok:∃o',(g=true→c∧o=o')∧K o'
def oz (te:TI) (BU:Bool) (K:AV→Prop):Option (List D)→Prop
 |none=>match te.zero.cells? with
  |some _=>K (bif BU then .dV [te.zero,.d (.bool false)] else te.zero)
  |none=>False
 |some ds=>match cM te.kd.isAgg te.size (ds.map .d) with
  |some v=>K (bif BU then .dV [v,.d (.bool true)] else v)
  |none=>False
def DN (T:Nat→Option TI) (t:Nat) (m:AV) (bx:List az):Option (Nat×TI×TI×Bool×List (List D)):=
 match m,zG T t m bx with
 |.BR b,some (tk,te,ag,es)=>some (b,tk,te,ag,es)
 |_,_=>none
section
variable (FC:Nat→List AV→List az→iU→List az→Prop) (T:Nat→Option TI) (G:Nat→Option (List D)) (N:Nat)
def pU (o:Oper) (s:St) (K:AV→List az→Prop) (Q:Ex→St→Prop):Prop:=
 match o.op with
 |.pick c a b=>match (bW G s.sl c).aS with
  |.d (.bool p)=>((bW G s.sl c).ok∧(p=true→(bW G s.sl a).ok)∧(p=false→(bW G s.sl b).ok))∧K (zC p (bW G s.sl a).aS (bW G s.sl b).aS) s.bx
  |_=>False
 |.call {callee:=.value f,args,..}=>match lW (bW G s.sl f).aS (args.toList.map fun x=>(bW G s.sl x).aS) with
  |some (i,gJ)=>On FC ((bW G s.sl f).ok∧dA (fX G s.sl args.toList)) i gJ s.bx (fun v bx=>K v bx) (fun v bx=>Q (.panic v) ⟨[],bx⟩)
  |none=>False
 |.panic x=>match (bW G s.sl x).aS with
  |.sj t v=>(bW G s.sl x).ok∧Q (.panic (.sj t v)) ⟨[],s.bx⟩
  |_=>False
 |.range t x=>match T t with
  |some ti=>match ti.kd,(bW G s.sl x).aS with
   |.str,.d (.str str)=>(bW G s.sl x).ok∧K (.ptr s.bx.length 0) (s.bx++[.it str 0])
   |_,_=>False
  |none=>False
 |.next it true=>match (bW G s.sl it).aS with
  |.ptr b 0=>match s.bx[b]? with
   |some (.it str pos)=>(bW G s.sl it).ok∧Oq str pos (fun c wd=>K (.dV [.d (.bool true),.d (.int .i64 pos),.d (.int .i32 c)]) (s.bx.set b (.it str (pos+wd)))) (fun _=>K (.dV [.d (.bool false)]) s.bx)
   |_=>False
  |_=>False
 |.binOp .eql t x (.const (.slice none 0 0)) _=>match T t,Mo (bW G s.sl x).aS with
  |some ti,some Ix=>match ti.kd with
   |.slice _=>(bW G s.sl x).ok∧K0 Ix (fun b=>K (.d (.bool b)) s.bx)
   |_=>False
  |_,_=>False
 |.binOp .neq t x (.const (.slice none 0 0)) _=>match T t,Mo (bW G s.sl x).aS with
  |some ti,some Ix=>match ti.kd with
   |.slice _=>(bW G s.sl x).ok∧K0 Ix (fun b=>K (.d (.bool (!b))) s.bx)
   |_=>False
  |_,_=>False
 |.makeMap ty none=>match T ty with
  |some ti=>match ti.kd with
   |.map _ e=>match T e with
    |some te=>K (.BR s.bx.length) (s.bx++[.mp te.kd.isAgg []])
    |none=>False
   |_=>False
  |none=>False
 |.lookup ty m k BU=>match zG T ty (bW G s.sl m).aS s.bx,(bW G s.sl k).aS with
  |some (tk,te,ag,es),.d kd=>IB true (((bW G s.sl m).ok∧(bW G s.sl k).ok)∧wo tk te ag es kd) (wm es kd) (oz te BU (fun v=>K v s.bx))
  |_,_=>False
 |.mapUpdate ty m k x=>match DN T ty (bW G s.sl m).aS s.bx,(bW G s.sl k).aS,(bW G s.sl x).aS.cells? with
  |some (b,tk,te,ag,es),.d kd,some vs=>match cF vs,iV s.bx vs with
   |true,some ds=>(((bW G s.sl m).ok∧(bW G s.sl k).ok∧(bW G s.sl x).ok)∧wo tk te ag es kd∧ds.length=te.size∧(bW G s.sl x).aS.isAgg=ag)∧K .any (s.bx.set b (.mp ag (sn es kd ds)))
   |_,_=>False
  |_,_,_=>False
 |op=>
  match (match op with|.indexAddr t x i=>zF T t (bW G s.sl x).aS (bW G s.sl i).aS|_=>none) with
  |some (c,ds)=>nL true (dA (fX G s.sl op.operands.toList)∧c) ds (fun ds=>K (.ep ds) s.bx)
  |none=>match Ff T (fun x=>(bW G s.sl x).aS) op s.bx with
   |some ⟨c,v,b⟩=>(dA (fX G s.sl op.operands.toList)∧c)∧K v (dF s.bx b)
   |none=>False
def Cq (T:Nat→Option TI) (x:AV) (nm:String) (gJ:List AV):Option (Nat×List AV):=
 match x with
 |.sj t v=>match T t with
  |some ti=>match ti.inv with
   |some (n,i)=>if n=nm then some (i,v::gJ) else none
   |none=>none
  |none=>none
 |_=>none
def wq (g:Bool) (o:Oper) (s:St) (K:AV→Prop):Prop:=
 match o.op with
 |.pick c a b=>match (bW G s.sl c).aS with
  |.d (.bool p)=>(g=true→((bW G s.sl c).ok∧(p=true→(bW G s.sl a).ok)∧(p=false→(bW G s.sl b).ok)))∧K (zC p (bW G s.sl a).aS (bW G s.sl b).aS)
  |_=>False
 |.call {callee:=.value f,args,..}=>match lW (bW G s.sl f).aS (args.toList.map fun x=>(bW G s.sl x).aS) with
  |some (i,gJ)=>T8 FC g ((bW G s.sl f).ok∧dA (fX G s.sl args.toList)) i gJ s.bx (fun v=>K v)
  |none=>False
 |.call {callee:=.invoke r nm,args,..}=>match Cq T (bW G s.sl r).aS nm (args.toList.map fun x=>(bW G s.sl x).aS) with
  |some (i,gJ)=>T8 FC g ((bW G s.sl r).ok∧dA (fX G s.sl args.toList)) i gJ s.bx (fun v=>K v)
  |none=>False
 |op=>
  match (match op with|.indexAddr t x i=>zF T t (bW G s.sl x).aS (bW G s.sl i).aS|_=>none) with
  |some (c,ds)=>nL g (dA (fX G s.sl op.operands.toList)∧c) ds (fun ds=>K (.ep ds))
  |none=>match Ff T (fun x=>(bW G s.sl x).aS) op s.bx with
   |some ⟨c,v,none⟩=>(g=true→dA (fX G s.sl op.operands.toList)∧c)∧K v
   |_=>False
def stepG (g:Bool) (o:Oper) (s:St) (K:AV→Prop):Prop:=(g=false∧∃v,K v)∨wq FC T G g o s K∨
 ∃c es,BY T (fun x=>(bW G s.sl x).aS) o.op=some (c,es)∧(g=true→dA (fX G s.sl o.op.operands.toList)∧c)∧K (.d (.sl es))
def guardOf (sl:List (Nat×AV)) (ops:List Oper) (j:Nat) (want:Bool):Option Bool:=
 match ops[j]? with
 |some o=>match o.dst with
  |some t=>match gK t sl with
   |.d (.bool q)=>some (bif want then q else !q)
   |.cond g (.d (.bool q))=>some (g&&(bif want then q else !q))
   |_=>none
  |none=>none
 |none=>none
def sZ (g:Bool) (o:Oper) (s:St) (K:AV→Prop):Prop:=
 match o.op with
 |.call {callee:=.value f,args,..}=>match lW (bW G s.sl f).aS (args.toList.map fun x=>(bW G s.sl x).aS) with
  |some (i,gJ)=>∃v,(g=true→((bW G s.sl f).ok∧dA (fX G s.sl args.toList))∧FC i gJ s.bx (.ret v) s.bx)∧K v
  |none=>False
 |_=>False
def Fq (ops:List Oper):List Oper→(Ex→St→Prop)→St→Prop
 |[],Q,s=>Q .normal s
 |o::rest,Q,s=>bif gY N o.dst then
  match o.guard with
  |none=>pU FC T G o s (fun v bx=>Fq ops rest Q ⟨eJ o.dst v s.sl,bx⟩) Q
  |some (j,want)=>match guardOf s.sl ops j want with
   |some g=>stepG FC T G g o s (fun v=>Fq ops rest Q ⟨eJ o.dst (.cond g v) s.sl,s.bx⟩)∨
    sZ FC G g o s (fun v=>Fq ops rest Q ⟨eJ o.dst (.cond g v) s.sl,s.bx⟩)
   |none=>False
  else False
def rC (acc:List Nat) (o:Oper):Nat:=
 o.after.toList.foldl (fun s e=>bif Region.binds .any e then s ||| 2^e.on ||| acc.getD e.on 0 else s) 0
def cq:List Oper→List Nat→List Nat
 |[],acc=>acc
 |o::r,acc=>cq r (acc++[rC acc o])
def barrier (b:List Nat) (i:Nat):Bool:=
 Nat.beq (b.getD i 0) (2^i-1)&&(b.drop (i+1)).all (fun x=>x.testBit i)
def oA:List Oper→Nat
 |[]=>0
 |o::r=>(match o.op with|.alloc _=>1|.box _ _=>1|.call _=>1|_=>0)+oA r
def iB (T:Nat→Option TI) (G:Nat→Option (List D)) (sl:List (Nat×AV)) (o:Oper):Option (List AV):=
 match o.guard with
 |some _=>none
 |none=>match o.op with
  |.alloc t=>match T t with
   |some ti=>ti.zero.cells?
   |none=>none
  |.box _ x=>(bW G sl x).cells?
  |_=>none
def gq (ops:Array Oper) (b:List Nat):Nat→List Oper→Bool
 |_,[]=>true
 |i,o::r=>(o.after.toList.all fun e=>!Region.binds .any e||Nat.blt e.on i)&&rD ops (b.getD i 0) o i&&gq ops b (i+1) r
where
 rD (ops:Array Oper) (m:Nat) (o:Oper):Nat→Bool
  |0=>true
  |j+1=>(m.testBit j||(match ops[j]? with|some p=>p.apart ops o|none=>false))&&rD ops m o j
def fe (pre:List Nat) (i:Nat) (o:Oper):Oper:=
 bif pre.contains i then o else {o with after:=o.after++((pre.filter (fun p=>Nat.blt p i)).map (fun p=>({on:=p,ground:=.data}:Edge))).toArray}
def bI (pre:List Nat):Nat→List Oper→List Oper
 |_,[]=>[]
 |i,o::r=>fe pre i o::bI pre (i+1) r
def iG (ops:Array Oper):List Nat→List Nat→Bool
 |_,[]=>true
 |done,p::r=>match ops[p]? with
  |some o=>!done.contains p&&o.guard.isNone&&(o.after.all fun e=>!Region.binds .any e||done.contains e.on)&&
   ((List.range ops.size).all fun j=>Nat.beq j p||done.contains j||(match ops[j]? with|some q=>(q.after.any fun e=>Region.binds .any e&&Nat.beq e.on p)||o.apart ops q|none=>true))&&iG ops (p::done) r
  |none=>false
def lX (ops:Array Oper):Bool:=ops.all fun o=>match o.op with|.select _ _=>false|_=>true
def RT (G:Nat→Option (List D)) (sl:List (Nat×AV)) (o:Oper):Option AV:=
 match o.op with
 |.move x=>some (bW G sl x)
 |.binOp .add _ x y _=>match bW G sl x,bW G sl y with
  |.d (.int k a),.d (.int k' b)=>bif k==k' then some (.d (.int k (k.wrap (a+b)))) else none
  |_,_=>none
 |.binOp .sub _ x y _=>match bW G sl x,bW G sl y with
  |.d (.int k a),.d (.int k' b)=>bif k==k' then some (.d (.int k (k.wrap (a-b)))) else none
  |_,_=>none
 |_=>none
def Cr (G:Nat→Option (List D)) (N:Nat) (ops:List Oper):List Nat→List (Nat×AV)→Bool
 |[],_=>true
 |p::r,sl=>match ops[p]? with
  |some o=>match RT G sl o with
   |some v=>gY N o.dst&&Cr G N ops r (eJ o.dst v sl)
   |none=>false
  |none=>false
def zH:Op→Bool
 |.move _=>true
 |.extract _ _=>true
 |_=>false
def DO (ops:Array Oper) (p:Nat) (o:Oper):Bool:=
 match ops[p]? with
 |some q=>q.after.all fun e=>!Region.binds .any e||o.after.any fun e'=>Region.binds .any e'&&Nat.beq e'.on e.on
 |none=>false
def kq (ops:Array Oper) (late:List Nat) (i:Nat) (o:Oper):Oper:=
 bif late.contains i then o else {o with after:=o.after++((late.filter (fun p=>Nat.blt p i&&DO ops p o)).map (fun p=>({on:=p,ground:=.data}:Edge))).toArray}
def gw (ops:Array Oper) (late:List Nat):Nat→List Oper→List Oper
 |_,[]=>[]
 |i,o::r=>kq ops late i o::gw ops late (i+1) r
def rE (ops:Array Oper) (late:List Nat):Bool:=
 late.all fun p=>match ops[p]? with
  |some o=>zH o.op&&o.guard.isNone&&((List.range ops.size).all fun j=>Nat.beq j p||(o.after.any fun e=>Region.binds .any e&&Nat.beq e.on j)||(match ops[j]? with|some q=>(q.after.any fun e=>Region.binds .any e&&Nat.beq e.on p)||o.apart ops q|none=>true))
  |none=>false
def RU (u:Nat) (v:AV):List (Nat×AV)→List (Nat×AV)
 |[]=>[(u,v)]
 |(s,x)::r=>bif Nat.beq u s then (u,v)::r else bif Nat.blt u s then (u,v)::(s,x)::r else (s,x)::RU u v r
def BZ:List (Nat×AV)→List (Nat×AV)
 |[]=>[]
 |(u,v)::r=>RU u v (BZ r)
structure Nd where
 ls:List Bool
 ps:List (Nat×Nat)
def Ot (k i:Nat):List (Nat×Nat)→Bool
 |[]=>false
 |(p,j)::r=>(Nat.beq p k&&Nat.beq j i)||Ot k i r
def WD:List Bool→List Bool→Bool
 |[],[]=>true
 |a::l,b::m=>(a==b)&&WD l m
 |_,_=>false
def Ou (ops:Array Oper) (pl:List Nd) (z:Nat):Nat→List Nd→Bool
 |_,[]=>true
 |k,nd::r=>(match Region.ready .any ops nd.ls.toArray with
  |[]=>Nat.beq k z
  |rs=>rs.all fun i=>Nat.blt i nd.ls.length&&(nd.ls.getD i true==false)&&pl.any fun e=>WD e.ls (nd.ls.set i true)&&Ot k i e.ps)&&Ou ops pl z (k+1) r
def K1 (ops:Array Oper) (pl:List Nd):Bool:=Ou ops pl pl.length 0 (⟨List.replicate ops.size false,[]⟩::pl)
inductive OT where
 |done
 |one (i:Nat) (t:OT)
 |more (i:Nat) (t r:OT)
def OT.K2:OT→List Nat
 |.done=>[]
 |.one i _=>[i]
 |.more i _ r=>i::r.K2
def OT.depth:OT→Nat
 |.done=>0
 |.one _ t=>t.depth+1
 |.more _ t r=>max (t.depth+1) r.depth
def OT.fit (ops:Array Oper):OT→Bool→Array Bool→Bool
 |.done,top,listed=>!top||(Region.ready .any ops listed).isEmpty
 |.one i t,top,listed=>(!top||Region.ready .any ops listed==[i])&&t.fit ops true (listed.setIfInBounds i true)
 |.more i t r,top,listed=>(!top||Region.ready .any ops listed==i::r.K2)&&(t.fit ops true (listed.setIfInBounds i true)&&r.fit ops false listed)
def OT.fits (tr:OT) (pre:List Nat) (ops:List Oper):Bool:=Nat.ble tr.depth ops.length&&tr.fit (bI pre 0 ops).toArray true (Array.replicate ops.length false)
structure K3 (ops:List Oper):Prop where
 ok:gq ops.toArray (cq ops []) 0 ops=true
def lY (o:Oper) (sl:List (Nat×AV)) (ig:List az) (x:Nat) (K:AV→az→Prop):Prop:=
 ∃f args ats i gJ args' sz n es,o.op=.call {callee:=.value f,args:=args,argTypes:=ats}∧lW (bW G sl f).aS (args.toList.map fun x=>(bW G sl x).aS)=some (i,gJ)∧
  ((bW G sl f).ok∧dA (fX G sl args.toList))∧eZ ig gJ=some args'∧AV.shut.kY args'=true∧FC i args' [] (.ret (.ow 0 sz n)) [.row sz es]∧
  ((∀r∈es,∀x∈r,x.flat=true)∨eZ [] gJ=some args')∧ig[x]?=some .bt∧K (.ow x sz n) (.row sz es)
def nN (ops:List Oper) (b:List Nat) (base:Nat):List az→Nat→Nat→List Oper→(Ex→St→Prop)→St→Prop
 |_,_,_,[],Q,s=>Q .normal s
 |ig,k,i,o::rest,Q,s=>bif gY N o.dst then
  bif barrier b i then match o.guard with
   |none=>pU FC T G o s (fun v bx=>nN ops b base bx k (i+1) rest Q ⟨eJ o.dst v s.sl,bx⟩) Q
   |some (j,want)=>match guardOf s.sl ops j want with
    |some g=>stepG FC T G g o s (fun v=>nN ops b base s.bx k (i+1) rest Q ⟨eJ o.dst (.cond g v) s.sl,s.bx⟩)
    |none=>False
  else match iB T G s.sl o with
   |some cs=>match ig[base+k]? with
    |some .bt=>nN ops b base ig (k+1) (i+1) rest Q ⟨eJ o.dst (.ptr (base+k) 0) s.sl,s.bx.set (base+k) (.var cs)⟩
    |_=>False
   |none=>match o.guard with
    |none=>stepG FC T G true o ⟨s.sl,ig⟩ (fun v=>nN ops b base ig k (i+1) rest Q ⟨eJ o.dst v s.sl,s.bx⟩)∨
     lY FC G o s.sl ig (base+k) (fun v B=>nN ops b base ig (k+1) (i+1) rest Q ⟨eJ o.dst v s.sl,s.bx.set (base+k) B⟩)
    |some (j,want)=>match guardOf s.sl ops j want with
     |some g=>stepG FC T G g o ⟨s.sl,ig⟩ (fun v=>nN ops b base ig k (i+1) rest Q ⟨eJ o.dst (.cond g v) s.sl,s.bx⟩)
     |none=>False
  else False
def xI (ops:List Oper) (i:Nat) (K:St→Prop) (Q:Ex→St→Prop) (s:St):Prop:=match ops[i]? with
 |some o=>bif gY N o.dst then match o.guard with
  |none=>pU FC T G o s (fun v bx=>K ⟨eJ o.dst v s.sl,bx⟩) Q
  |some (j,want)=>match guardOf s.sl ops j want with
   |some g=>wk (.d (.bool g)) (fun _=>pU FC T G o s (fun v bx=>K ⟨eJ o.dst (.cond true v) s.sl,bx⟩) Q) (fun _=>K ⟨eJ o.dst (.cond false .any) s.sl,s.bx⟩)
   |none=>False
  else False
 |none=>False
def Mp (ops:List Oper) (Q:Ex→St→Prop) (R:St→Prop):OT→St→Prop
 |.done,s=>R s
 |.one i o,s=>xI FC T G N ops i (Mp ops Q R o) Q s
 |.more i o r,s=>xI FC T G N ops i (Mp ops Q R o) Q s∧Mp ops Q R r s
def T9 (ops:List Oper) (Q:Ex→St→Prop) (s:St):Prop:=
 ∃(pre:List Nat) (tr:OT) (s1:St),(iG ops.toArray [] pre=true∧lX ops.toArray=true∧Cr G N ops pre s.sl=true)∧tr.fits pre ops=true∧Mp FC T G N ops Q (fun s=>(⟨BZ s.sl,s.bx⟩:St)=s1) tr s∧Q .normal s1
def Fs (ops:List Oper) (Q:Ex→St→Prop) (S:List St) (s:St):List (Nat×Nat)→Prop
 |[]=>True
 |(p,i)::r=>(match S[p]? with|some s0=>xI FC T G N ops i (fun s1=>(⟨BZ s1.sl,s1.bx⟩:St)=s) Q s0|none=>False)∧Fs ops Q S s r
def allM (ops:List Oper) (Q:Ex→St→Prop) (S:List St):Nat→List Nd→Prop
 |_,[]=>True
 |k,nd::r=>(match S[k]? with|some s=>Fs FC T G N ops Q S s nd.ps|none=>False)∧allM ops Q S (k+1) r
def xJ (ks:List Nat):List (Nat×AV)→List (Nat×AV)
 |[]=>[]
 |(u,v)::r=>bif ks.contains u then (u,v)::xJ ks r else xJ ks r
def Ua (ops:List Oper) (Q:Ex→St→Prop) (s:St):Prop:=
 ∃(pl:List Nd) (S:List St) (s1 s0:St),K1 ops.toArray pl=true∧(S[0]?=some s0∧(s0=s∨∃ks,s0=⟨xJ ks s.sl,s.bx⟩))∧S[pl.length]?=some s1∧allM FC T G N ops Q S 1 pl∧Q .normal s1
def Ov (ops:List Oper) (Q:Ex→St→Prop) (s:St):Prop:=T9 FC T G N ops Q s∨Ua FC T G N ops Q s∨
 ∃pre late:List Nat,((pre=[]∧late=[])∨(iG ops.toArray [] pre=true∧lX ops.toArray=true∧rE (bI pre 0 ops).toArray late=true∧Cr G N ops pre s.sl=true))∧K3 (gw (bI pre 0 ops).toArray late 0 (bI pre 0 ops))∧
  nN FC T G N ops (cq (gw (bI pre 0 ops).toArray late 0 (bI pre 0 ops)) []) s.bx.length (s.bx++List.replicate (oA ops) .bt) 0 0 ops Q ⟨s.sl,s.bx++List.replicate (oA ops) .bt⟩
end
def B4 (T:Nat→Option TI) (sl:List (Nat×AV)) (bx:List az):List ResultVar→Option (Prop×List AV)
 |[]=>some (True,[])
 |.tmp t::r=>match B4 T sl bx r with
  |some (c,vs)=>some ((gK t sl).ok∧c,(gK t sl).aS::vs)
  |none=>none
 |.cell t ty::r=>match T ty,B4 T sl bx r with
  |some ti,some (c,vs)=>match gK t sl with
   |.ptr b o=>match pn ti (.ptr b o) bx with
    |some ⟨c',v,_⟩=>some (c'∧c,v::vs)
    |none=>none
   |_=>none
  |_,_=>none
def Cs:List AV→AV
 |[v]=>v
 |vs=>.dV vs
def IC (bx:List az):AV→Option AV
 |.dV vs=>(eZ bx vs).map .dV
 |v=>pQ bx v
def sC (bx:List az):AV→List az
 |.dV vs=>fw bx vs
 |v=>lV bx v
def AV.within (n:Nat):AV→Bool
 |.any|.d _|.k _|.ep _|.cl _=>true
 |.agg cs|.dV cs|.fn _ cs=>rF n cs
 |.sj _ x|.cond _ x=>x.within n
 |.ptr b _|.rp b _ _ _|.ow b _ _|.vw b _ _ _ _ _|.BR b=>Nat.blt b n
where
 rF (n:Nat):List AV→Bool
  |[]=>true
  |x::xs=>x.within n&&rF n xs
def bZ (n:Nat):List az→Bool
 |[]=>true
 |.var cs::r=>AV.within.rF n cs&&bZ n r
 |_::r=>bZ n r
def kill:List Bool→List az→List az
 |[],bs=>bs
 |_,[]=>[]
 |k::ks,b::bs=>(bif k&&b.born then .dead else b)::kill ks bs
structure Ub (n:Nat) (c:Prop) (v:AV) (bx:List az) (res:iU) (aR:List az):Prop where
 ok:c∧((res=.ret v∧aR=bx)∨
  (∃ks u,IC bx v=some u∧u.within n=true∧aR=(kill ks (sC bx v)).take n∧bZ n aR=true∧res=.ret u)∨
  (∃k sz m es,v=.ow k sz m∧bx[k]?=some (.row sz es)∧n≤k∧n≤bx.length∧bZ n (bx.take n)=true∧res=.ret (.ow n sz m)∧aR=bx.take n++[.row sz es])∨
  (∃sz,v=.cl []∧n≤bx.length∧bZ n (bx.take n)=true∧res=.ret (.ow n sz 0)∧aR=bx.take n++[.row sz []]))
structure Uc (v:AV) (bx:List az) (res:iU) (aR:List az):Prop where
 ok:res=.Mn v∧aR=bx
def K4 (T:Nat→Option TI) (results:List ResultVar) (n:Nat) (res:iU) (aR:List az):Ex→St→Prop
 |.exit _,_=>False
 |.panic v,s=>Uc v s.bx res aR
 |_,s=>match B4 T s.sl s.bx results with
  |some (c,vs)=>Ub n c (Cs vs) s.bx res aR
  |none=>False
def pu:Nat→List AV→List (Nat×AV)
 |_,[]=>[]
 |i,x::xs=>(i,x)::pu (i+1) xs
end Dem
end
section
open Go
namespace Dem
def lZ (es:Array MapEntry) (clock:Nat):Prop:=es.all (·.born<clock)=true∧(es.toList.map (·.born)).Nodup
mutual
def aL (w:World) (ok:Nat→Prop):D→Value→Prop
 |.bool b,v=>v=.bool b
 |.int k n,v=>v=.int k n
 |.str s,v=>v=.string ⟨s.toArray⟩
 |.sl es,v=>∃base cap,v=.slice base es.length cap∧es.length≤cap∧
  (es=[]∨∃blk off sz,base=some ⟨blk,off,none⟩∧ok blk∧ay w ok blk sz es off)
 |.fn f,v=>v=.func (.func f) #[] #[]
 |.mp ag es,v=>∃blk ms clock,v=.map (some blk)∧ok blk∧w.heap[blk]?=some (.map ms clock)∧lZ ms clock∧bp w ok ag es ms.toList
def aX (w:World) (ok:Nat→Prop) (blk:Nat):List D→Nat→Prop
 |[],_=>True
 |x::xs,off=>(∃u,w.cell? ⟨blk,off,none⟩=some u∧aL w ok x u)∧aX w ok blk xs (off+1)
def ay (w:World) (ok:Nat→Prop) (blk sz:Nat):List (List D)→Nat→Prop
 |[],_=>True
 |r::rs,off=>r.length=sz∧aX w ok blk r off∧ay w ok blk sz rs (off+sz)
def bp (w:World) (ok:Nat→Prop) (ag:Bool):List (List D)→List MapEntry→Prop
 |[],ms=>ms=[]
 |r::rs,ms=>∃m Fg,ms=m::Fg∧gZ w ok ag r m∧bp w ok ag rs Fg
def gZ (w:World) (ok:Nat→Prop) (ag:Bool):List D→MapEntry→Prop
 |[],_=>False
 |k::ds,m=>aL w ok k m.key∧∃cs,m.val=(bif ag then .agg ⟨cs⟩ else cs.headD undef)∧(ag=false→cs.length=1)∧cG w ok ds cs
def cG (w:World) (ok:Nat→Prop):List D→List Value→Prop
 |[],vs=>vs=[]
 |d::ds,vs=>∃v r,vs=v::r∧aL w ok d v∧cG w ok ds r
end
def je (w w':World) (ok ok':Nat→Prop):Prop:=∀blk,ok blk→ok' blk∧w'.heap[blk]?=w.heap[blk]?
theorem nB {w w':World} {blk:Nat} (h:w'.heap[blk]?=w.heap[blk]?) (off:Nat) (sp:Option Nat):w'.cell? ⟨blk,off,sp⟩=w.cell? ⟨blk,off,sp⟩:=by
 simp only [World.cell?,h]
theorem je.cell {w w':World} {ok ok':Nat→Prop} (h:je w w' ok ok') {blk:Nat} (hb:ok blk) (off:Nat):w'.cell? ⟨blk,off,none⟩=w.cell? ⟨blk,off,none⟩:=nB (h blk hb).2 off _
mutual
theorem aL.mono {w w':World} {ok ok':Nat→Prop} (h:je w w' ok ok'):∀(x:D) (v:Value),aL w ok x v→aL w' ok' x v
 |.bool b,v,hv=>by simpa [aL] using hv
 |.int k n,v,hv=>by simpa [aL] using hv
 |.str s,v,hv=>by simpa [aL] using hv
 |.sl es,v,hv=>by
  simp only [aL] at hv ⊢
  obtain ⟨base,cap,h1,h2,h3⟩:=hv
  refine ⟨base,cap,h1,h2,h3.imp id ?_⟩
  rintro ⟨blk,off,sz,e1,e2,e3⟩
  exact ⟨blk,off,sz,e1,(h blk e2).1,ay.mono h blk sz (h.cell e2) es off e3⟩
 |.fn f,v,hv=>by simpa [aL] using hv
 |.mp ag es,v,hv=>by
  simp only [aL] at hv ⊢
  obtain ⟨blk,ms,clock,h1,h2,h3,h4,h5⟩:=hv
  exact ⟨blk,ms,clock,h1,(h blk h2).1,by rw [(h blk h2).2];exact h3,h4,bp.mono h ag es _ h5⟩
theorem aX.mono {w w':World} {ok ok':Nat→Prop} (h:je w w' ok ok') (blk:Nat) (hb:∀off,w'.cell? ⟨blk,off,none⟩=w.cell? ⟨blk,off,none⟩):∀(xs:List D) (off:Nat),aX w ok blk xs off→aX w' ok' blk xs off
 |[],_,_=>by simp [aX]
 |x::xs,off,hv=>by
  simp only [aX] at hv ⊢
  obtain ⟨⟨u,h1,h2⟩,h3⟩:=hv
  exact ⟨⟨u,by rw [hb];exact h1,aL.mono h x u h2⟩,aX.mono h blk hb xs _ h3⟩
theorem ay.mono {w w':World} {ok ok':Nat→Prop} (h:je w w' ok ok') (blk sz:Nat) (hb:∀off,w'.cell? ⟨blk,off,none⟩=w.cell? ⟨blk,off,none⟩):∀(rs:List (List D)) (off:Nat),ay w ok blk sz rs off→ay w' ok' blk sz rs off
 |[],_,_=>by simp [ay]
 |r::rs,off,hv=>by
  simp only [ay] at hv ⊢
  exact ⟨hv.1,aX.mono h blk hb r _ hv.2.1,ay.mono h blk sz hb rs _ hv.2.2⟩
theorem bp.mono {w w':World} {ok ok':Nat→Prop} (h:je w w' ok ok') (ag:Bool):∀(rs:List (List D)) (ms:List MapEntry),bp w ok ag rs ms→bp w' ok' ag rs ms
 |[],_,hv=>by simpa [bp] using hv
 |r::rs,ms,hv=>by
  simp only [bp] at hv ⊢
  obtain ⟨m,Fg,h1,h2,h3⟩:=hv
  exact ⟨m,Fg,h1,gZ.mono h ag r m h2,bp.mono h ag rs Fg h3⟩
theorem gZ.mono {w w':World} {ok ok':Nat→Prop} (h:je w w' ok ok') (ag:Bool):∀(r:List D) (m:MapEntry),gZ w ok ag r m→gZ w' ok' ag r m
 |[],_,hv=>by simp [gZ] at hv
 |k::ds,m,hv=>by
  simp only [gZ] at hv ⊢
  obtain ⟨h1,cs,h2,h3,h4⟩:=hv
  exact ⟨aL.mono h k _ h1,cs,h2,h3,cG.mono h ds cs h4⟩
theorem cG.mono {w w':World} {ok ok':Nat→Prop} (h:je w w' ok ok'):∀(ds:List D) (vs:List Value),cG w ok ds vs→cG w' ok' ds vs
 |[],_,hv=>by simpa [cG] using hv
 |d::ds,vs,hv=>by
  simp only [cG] at hv ⊢
  obtain ⟨v,r,h1,h2,h3⟩:=hv
  exact ⟨v,r,h1,aL.mono h d v h2,cG.mono h ds r h3⟩
end
def bg (β:Nat→Nat) (bx:List az) (w:World) (X:Nat→Prop) (blk:Nat):Prop:=
 blk<w.heap.size∧¬X blk∧∀i b,bx[i]?=some b→b.live=true→β i≠blk
def zI (f:Nat):List Value→Value
 |.tuple fs::vs=>.func (.func f) fs ⟨vs⟩
 |vs=>.func (.func f) #[] ⟨vs⟩
theorem Fu (f:Nat) (vs:List Value):∃a b,zI f vs=.func (.func f) a b:=by unfold zI;split<;>exact ⟨_,_,rfl⟩
mutual
def aj (β:Nat→Nat) (bx:List az) (w:World) (ok:Nat→Prop):AV→Value→Prop
 |.any,_=>True
 |.d x,v=>aL w ok x v
 |.k c,v=>v=c.val
 |.agg cs,v=>∃vs,v=.agg ⟨vs⟩∧ak β bx w ok cs vs
 |.dV cs,v=>∃vs,v=.tuple ⟨vs⟩∧ak β bx w ok cs vs
 |.ptr b off,v=>v=.pointer (some ⟨β b,off,none⟩)∧bT bx b
 |.rp b sz i j,v=>v=.pointer (some ⟨β b,i*sz+j,none⟩)∧bT bx b
 |.ep ds,v=>∃blk off,v=.pointer (some ⟨blk,off,none⟩)∧ok blk∧aX w ok blk ds off
 |.ow b sz n,v=>bT bx b∧((n=0∧∃base,v=.slice base 0 0)∨
  (n≠0∧∃cap c e f,v=.slice (some ⟨β b,0,none⟩) n cap∧n≤cap∧w.heap[β b]?=some (.cells c e f)∧cap*sz≤c.size))
 |.cl es,v=>∃base,v=.slice base es.length es.length∧(es=[]∨∃blk off sz,base=some ⟨blk,off,none⟩∧ok blk∧ay w ok blk sz es off)
 |.fn f jQ,v=>∃vs,v=zI f vs∧ak β bx w ok jQ vs
 |.sj t x,v=>∃u,v=.iface t u∧aj β bx w ok x u
 |.cond p x,v=>(p=true→aj β bx w ok x v)∧(p=false→v=undef)
 |.vw b sz off n c ex,v=>bT bx b∧∃base cap cs e f,v=.slice base n cap∧n≤cap∧c≤cap∧(ex=true→cap=c)∧(cap=0∨base=some ⟨β b,off*sz,none⟩∧w.heap[β b]?=some (.cells cs e f)∧(off+cap)*sz≤cs.size)
 |.BR b,v=>v=.map (some (β b))∧bT bx b
def ak (β:Nat→Nat) (bx:List az) (w:World) (ok:Nat→Prop):List AV→List Value→Prop
 |[],vs=>vs=[]
 |x::xs,vs=>∃u us,vs=u::us∧aj β bx w ok x u∧ak β bx w ok xs us
end
def dj (β:Nat→Nat) (bx:List az) (w:World) (ok:Nat→Prop):az→Nat→Prop
 |.var cs,blk=>∃c e,w.heap[blk]?=some (.cells c e (0,0))∧ak β bx w ok cs c.toList
 |.row sz es,blk=>es=[]∨∃c e,w.heap[blk]?=some (.cells c e (0,0))∧ay w ok blk sz es 0
 |.kC sz es,blk=>es=[]∨(ok blk∧ay w ok blk sz es 0)
 |.it s pos,blk=>w.heap[blk]?=some (.stringIter ⟨s.toArray⟩ pos)
 |.mp ag es,blk=>∃ms clock,w.heap[blk]?=some (.map ms clock)∧lZ ms clock∧bp w ok ag es ms.toList
 |.dead,_=>True
 |.bt,_=>True
structure cJ (G:Nat→Option (List D)) (β:Nat→Nat) (bx:List az) (w:World) (X:Nat→Prop):Prop where
 xs:∀blk,X blk→blk<w.heap.size
 yM:∀g ds,G g=some ds→bg β bx w X g∧aX w (bg β bx w X) g ds 0
 inj:∀i j bi bj,bx[i]?=some bi→bx[j]?=some bj→bi.live=true→bj.live=true→β i=β j→i=j
 box:∀i b,bx[i]?=some b→dj β bx w (bg β bx w X) b (β i)
 apart:∀i b,bx[i]?=some b→b.live=true→¬X (β i)
structure Ext (β:Nat→Nat) (bx:List az) (w:World) (β':Nat→Nat) (aR:List az) (w':World):Prop where
 os:w'.os=w.os
 tape:w'.tape=w.tape
 output:w'.output=w.output
 size:w.heap.size≤w'.heap.size
 block:∀k,k<w.heap.size→(∀i b,bx[i]?=some b→b.live=true→β i≠k)→w'.heap[k]?=w.heap[k]?
 shape:∀(k:Nat) (c:Array Value) (e:TypeId) (f:Nat×Nat),w.heap[k]?=some (.cells c e f)→∃c',w'.heap[k]?=some (.cells c' e f)∧c'.size=c.size
 born:∀i,bT bx i→β' i=β i∧bT aR i
 live:∀i b,aR[i]?=some b→b.live=true→w.heap.size≤β' i∨∃j b',bx[j]?=some b'∧b'.live=true∧β j=β' i
theorem Ext.refl (β:Nat→Nat) (bx:List az) (w:World):Ext β bx w β bx w:=
 ⟨rfl,rfl,rfl,Nat.le_refl _,fun _ _ _=>rfl,fun _ c _ _ h=>⟨c,h,rfl⟩,fun _ h=>⟨rfl,h⟩,fun i b h1 h2=>.inr ⟨i,b,h1,h2,rfl⟩⟩
theorem rG {b:az} (h:b.live=true):b.born=true:=by cases b<;>simp_all [az.live,az.born]
theorem Ext.trans {β β' β'':Nat→Nat} {bx aR Ow:List az} {w w' w'':World} (h:Ext β bx w β' aR w') (g:Ext β' aR w' β'' Ow w''):Ext β bx w β'' Ow w'':=by
 refine ⟨g.os.trans h.os,g.tape.trans h.tape,g.output.trans h.output,Nat.le_trans h.size g.size,?_,?_,?_,?_⟩
 ·intro k hk hl
  rw [g.block k (Nat.lt_of_lt_of_le hk h.size),h.block k hk hl]
  intro i b hb hlv he
  rcases h.live i b hb hlv with h1|⟨j,b',h1,h2,h3⟩
  ·omega
  exact hl j b' h1 h2 (h3.trans he)
 ·intro k c e f hk
  obtain ⟨c',h1,h2⟩:=h.shape k c e f hk
  obtain ⟨c'',h3,h4⟩:=g.shape k c' e f h1
  exact ⟨c'',h3,h4.trans h2⟩
 ·intro i hi
  obtain ⟨h1,h2⟩:=h.born i hi
  obtain ⟨h3,h4⟩:=g.born i h2
  exact ⟨h3.trans h1,h4⟩
 intro i b hb hlv
 rcases g.live i b hb hlv with h1|⟨j,b',h1,h2,h3⟩
 ·exact .inl (Nat.le_trans h.size h1)
 rcases h.live j b' h1 h2 with h4|⟨k,b'',h4,h5,h6⟩
 ·exact .inl (by omega)
 exact .inr ⟨k,b'',h4,h5,h6.trans h3⟩
theorem Ext.keeps {β β':Nat→Nat} {bx aR:List az} {w w':World} (h:Ext β bx w β' aR w') (X:Nat→Prop):
 je w w' (bg β bx w X) (bg β' aR w' X):=by
 rintro blk ⟨h1,h2,h3⟩
 refine ⟨⟨Nat.lt_of_lt_of_le h1 h.size,h2,?_⟩,h.block blk h1 h3⟩
 intro i b hb hlv he
 rcases h.live i b hb hlv with h4|⟨j,b',h4,h5,h6⟩
 ·omega
 exact h3 j b' h4 h5 (h6.trans he)
structure sD (β:Nat→Nat) (bx:List az) (w:World) (ok:Nat→Prop) (β':Nat→Nat) (aR:List az) (w':World) (ok':Nat→Prop):Prop where
 keeps:je w w' ok ok'
 born:∀i,bT bx i→β' i=β i∧bT aR i
 shape:∀(k:Nat) (c:Array Value) (e:TypeId) (f:Nat×Nat),w.heap[k]?=some (.cells c e f)→∃c',w'.heap[k]?=some (.cells c' e f)∧c'.size=c.size
theorem Ext.eY {β β':Nat→Nat} {bx aR:List az} {w w':World} (h:Ext β bx w β' aR w') (X:Nat→Prop):
 sD β bx w (bg β bx w X) β' aR w' (bg β' aR w' X):=⟨h.keeps X,h.born,h.shape⟩
mutual
theorem aj.mono {β β':Nat→Nat} {bx aR:List az} {w w':World} {ok ok':Nat→Prop} (h:sD β bx w ok β' aR w' ok'):
 ∀(x:AV) (v:Value),aj β bx w ok x v→aj β' aR w' ok' x v
 |.any,_,_=>by simp [aj]
 |.d x,v,hv=>by simp only [aj] at hv ⊢;exact aL.mono h.keeps x v hv
 |.k c,v,hv=>by simpa [aj] using hv
 |.agg cs,v,hv=>by simp only [aj] at hv ⊢;obtain ⟨vs,e,g⟩:=hv;exact ⟨vs,e,ak.mono h cs vs g⟩
 |.dV cs,v,hv=>by simp only [aj] at hv ⊢;obtain ⟨vs,e,g⟩:=hv;exact ⟨vs,e,ak.mono h cs vs g⟩
 |.ptr b off,v,hv=>by simp only [aj] at hv ⊢;obtain ⟨e,g⟩:=hv;exact ⟨by rw [(h.born b g).1];exact e,(h.born b g).2⟩
 |.rp b sz i j,v,hv=>by simp only [aj] at hv ⊢;obtain ⟨e,g⟩:=hv;exact ⟨by rw [(h.born b g).1];exact e,(h.born b g).2⟩
 |.ep ds,v,hv=>by
  simp only [aj] at hv ⊢
  obtain ⟨blk,off,e,g1,g2⟩:=hv
  exact ⟨blk,off,e,(h.keeps blk g1).1,aX.mono h.keeps blk (h.keeps.cell g1) ds off g2⟩
 |.ow b sz n,v,hv=>by
  simp only [aj] at hv ⊢
  obtain ⟨g,hv⟩:=hv
  refine ⟨(h.born b g).2,hv.imp id ?_⟩
  rintro ⟨hn,cap,c,e,f,e1,e2,e3,e4⟩
  obtain ⟨c',e5,e6⟩:=h.shape _ _ _ _ e3
  rw [(h.born b g).1]
  exact ⟨hn,cap,c',e,f,e1,e2,e5,by rw [e6];exact e4⟩
 |.cl es,v,hv=>by
  simp only [aj] at hv ⊢
  obtain ⟨base,e,g⟩:=hv
  refine ⟨base,e,g.imp id ?_⟩
  rintro ⟨blk,off,sz,e1,e2,e3⟩
  exact ⟨blk,off,sz,e1,(h.keeps blk e2).1,ay.mono h.keeps blk sz (h.keeps.cell e2) es off e3⟩
 |.fn f jQ,v,hv=>by simp only [aj] at hv ⊢;obtain ⟨vs,e,g⟩:=hv;exact ⟨vs,e,ak.mono h jQ vs g⟩
 |.sj t x,v,hv=>by simp only [aj] at hv ⊢;obtain ⟨u,e,g⟩:=hv;exact ⟨u,e,aj.mono h x u g⟩
 |.cond p x,v,hv=>by simp only [aj] at hv ⊢;exact ⟨fun hp=>aj.mono h x v (hv.1 hp),hv.2⟩
 |.vw b sz off n c ex,v,hv=>by
  simp only [aj] at hv ⊢
  obtain ⟨g,base,cap,cs,e,f,e1,e2,e3,e4,e5⟩:=hv
  rcases e5 with e5|⟨e5,e6,e7⟩
  ·exact ⟨(h.born b g).2,base,cap,cs,e,f,e1,e2,e3,e4,.inl e5⟩
  obtain ⟨c',k5,k6⟩:=h.shape _ _ _ _ e6
  rw [(h.born b g).1]
  exact ⟨(h.born b g).2,base,cap,c',e,f,e1,e2,e3,e4,.inr ⟨e5,k5,by rw [k6];exact e7⟩⟩
 |.BR b,v,hv=>by simp only [aj] at hv ⊢;obtain ⟨e,g⟩:=hv;exact ⟨by rw [(h.born b g).1];exact e,(h.born b g).2⟩
theorem ak.mono {β β':Nat→Nat} {bx aR:List az} {w w':World} {ok ok':Nat→Prop} (h:sD β bx w ok β' aR w' ok'):
 ∀(xs:List AV) (vs:List Value),ak β bx w ok xs vs→ak β' aR w' ok' xs vs
 |[],vs,hv=>by simpa [ak] using hv
 |x::xs,vs,hv=>by
  simp only [ak] at hv ⊢
  obtain ⟨u,us,e,g1,g2⟩:=hv
  exact ⟨u,us,e,aj.mono h x u g1,ak.mono h xs us g2⟩
end
theorem ak.length {β:Nat→Nat} {bx:List az} {w:World} {ok:Nat→Prop}:∀{xs:List AV} {vs:List Value},ak β bx w ok xs vs→vs.length=xs.length
 |[],vs,h=>by simp only [ak] at h;simp [h]
 |x::xs,vs,h=>by simp only [ak] at h;obtain ⟨u,us,rfl,_,g⟩:=h;simp [ak.length g]
theorem ak.get {β:Nat→Nat} {bx:List az} {w:World} {ok:Nat→Prop}:∀{xs:List AV} {vs:List Value} (i:Nat) (x:AV),ak β bx w ok xs vs→xs[i]?=some x→∃v,vs[i]?=some v∧aj β bx w ok x v
 |[],_,i,x,_,hx=>by simp at hx
 |y::ys,vs,i,x,h,hx=>by
  simp only [ak] at h
  obtain ⟨u,us,rfl,g1,g2⟩:=h
  cases i with
  |zero=>simp at hx;subst hx;exact ⟨u,by simp,g1⟩
  |succ i=>simp at hx;obtain ⟨v,h1,h2⟩:=ak.get i x g2 hx;exact ⟨v,by simpa using h1,h2⟩
theorem ak.drop {β:Nat→Nat} {bx:List az} {w:World} {ok:Nat→Prop}:∀(n:Nat) {xs:List AV} {vs:List Value},ak β bx w ok xs vs→ak β bx w ok (xs.drop n) (vs.drop n)
 |0,xs,vs,h=>by simpa using h
 |n+1,[],vs,h=>by simp only [ak] at h;subst h;simp [ak]
 |n+1,x::xs,vs,h=>by
  simp only [ak] at h
  obtain ⟨u,us,rfl,_,g2⟩:=h
  simpa using ak.drop n g2
theorem ak.take {β:Nat→Nat} {bx:List az} {w:World} {ok:Nat→Prop}:∀(n:Nat) {xs:List AV} {vs:List Value},ak β bx w ok xs vs→ak β bx w ok (xs.take n) (vs.take n)
 |0,xs,vs,h=>by simp [ak]
 |n+1,[],vs,h=>by simp only [ak] at h;subst h;simp [ak]
 |n+1,x::xs,vs,h=>by
  simp only [ak] at h
  obtain ⟨u,us,rfl,g1,g2⟩:=h
  simp only [List.take_succ_cons,ak]
  exact ⟨u,_,rfl,g1,ak.take n g2⟩
theorem ak.append {β:Nat→Nat} {bx:List az} {w:World} {ok:Nat→Prop}:∀{xs ys:List AV} {vs us:List Value},ak β bx w ok xs vs→ak β bx w ok ys us→ak β bx w ok (xs++ys) (vs++us)
 |[],ys,vs,us,h,g=>by simp only [ak] at h;subst h;simpa using g
 |x::xs,ys,vs,us,h,g=>by
  simp only [ak] at h
  obtain ⟨u,Ox,rfl,g1,g2⟩:=h
  simp only [List.cons_append,ak]
  exact ⟨u,_,rfl,g1,ak.append g2 g⟩
def aZ:List Value→Nat→List Value→List Value
 |cs,_,[]=>cs
 |[],_,_::_=>[]
 |_::cs,0,v::vs=>v::aZ cs 0 vs
 |c::cs,n+1,v::vs=>c::aZ cs n (v::vs)
theorem ak.eM {β:Nat→Nat} {bx:List az} {w:World} {ok:Nat→Prop}:∀{xs:List AV} {vs:List Value} (n:Nat) {ys:List AV} {us:List Value},ak β bx w ok xs vs→ak β bx w ok ys us→
 ak β bx w ok (Dem.eM xs n ys) (aZ vs n us)
 |xs,vs,n,[],us,h,g=>by
  simp only [ak] at g;subst g
  cases xs<;>cases vs<;>simpa [Dem.eM,aZ] using h
 |[],vs,n,y::ys,us,h,g=>by
  simp only [ak] at h g;obtain ⟨u,Ox,rfl,_,_⟩:=g;subst h
  simp [Dem.eM,aZ,ak]
 |x::xs,vs,0,y::ys,us,h,g=>by
  simp only [ak] at h g
  obtain ⟨u,Ox,rfl,g1,g2⟩:=g
  obtain ⟨v,vs',rfl,h1,h2⟩:=h
  simp only [Dem.eM,aZ,ak]
  exact ⟨u,_,rfl,g1,ak.eM 0 h2 g2⟩
 |x::xs,vs,n+1,y::ys,us,h,g=>by
  simp only [ak] at h
  obtain ⟨v,vs',rfl,h1,h2⟩:=h
  have g0:=g
  simp only [ak] at g
  obtain ⟨u,Ox,rfl,g1,g2⟩:=g
  simp only [Dem.eM,aZ,ak]
  exact ⟨v,_,rfl,h1,ak.eM n h2 g0⟩
theorem dj.mono {β β':Nat→Nat} {bx aR:List az} {w w':World} {ok ok':Nat→Prop} (h:sD β bx w ok β' aR w' ok') {b:az} {blk:Nat}
 (hl:b.live=true→w'.heap[blk]?=w.heap[blk]?) (hb:dj β bx w ok b blk):dj β' aR w' ok' b blk:=by
 cases b with
 |var cs=>
  obtain ⟨c,e,h1,h2⟩:=hb
  exact ⟨c,e,by rw [hl rfl];exact h1,ak.mono h _ _ h2⟩
 |row sz es=>
  cases es with
  |nil=>exact .inl rfl
  |cons r rs=>
   rcases hb with hb|⟨c,e,h1,h2⟩
   ·exact .inl hb
   exact .inr ⟨c,e,by rw [hl rfl];exact h1,ay.mono h.keeps blk sz (fun off=>nB (hl rfl) off _) _ _ h2⟩
 |kC sz es=>
  rcases hb with hb|⟨h1,h2⟩
  ·exact .inl hb
  exact .inr ⟨(h.keeps blk h1).1,ay.mono h.keeps blk sz (h.keeps.cell h1) _ _ h2⟩
 |it s pos=>simp only [dj] at hb ⊢;rw [hl rfl];exact hb
 |mp ag es=>
  obtain ⟨ms,clock,h1,h2,h3⟩:=hb
  exact ⟨ms,clock,by rw [hl rfl];exact h1,h2,bp.mono h.keeps ag es _ h3⟩
 |dead=>trivial
 |bt=>trivial
theorem cJ.step {G:Nat→Option (List D)} {β β':Nat→Nat} {bx aR:List az} {w w':World} {X:Nat→Prop} (cx:cJ G β bx w X) (ex:Ext β bx w β' aR w')
 (Zs:∀i b,aR[i]?=some b→(bx[i]?=some b∧(b.live=true→w'.heap[β i]?=w.heap[β i]?))∨dj β' aR w' (bg β' aR w' X) b (β' i))
 (hinj:∀i j bi bj,aR[i]?=some bi→aR[j]?=some bj→bi.live=true→bj.live=true→β' i=β' j→i=j):cJ G β' aR w' X:=by
 refine ⟨fun blk hb=>Nat.lt_of_lt_of_le (cx.xs blk hb) ex.size,?_,hinj,?_,?_⟩
 ·intro g ds hg
  obtain ⟨h1,h2⟩:=cx.yM g ds hg
  exact ⟨(ex.keeps X g h1).1,aX.mono (ex.keeps X) g ((ex.keeps X).cell h1) _ _ h2⟩
 ·intro i b hb
  rcases Zs i b hb with ⟨h1,h2⟩|h
  ·by_cases dL:b.born=true
   ·rw [(ex.born i ⟨b,h1,dL⟩).1]
    exact dj.mono (ex.eY X) h2 (cx.box i b h1)
   cases b<;>simp_all [az.born,dj]
  exact h
 intro i b hb hl hX
 rcases ex.live i b hb hl with h|⟨j,b',h1,h2,h3⟩
 ·have:=cx.xs _ hX;omega
 exact cx.apart j b' h1 h2 (h3▸hX)
structure DP (w w':World):Prop where
 heap:w'.heap=w.heap
 os:w'.os=w.os
 tape:w'.tape=w.tape
 output:w'.output=w.output
theorem jg {β:Nat→Nat} {bx:List az} {w w':World} (h:DP w w'):Ext β bx w β bx w':=
 ⟨h.os,h.tape,h.output,by rw [h.heap];exact Nat.le_refl _,fun k _ _=>by rw [h.heap],fun k c e f hk=>⟨c,by rw [h.heap];exact hk,rfl⟩,fun i hi=>⟨rfl,hi⟩,fun i b h1 h2=>.inr ⟨i,b,h1,h2,rfl⟩⟩
theorem pV {G:Nat→Option (List D)} {β:Nat→Nat} {bx:List az} {w w':World} {X:Nat→Prop} (cx:cJ G β bx w X) (h:DP w w'):cJ G β bx w' X:=
 cx.step (jg h) (fun i b hb=>.inl ⟨hb,fun _=>by rw [h.heap]⟩) cx.inj
theorem fy (w:World):DP w {w with drawn:=w.drawn+1}:=⟨rfl,rfl,rfl,rfl⟩
theorem jh (w:World) (o:Obj) (k:Nat) (h:k<w.heap.size):({w with heap:=w.heap.push o}:World).heap[k]?=w.heap[k]?:=by
 show (w.heap.push o)[k]?=_
 rw [Array.getElem?_push,if_neg (by omega)]
theorem jk (w:World) (o:Obj):({w with heap:=w.heap.push o}:World).heap[w.heap.size]?=some o:=by
 show (w.heap.push o)[w.heap.size]?=_
 simp
theorem ff {w:World} {k:Nat} {o:Obj} (h:w.heap[k]?=some o):k<w.heap.size:=by
 rcases Nat.lt_or_ge k w.heap.size with h'|h'
 ·exact h'
 simp [Array.getElem?_eq_none h'] at h
theorem uz {β:Nat→Nat} {bx:List az} {w:World} (o:Obj):Ext β bx w β bx {w with heap:=w.heap.push o}:=by
 refine ⟨rfl,rfl,rfl,by simp,fun k hk _=>jh w o k hk,fun k c e f hk=>⟨c,?_,rfl⟩,fun i hi=>⟨rfl,hi⟩,fun i b h1 h2=>.inr ⟨i,b,h1,h2,rfl⟩⟩
 rw [jh w o k (ff hk)];exact hk
theorem dj.fL {β:Nat→Nat} {bx:List az} {w:World} {ok:Nat→Prop} {b:az} {blk:Nat} (h:dj β bx w ok b blk) (hl:b.live=true):blk<w.heap.size:=by
 cases b with
 |var cs=>obtain ⟨c,e,h1,_⟩:=h;exact ff h1
 |row sz es=>
  cases es with
  |nil=>simp [az.live] at hl
  |cons r rs=>
   rcases h with h|⟨c,e,h1,_⟩;· simp at h
   exact ff h1
 |it s pos=>exact ff h
 |mp ag es=>obtain ⟨ms,clock,h1,_⟩:=h;exact ff h1
 |kC _ _=>simp [az.live] at hl
 |dead=>simp [az.live] at hl
 |bt=>simp [az.live] at hl
theorem Fv {G:Nat→Option (List D)} {β:Nat→Nat} {bx:List az} {w:World} {X:Nat→Prop} (cx:cJ G β bx w X) (o:Obj):cJ G β bx {w with heap:=w.heap.push o} X:=
 cx.step (uz o) (fun i b hb=>.inl ⟨hb,fun hl=>jh w o _ ((cx.box i b hb).fL hl)⟩) cx.inj
def kZ (β:Nat→Nat) (i blk:Nat):Nat→Nat:=fun j=>if j=i then blk else β j
theorem bq (β:Nat→Nat) (i blk:Nat):kZ β i blk i=blk:=by simp [kZ]
theorem dc (β:Nat→Nat) {i j:Nat} (blk:Nat) (h:j≠i):kZ β i blk j=β j:=by simp [kZ,h]
theorem eH {bx:List az} {B:az} {i:Nat} {b:az} (h:bx[i]?=some b):(bx++[B])[i]?=some b:=by
 have:i<bx.length:=by
  rcases Nat.lt_or_ge i bx.length with h'|h';· exact h'
  simp [List.getElem?_eq_none h'] at h
 rw [List.getElem?_append_left this];exact h
theorem bu {bx:List az} {B:az} {i:Nat} {b:az} (h:(bx++[B])[i]?=some b):(bx[i]?=some b∧i<bx.length)∨(i=bx.length∧b=B):=by
 rcases Nat.lt_or_ge i bx.length with h'|h'
 ·rw [List.getElem?_append_left h'] at h;exact .inl ⟨h,h'⟩
 rw [List.getElem?_append_right h'] at h
 by_cases hi:i=bx.length
 ·subst hi;simp at h;exact .inr ⟨rfl,h.symm⟩
 simp [show i-bx.length≠0 by omega] at h
theorem gk {β:Nat→Nat} {bx:List az} {w:World} (o:Obj) (B:az):Ext β bx w (kZ β bx.length w.heap.size) (bx++[B]) {w with heap:=w.heap.push o}:=by
 refine ⟨rfl,rfl,rfl,by simp,fun k hk _=>jh w o k hk,fun k c e f hk=>⟨c,?_,rfl⟩,?_,?_⟩
 ·rw [jh w o k (ff hk)];exact hk
 ·rintro i ⟨b,h1,h2⟩
  have:i<bx.length:=by
   rcases Nat.lt_or_ge i bx.length with h'|h';· exact h'
   simp [List.getElem?_eq_none h'] at h1
  exact ⟨dc _ _ (by omega),b,eH h1,h2⟩
 intro i b h1 h2
 rcases bu h1 with ⟨h3,h4⟩|⟨rfl,rfl⟩
 ·exact .inr ⟨i,b,h3,h2,(dc _ _ (by omega)).symm⟩
 exact .inl (by rw [bq];exact Nat.le_refl _)
theorem kF {G:Nat→Option (List D)} {β:Nat→Nat} {bx:List az} {w:World} {X:Nat→Prop} (cx:cJ G β bx w X) (o:Obj) (B:az)
 (hB:dj (kZ β bx.length w.heap.size) (bx++[B]) {w with heap:=w.heap.push o} (bg (kZ β bx.length w.heap.size) (bx++[B]) {w with heap:=w.heap.push o} X) B w.heap.size):
 cJ G (kZ β bx.length w.heap.size) (bx++[B]) {w with heap:=w.heap.push o} X:=by
 refine cx.step (gk o B) ?_ ?_
 ·intro i b hb
  rcases bu hb with ⟨h3,h4⟩|⟨rfl,rfl⟩
  ·exact .inl ⟨h3,fun hl=>jh w o _ ((cx.box i b h3).fL hl)⟩
  exact .inr (by rw [bq];exact hB)
 intro i j bi bj h1 h2 l1 l2 he
 rcases bu h1 with ⟨h3,h4⟩|⟨rfl,rfl⟩<;>rcases bu h2 with ⟨h5,h6⟩|⟨rfl,rfl⟩
 ·rw [dc _ _ (by omega),dc _ _ (by omega)] at he
  exact cx.inj i j bi bj h3 h5 l1 l2 he
 ·rw [dc _ _ (by omega),bq] at he
  have:=(cx.box i bi h3).fL l1;omega
 ·rw [bq,dc _ _ (by omega)] at he
  have:=(cx.box j bj h5).fL l2;omega
 rfl
end Dem
end
section
open Go
namespace Dem
structure kr (P:Program) (T:Nat→Option TI):Prop where
 ti:∀t ti,T t=some ti→pJ P t=some ti
 fields:∀t ti fs,T t=some ti→ti.kd=.struct fs→∀f∈fs,∃tf,T f.2=some tf
 deep:8≤P.depth
theorem aK {P:Program} {t:Nat} {ti:TI} (h:pJ P t=some ti):
 ∃i d,P.info? t=some i∧P.underlying t=some d∧ti.size=i.size∧ti.bytes=i.bytes∧ti.kd=cU d∧ti.zero=(match i.zero with|some z=>RQ z|none=>.any):=by
 unfold pJ at h
 split at h
 ·rename_i i d h1 h2
  simp at h;subst h
  exact ⟨i,d,h1,h2,rfl,rfl,rfl,rfl⟩
 simp at h
theorem Mq {P:Program} {t:Nat} {ti:TI} (h:pJ P t=some ti) {nm:String} {f:Nat} (hi:ti.inv=some (nm,f)):
 ∃i d,P.info? t=some i∧P.underlying t=some d∧(∀e,d≠.pointer e)∧∃m,i.methods.find? (fun m=>m.name==nm)=some m∧m.path.toList=[]∧m.func=some (f,false):=by
 unfold pJ at h
 split at h
 ·rename_i i d h1 h2
  simp only [osI] at h;subst h
  simp only at hi
  cases hp:(cU d).plain with
  |false=>simp [hp] at hi
  |true=>
  simp only [hp,cond_true] at hi
  refine ⟨i,d,h1,h2,fun e he=>by subst he;simp [cU,Kd.plain] at hp,?_⟩
  unfold T7 at hi
  obtain ⟨W4,hn,hi⟩:=List.exists_of_findSome?_eq_some hi
  split at hi
  ·rename_i a b path g hm
   cases he:path.toList.isEmpty with
   |false=>simp [he] at hi
   |true=>
   simp only [he,cond_true,osI,Prod.mk.injEq] at hi
   obtain ⟨rfl,rfl⟩:=hi
   exact ⟨_,by rw [←Array.find?_toList];exact hm,by simpa using he,rfl⟩
  cases hi
 simp at h
theorem RV {P:Program} {t:Nat} {ti:TI} (h:pJ P t=some ti) {d:TypeDesc} (hd:P.underlying t=some d):ti.eq=Ok P t d:=by
 unfold pJ at h
 split at h
 ·rename_i i d' h1 h2
  rw [hd] at h2
  simp at h;subst h
  simp only [osI] at h2;subst h2;rfl
 simp at h
section
variable {P:Program} {w:World} {t:Nat}
theorem aV {d:TypeDesc} (h:P.underlying t=some d):(underlying t).run P w=.ok d w:=by
 simp [underlying,program,Sem.run,h,Bind.bind,Sem.bind,Pure.pure]
theorem l5 {i:TypeInfo} (h:P.info? t=some i):(typeInfo t).run P w=.ok i w:=by
 simp [typeInfo,program,Sem.run,h,Bind.bind,Sem.bind,Pure.pure]
theorem bP {i:TypeInfo} (h:P.info? t=some i):(Go.sizeOf t).run P w=.ok i.size w:=by
 simp [Go.sizeOf,l5 h]
theorem gL {i:TypeInfo} {z:Value} (h:P.info? t=some i) (hz:i.zero=some z):(zeroValue t).run P w=.ok z w:=by
 simp [zeroValue,l5 h,hz]
theorem Ct {d:TypeDesc} (h:P.underlying t=some d):(isAgg t).run P w=.ok (cU d).isAgg w:=by
 simp [isAgg,aV h]
 cases d<;>simp [cU,Kd.isAgg]
theorem run_load {a:Addr} {v:Value} (h:w.cell? a=some v):(load a).run P w=.ok v w:=by
 simp [load,Sem.run,h]
end
theorem fO (blk off n:Nat):(⟨blk,off,none⟩:Addr).add n=⟨blk,off+n,none⟩:=by
 unfold Addr.add;split
 ·simp_all
 rfl
theorem run_loadCellsFrom {P:Program} {w:World} {blk off:Nat}:∀(vs:List Value) (i:Nat) (acc:Array Value),(∀j v,vs[j]?=some v→w.cell? ⟨blk,off+i+j,none⟩=some v)→
 (loadCellsFrom ⟨blk,off,none⟩ i vs.length acc).run P w=.ok (acc++vs.toArray) w
 |[],i,acc,_=>by simp [loadCellsFrom]
 |v::vs,i,acc,h=>by
  have h0:=h 0 v rfl
  simp only [List.length_cons,loadCellsFrom,fO,Sem.run_bind]
  rw [run_load (v:=v) (by simpa using h0)]
  simp only [Result.andThen_ok]
  rw [run_loadCellsFrom vs (i+1) (acc.push v) (fun j u hj=>by have:=h (j+1) u (by simpa using hj);rwa [show off+i+(j+1)=off+(i+1)+j by omega] at this)]
  simp
theorem run_loadCells {P:Program} {w:World} {blk off:Nat} (vs:List Value) (h:∀j v,vs[j]?=some v→w.cell? ⟨blk,off+j,none⟩=some v):
 (loadCells ⟨blk,off,none⟩ vs.length).run P w=.ok vs.toArray w:=by
 have:=run_loadCellsFrom (P:=P) vs 0 #[] (w:=w) (blk:=blk) (off:=off) (by simpa using h)
 simpa [loadCells] using this
def dz (G:Nat→Option (List D)) (β:Nat→Nat) (bx:List az) (w:World) (X:Nat→Prop) (r:Result Next) (v:AV) (aR:List az):Prop:=
 ∃β' w',Ext β bx w β' aR w'∧cJ G β' aR w' X∧
  ((∃u,r=.ok (.value u) w'∧aj β' aR w' (bg β' aR w' X) v u)∨(r=.ok .skip w'∧v=.any))
section
variable {P:Program} {T:Nat→Option TI} {G:Nat→Option (List D)} {β:Nat→Nat} {bx:List az} {w:World} {X:Nat→Prop}
theorem dz.pure {r:Result Next} {v:AV} {u:Value} (cx:cJ G β bx w X) (hr:r=.ok (.value u) w) (h:aj β bx w (bg β bx w X) v u):dz G β bx w X r v bx:=
 ⟨β,w,Ext.refl _ _ _,cx,.inl ⟨u,hr,h⟩⟩
theorem rH {ok:Nat→Prop} {blk:Nat}:∀(ds:List D) (off:Nat),aX w ok blk ds off→∃vs,vs.length=ds.length∧(∀j v,vs[j]?=some v→w.cell? ⟨blk,off+j,none⟩=some v)∧
 ak β bx w ok (ds.map .d) vs
 |[],off,_=>⟨[],rfl,by simp,by simp [ak]⟩
 |x::xs,off,h=>by
  simp only [aX] at h
  obtain ⟨⟨u,h1,h2⟩,h3⟩:=h
  obtain ⟨vs,g1,g2,g3⟩:=rH xs (off+1) h3
  refine ⟨u::vs,by simp [g1],?_,?_⟩
  ·intro j v hj
   cases j with
   |zero=>simp at hj;subst hj;simpa using h1
   |succ j=>have:=g2 j v (by simpa using hj);rwa [show off+(j+1)=off+1+j by omega]
  simp only [List.map_cons,ak,aj];exact ⟨u,vs,rfl,h2,g3⟩
theorem aX.drop {ok:Nat→Prop} {blk:Nat}:∀(n:Nat) (ds:List D) (off:Nat),aX w ok blk ds off→aX w ok blk (ds.drop n) (off+n)
 |0,ds,off,h=>by simpa using h
 |n+1,[],off,h=>by simp [aX]
 |n+1,x::xs,off,h=>by
  simp only [aX] at h
  have:=aX.drop n xs (off+1) h.2
  simpa [show off+(n+1)=off+1+n by omega] using this
theorem aX.take {ok:Nat→Prop} {blk:Nat}:∀(n:Nat) (ds:List D) (off:Nat),aX w ok blk ds off→aX w ok blk (ds.take n) off
 |0,ds,off,h=>by simp [aX]
 |n+1,[],off,h=>by simp [aX]
 |n+1,x::xs,off,h=>by
  simp only [aX] at h
  simp only [List.take_succ_cons,aX]
  exact ⟨h.1,aX.take n xs _ h.2⟩
theorem ay.get {ok:Nat→Prop} {blk sz:Nat}:∀(i:Nat) (es:List (List D)) (off:Nat),ay w ok blk sz es off→i<es.length→(es.getD i []).length=sz∧aX w ok blk (es.getD i []) (off+i*sz)
 |_,[],_,_,hi=>by simp at hi
 |0,r::rs,off,h,_=>by simp only [ay] at h;simpa using ⟨h.1,h.2.1⟩
 |i+1,r::rs,off,h,hi=>by
  simp only [ay] at h
  have:=ay.get i rs (off+sz) h.2.2 (by simpa using hi)
  simpa [Nat.add_mul,show off+sz+i*sz=off+(i*sz+sz) by omega] using this
theorem tc {ti:TI} {t:Nat} (ht:pJ P t=some ti) {cs:List AV} {v:AV} {vs:List Value} {blk off:Nat} {ok:Nat→Prop}
 (hs:cM ti.kd.isAgg ti.size cs=some v) (hr:ak β bx w ok cs vs) (hc:∀j v,vs[j]?=some v→w.cell? ⟨blk,off+j,none⟩=some v):
 ∃u,(loadVar t ⟨blk,off,none⟩).run P w=.ok u w∧aj β bx w ok v u:=by
 obtain ⟨i,d,h1,h2,h3,h4,h5,h6⟩:=aK ht
 unfold cM at hs
 simp only [loadVar,Sem.run_bind,Ct h2,Result.andThen_ok,h5] at hs ⊢
 cases hk:(cU d).isAgg with
 |true=>
  simp only [hk,cond_true] at hs
  cases hle:Nat.ble ti.size cs.length with
  |false=>simp [hle] at hs
  |true=>
   simp only [hle,cond_true,osI] at hs
   subst hs
   have hlen:=ak.length hr
   have hle':ti.size≤cs.length:=Nat.le_of_ble_eq_true hle
   have:=run_loadCells (P:=P) (w:=w) (blk:=blk) (off:=off) (vs.take ti.size) (fun j v hj=>by
    rw [List.getElem?_take] at hj
    split at hj
    ·exact hc j v hj
    simp at hj)
   rw [List.length_take,Nat.min_eq_left (by omega)] at this
   simp only [if_true,Sem.run_bind,bP h1,Result.andThen_ok,←h3,this]
   exact ⟨_,rfl,by simp only [aj];exact ⟨_,rfl,ak.take _ hr⟩⟩
 |false=>
  simp only [hk,cond_false] at hs
  cases cs with
  |nil=>simp at hs
  |cons c cs=>
   simp at hs;subst hs
   simp only [ak] at hr
   obtain ⟨u,us,rfl,g1,_⟩:=hr
   have:=hc 0 u rfl
   simp only [Bool.false_eq_true,if_false]
   exact ⟨u,run_load (by simpa using this),g1⟩
theorem zJ (hT:kr P T) (cx:cJ G β bx w X) {t:Nat} {ti:TI} (ht:T t=some ti) {a:AV} {u:Value} (ha:aj β bx w (bg β bx w X) a u)
 {c:Prop} {v:AV} {b:Option (List az)} (hr:pn ti a bx=some ⟨c,v,b⟩) (hc:c):
 b=none∧∃x,(Instr.loadAt t u).run P w=.ok x w∧aj β bx w (bg β bx w X) v x:=by
 have ht':=hT.ti t ti ht
 unfold pn at hr
 split at hr
 ·rename_i b' off
  simp only [aj] at ha
  obtain ⟨rfl,hb⟩:=ha
  split at hr
  ·rename_i cs rI
   split at hr
   ·rename_i v' hs
    simp only [R.pure,osI,R.mk.injEq] at hr
    obtain ⟨_,rfl,rfl⟩:=hr
    obtain ⟨ca,e,h1,h2⟩:=cx.box _ _ rI
    have h3:=ak.drop off h2
    obtain ⟨x,g1,g2⟩:=tc (P:=P) (w:=w) (blk:=β b') (off:=off) ht' hs h3 (fun j v hj=>by
     rw [List.getElem?_drop] at hj
     simp only [World.cell?,h1]
     simpa using hj)
    exact ⟨rfl,x,by simpa [Instr.loadAt,Instr.sureAddr] using g1,g2⟩
   simp at hr
  simp at hr
 ·rename_i ds
  simp only [aj] at ha
  obtain ⟨blk,off,rfl,hb,hrow⟩:=ha
  split at hr
  ·rename_i v' hs
   simp only [R.pure,osI,R.mk.injEq] at hr
   obtain ⟨_,rfl,rfl⟩:=hr
   obtain ⟨vs,g1,g2,g3⟩:=rH (β:=β) (bx:=bx) ds off hrow
   obtain ⟨x,k1,k2⟩:=tc (P:=P) (w:=w) (blk:=blk) (off:=off) ht' hs g3 g2
   exact ⟨rfl,x,by simpa [Instr.loadAt,Instr.sureAddr] using k1,k2⟩
  simp at hr
 ·rename_i b' sz i j
  simp only [aj] at ha
  obtain ⟨rfl,hb⟩:=ha
  have main:∀(s:Nat) (es:List (List D)),i<es.length→s=sz→ay w (bg β bx w X) (β b') s es 0→∀v',cM ti.kd.isAgg ti.size (List.map AV.d ((es.getD i []).drop j))=some v'→
   ∃x,(Instr.loadAt t (.pointer (some ⟨β b',i*sz+j,none⟩))).run P w=.ok x w∧aj β bx w (bg β bx w X) v' x:=by
   intro s es hi hs hrows v' hsp
   obtain ⟨_,hrow⟩:=ay.get i es 0 hrows hi
   have hrow:=aX.drop j _ _ hrow
   obtain ⟨vs,g1,g2,g3⟩:=rH (β:=β) (bx:=bx) _ _ hrow
   subst hs
   obtain ⟨x,k1,k2⟩:=tc (P:=P) (w:=w) (blk:=β b') (off:=0+i*s+j) ht' hsp g3 g2
   exact ⟨x,by simpa [Instr.loadAt,Instr.sureAddr] using k1,k2⟩
  split at hr
  ·rename_i s es rI
   split at hr
   ·rename_i v' hsp
    simp only [osI,R.mk.injEq] at hr
    obtain ⟨rfl,rfl,rfl⟩:=hr
    rcases cx.box _ _ rI with h|⟨ca,e,h1,h2⟩
    ·subst h;simp at hc
    exact ⟨rfl,main s es hc.2 hc.1 h2 _ hsp⟩
   simp at hr
  ·rename_i s es rI
   split at hr
   ·rename_i v' hsp
    simp only [osI,R.mk.injEq] at hr
    obtain ⟨rfl,rfl,rfl⟩:=hr
    rcases cx.box _ _ rI with h|⟨h1,h2⟩
    ·subst h;simp at hc
    exact ⟨rfl,main s es hc.2 hc.1 h2 _ hsp⟩
   simp at hr
  simp at hr
 simp at hr
def ID:Value→Prop
 |.agg _=>False
 |.tuple _=>False
 |_=>True
theorem aL.sc {ok:Nat→Prop} {x:D} {v:Value} (h:aL w ok x v):ID v:=by
 cases x<;>simp only [aL] at h
 ·subst h;trivial
 ·subst h;trivial
 ·subst h;trivial
 ·obtain ⟨_,_,rfl,_⟩:=h;trivial
 ·subst h;trivial
 obtain ⟨_,_,_,rfl,_⟩:=h;trivial
theorem aj.sc {ok:Nat→Prop} {x:AV} {v:Value} (hx:x.sc=true) (h:aj β bx w ok x v):ID v:=by
 cases x<;>simp only [AV.sc,Bool.false_eq_true] at hx<;>simp only [aj] at h
 ·exact aL.sc h
 ·rename_i c;subst h;cases c<;>trivial
 ·obtain ⟨rfl,_⟩:=h;trivial
 ·obtain ⟨rfl,_⟩:=h;trivial
 ·obtain ⟨_,_,rfl,_⟩:=h;trivial
 ·obtain ⟨_,h|h⟩:=h
  ·obtain ⟨_,_,rfl⟩:=h;trivial
  obtain ⟨_,_,_,_,_,rfl,_⟩:=h;trivial
 ·obtain ⟨_,rfl,_⟩:=h;trivial
 ·obtain ⟨vs,rfl,_⟩:=h;obtain ⟨a,b,e⟩:=Fu _ vs;rw [e];trivial
 ·obtain ⟨_,rfl,_⟩:=h;trivial
 obtain ⟨rfl,_⟩:=h;trivial
theorem ak.sc {ok:Nat→Prop}:∀{xs:List AV} {vs:List Value},ur xs=true→ak β bx w ok xs vs→∀v∈vs,ID v
 |[],vs,_,h=>by simp only [ak] at h;subst h;simp
 |x::xs,vs,hx,h=>by
  simp only [ak] at h
  obtain ⟨u,us,rfl,g1,g2⟩:=h
  cases hs:x.sc with
  |false=>simp [ur,hs] at hx
  |true=>
   simp only [ur,hs,cond_true] at hx
   intro v hv
   rcases List.mem_cons.1 hv with rfl|hv
   ·exact aj.sc hs g1
   exact ak.sc hx g2 v hv
theorem nO {ok:Nat→Prop} {x:AV} {v:Value} {cs:List AV} (hx:x.cells?=some cs) (h:aj β bx w ok x v):
 ∃vs,v.cells=⟨vs⟩∧ak β bx w ok cs vs∧(∀u∈vs,ID u):=by
 have one:∀(y:AV) (u:Value),y.sc=true→aj β bx w ok y u→∃vs,u.cells=⟨vs⟩∧ak β bx w ok [y] vs∧(∀u∈vs,ID u):=by
  intro y u hy hu
  have:=aj.sc hy hu
  refine ⟨[u],?_,by simp only [ak];exact ⟨u,[],rfl,hu,rfl⟩,by simpa using this⟩
  cases u<;>simp_all [Value.cells,ID]
 cases x with
 |any=>simp [AV.cells?] at hx
 |vw _ _ _ _ _ _=>simp [AV.cells?] at hx
 |dV _=>simp [AV.cells?] at hx
 |cond _ _=>simp [AV.cells?] at hx
 |agg gJ=>
  simp only [AV.cells?] at hx
  cases ha:ur gJ with
  |false=>simp [ha] at hx
  |true=>
   simp only [ha,cond_true,osI] at hx
   subst hx
   simp only [aj] at h
   obtain ⟨vs,rfl,g⟩:=h
   exact ⟨vs,rfl,g,ak.sc ha g⟩
 |d x=>simp only [AV.cells?,osI] at hx;subst hx;exact one _ _ rfl h
 |k x=>simp only [AV.cells?,osI] at hx;subst hx;exact one _ _ rfl h
 |ptr _ _=>simp only [AV.cells?,osI] at hx;subst hx;exact one _ _ rfl h
 |rp _ _ _ _=>simp only [AV.cells?,osI] at hx;subst hx;exact one _ _ rfl h
 |ep _=>simp only [AV.cells?,osI] at hx;subst hx;exact one _ _ rfl h
 |ow _ _ _=>simp only [AV.cells?,osI] at hx;subst hx;exact one _ _ rfl h
 |cl _=>simp only [AV.cells?,osI] at hx;subst hx;exact one _ _ rfl h
 |fn _ _=>simp only [AV.cells?,osI] at hx;subst hx;exact one _ _ rfl h
 |sj _ _=>simp only [AV.cells?,osI] at hx;subst hx;exact one _ _ rfl h
 |BR _=>simp only [AV.cells?,osI] at hx;subst hx;exact one _ _ rfl h
def dX (w:World) (blk:Nat) (o:Obj):World:={w with heap:=w.heap.setIfInBounds blk o}
theorem zK (w:World) (blk:Nat) (o:Obj) (k:Nat):(dX w blk o).heap[k]?=if k=blk then (w.heap[k]?).map (fun _=>o) else w.heap[k]?:=by
 show (w.heap.setIfInBounds blk o)[k]?=_
 rw [Array.getElem?_setIfInBounds]
 by_cases h:blk=k
 ·subst h
  by_cases hk:blk<w.heap.size
  ·simp [hk]
  simp [hk]
 simp [h,Ne.symm h]
theorem dQ {w:World} {blk:Nat} {o o':Obj} (h:w.heap[blk]?=some o'):(dX w blk o).heap[blk]?=some o:=by rw [zK];simp [h]
theorem iN {w:World} {blk k:Nat} {o:Obj} (h:k≠blk):(dX w blk o).heap[k]?=w.heap[k]?:=by rw [zK];simp [h]
theorem DQ (w:World) (blk:Nat) (o o':Obj):dX (dX w blk o) blk o'=dX w blk o':=by
 unfold dX
 simp
theorem Fw {w:World} {blk off:Nat} {c:Array Value} {e:TypeId} {f:Nat×Nat} (h:w.heap[blk]?=some (.cells c e f)) (v:Value):
 w.setCell ⟨blk,off,none⟩ v=dX w blk (.cells (c.setIfInBounds off v) e f):=by
 unfold World.setCell dX
 congr 1
 apply Array.ext_getElem?
 intro i
 rw [Array.getElem?_modify,Array.getElem?_setIfInBounds]
 by_cases hi:blk=i
 ·subst hi
  have hlt:=ff h
  have h':w.heap[blk]=.cells c e f:=by simpa [hlt] using h
  simp [hlt,h']
 simp [hi]
theorem oB:∀(l:List Value) (n:Nat) (v:Value) (vs:List Value),aZ l n (v::vs)=aZ (l.set n v) (n+1) vs
 |[],n,v,vs=>by cases vs<;>simp [aZ]
 |c::cs,0,v,vs=>by
  simp only [aZ,List.set_cons_zero]
  cases vs with
  |nil=>cases cs<;>simp [aZ]
  |cons u us=>simp [aZ]
 |c::cs,n+1,v,vs=>by
  simp only [aZ,List.set_cons_succ]
  rw [oB cs n v vs]
  cases vs with
  |nil=>simp [aZ]
  |cons u us=>simp [aZ]
theorem IE {w:World} {blk off:Nat} {c:Array Value} {e:TypeId} (h:w.heap[blk]?=some (.cells c e (0,0))) (ho:off<c.size) {v:Value} (hv:ID v):
 (store ⟨blk,off,none⟩ v).run P w=.ok () (dX w blk (.cells (c.setIfInBounds off v) e (0,0))):=by
 have h1:w.cell? ⟨blk,off,none⟩=some c[off]:=by simp [World.cell?,h,ho]
 have h2:w.frozen? ⟨blk,off,none⟩=false:=by simp [World.frozen?,h]
 rw [←Fw h]
 cases v<;>simp [ID] at hv<;>simp [store,Sem.run,h1,h2]
theorem jv {blk off:Nat} {e:TypeId}:∀(vs:List Value) (i:Nat) (w:World) (c:Array Value),w.heap[blk]?=some (.cells c e (0,0))→(∀v∈vs,ID v)→off+i+vs.length≤c.size→
 (storeCells ⟨blk,off,none⟩ vs i).run P w=.ok () (dX w blk (.cells ⟨aZ c.toList (off+i) vs⟩ e (0,0)))
 |[],i,w,c,h,_,_=>by
  have:dX w blk (.cells c e (0,0))=w:=by
   have:w.heap.setIfInBounds blk (.cells c e (0,0))=w.heap:=by
    apply Array.ext_getElem?
    intro k
    rw [Array.getElem?_setIfInBounds]
    split
    ·rename_i hk;subst hk;split<;>simp_all
    rfl
   simp [dX,this]
  cases hc:c.toList with
  |nil=>
   simp [storeCells,aZ];have wh:c=#[]:=by simpa using hc
   subst wh;exact this.symm
  |cons x xs=>simp [storeCells,aZ];rw [←hc];exact this.symm
 |v::vs,i,w,c,h,hs,hl=>by
  simp only [List.length_cons] at hl
  simp only [storeCells,Sem.run_bind,fO]
  rw [IE h (by omega) (hs v (by simp))]
  simp only [Result.andThen_ok]
  rw [jv vs (i+1) _ (c.setIfInBounds (off+i) v) (dQ h) (fun u hu=>hs u (by simp [hu])) (by simp;omega),DQ,oB]
  congr 4
  simp [show off+(i+1)=off+i+1 by omega]
theorem uA {t:Nat} {ti:TI} (ht:pJ P t=some ti) {blk off:Nat} {w:World} {c:Array Value} {e:TypeId} (h:w.heap[blk]?=some (.cells c e (0,0))) {v:Value} {vs:List Value} (hv:v.cells=⟨vs⟩)
 (hs:∀u∈vs,ID u) (hn:vs.length=ti.size) (hl:off+vs.length≤c.size):
 (storeVar t ⟨blk,off,none⟩ v).run P w=.ok () (dX w blk (.cells ⟨aZ c.toList off vs⟩ e (0,0))):=by
 obtain ⟨i,d,h1,h2,h3,h4,h5,h6⟩:=aK ht
 have:=jv (P:=P) (off:=off) vs 0 w c h hs (by simpa using hl)
 simp only [Nat.add_zero] at this
 simp [storeVar,hv,bP h1,hn,h3,this]
theorem dm:∀(l:List Value) (n:Nat) (vs:List Value),(aZ l n vs).length=l.length
 |l,n,[]=>by cases l<;>simp [aZ]
 |[],n,v::vs=>by simp [aZ]
 |c::cs,0,v::vs=>by simp [aZ,dm cs 0 vs]
 |c::cs,n+1,v::vs=>by simp [aZ,dm cs n (v::vs)]
end
end Dem
end
section
open Go
namespace Dem
section
variable {P:Program} {T:Nat→Option TI} {G:Nat→Option (List D)} {β:Nat→Nat} {bx:List az} {w:World} {X:Nat→Prop}
theorem aM {b i:Nat} {B B':az} (h:(bx.set b B')[i]?=some B):(i=b∧B=B'∧b<bx.length)∨(i≠b∧bx[i]?=some B):=by
 rw [List.getElem?_set] at h
 split at h
 ·rename_i xK;subst xK
  split at h
  ·simp at h;exact .inl ⟨rfl,h.symm,by assumption⟩
  simp at h
 rename_i xK;exact .inr ⟨fun e=>xK e.symm,h⟩
theorem jw {i:Nat} {B:az} (h:bx[i]?=some B):i<bx.length:=by
 rcases Nat.lt_or_ge i bx.length with h'|h'
 ·exact h'
 simp [List.getElem?_eq_none h'] at h
theorem jz {b:Nat} {B B':az} (h:bx[b]?=some B):(bx.set b B')[b]?=some B':=by
 have:=jw h
 simp [this]
theorem iH {b i:Nat} {B':az} (hB:B'.born=true) (h:bT bx i):bT (bx.set b B') i:=by
 obtain ⟨B,h1,h2⟩:=h
 by_cases hi:i=b
 ·subst hi;exact ⟨B',jz h1,hB⟩
 exact ⟨B,by rw [List.getElem?_set_ne (Ne.symm hi)];exact h1,h2⟩
theorem l6 {b:Nat} {B B':az} (hb:bx[b]?=some B) (hl:B.live=true) {c c':Array Value} {e:TypeId} (hh:w.heap[β b]?=some (.cells c e (0,0))) (hc:c'.size=c.size) (RW:B'.born=true):
 Ext β bx w β (bx.set b B') (dX w (β b) (.cells c' e (0,0))):=by
 refine ⟨rfl,rfl,rfl,by simp [dX],?_,?_,fun i hi=>⟨rfl,iH RW hi⟩,?_⟩
 ·intro k hk hl'
  exact iN (fun e=>hl' b B hb hl e.symm)
 ·intro k c1 e1 f1 hk
  by_cases h:k=β b
  ·subst h
   rw [hh] at hk
   simp only [osI,Obj.cells.injEq] at hk
   obtain ⟨rfl,rfl,rfl⟩:=hk
   exact ⟨c',dQ hh,hc⟩
  exact ⟨c1,by rw [iN h];exact hk,rfl⟩
 intro i b' h1 h2
 rcases aM h1 with ⟨rfl,_,_⟩|⟨_,h3⟩
 ·exact .inr ⟨i,B,hb,hl,rfl⟩
 exact .inr ⟨i,b',h3,h2,rfl⟩
theorem tg (cx:cJ G β bx w X) {b:Nat} {B B':az} (hb:bx[b]?=some B) (hl:B.live=true) {c c':Array Value} {e:TypeId} (hh:w.heap[β b]?=some (.cells c e (0,0))) (hc:c'.size=c.size) (RW:B'.born=true)
 (hok:dj β (bx.set b B') (dX w (β b) (.cells c' e (0,0))) (bg β (bx.set b B') (dX w (β b) (.cells c' e (0,0))) X) B' (β b)):
 cJ G β (bx.set b B') (dX w (β b) (.cells c' e (0,0))) X:=by
 refine cx.step (l6 hb hl hh hc RW) ?_ ?_
 ·intro i b' h1
  rcases aM h1 with ⟨rfl,rfl,_⟩|⟨h2,h3⟩
  ·exact .inr hok
  refine .inl ⟨h3,fun hl'=>iN (fun e=>h2 (cx.inj i b b' B h3 hb hl' hl e))⟩
 intro i j bi bj h1 h2 l1 l2 he
 rcases aM h1 with ⟨rfl,rfl,_⟩|⟨h3,h4⟩<;>rcases aM h2 with ⟨rfl,rfl,_⟩|⟨h5,h6⟩
 ·rfl
 ·exact cx.inj _ j B bj hb h6 hl l2 he
 ·exact cx.inj i _ bi B h4 hb l1 hl he
 exact cx.inj i j bi bj h4 h6 l1 l2 he
theorem iI {b:Nat} {B B':az} (_hb:bx[b]?=some B) (RW:B'.live=false) (dL:B'.born=true):Ext β bx w β (bx.set b B') w:=by
 refine ⟨rfl,rfl,rfl,Nat.le_refl _,fun _ _ _=>rfl,fun k c e f h=>⟨c,h,rfl⟩,fun i hi=>⟨rfl,iH dL hi⟩,?_⟩
 intro i b' h1 h2
 rcases aM h1 with ⟨rfl,rfl,_⟩|⟨_,h3⟩
 ·rw [RW] at h2;simp at h2
 exact .inr ⟨i,b',h3,h2,rfl⟩
theorem jZ (cx:cJ G β bx w X) {b:Nat} {B B':az} (hb:bx[b]?=some B) (RW:B'.live=false) (dL:B'.born=true)
 (hok:dj β (bx.set b B') w (bg β (bx.set b B') w X) B' (β b)):cJ G β (bx.set b B') w X:=by
 refine cx.step (iI hb RW dL) ?_ ?_
 ·intro i b' h1
  rcases aM h1 with ⟨rfl,rfl,_⟩|⟨h2,h3⟩
  ·exact .inr hok
  exact .inl ⟨h3,fun _=>rfl⟩
 intro i j bi bj h1 h2 l1 l2 he
 rcases aM h1 with ⟨rfl,rfl,_⟩|⟨h3,h4⟩
 ·rw [RW] at l1;simp at l1
 rcases aM h2 with ⟨rfl,rfl,_⟩|⟨h5,h6⟩
 ·rw [RW] at l2;simp at l2
 exact cx.inj i j bi bj h4 h6 l1 l2 he
theorem K5 (cx:cJ G β bx w X) {b:Nat} {sz:Nat} {es:List (List D)} (hb:bx[b]?=some (.row sz es)):
 Ext β bx w β (bx.set b (.kC sz es)) w∧cJ G β (bx.set b (.kC sz es)) w X∧(es=[]∨bg β (bx.set b (.kC sz es)) w X (β b)∧ay w (bg β (bx.set b (.kC sz es)) w X) (β b) sz es 0):=by
 have ex:Ext β bx w β (bx.set b (.kC sz es)) w:=iI hb rfl rfl
 have key:es=[]∨bg β (bx.set b (.kC sz es)) w X (β b)∧ay w (bg β (bx.set b (.kC sz es)) w X) (β b) sz es 0:=by
  rcases cx.box b _ hb with h|⟨c,e,h1,h2⟩
  ·exact .inl h
  cases es with
  |nil=>exact .inl rfl
  |cons r rs=>
   refine .inr ⟨⟨ff h1,cx.apart b _ hb rfl,?_⟩,ay.mono (ex.keeps X) _ _ (fun _=>rfl) _ _ h2⟩
   intro i b' h3 h4 he
   rcases aM h3 with ⟨rfl,rfl,_⟩|⟨h5,h6⟩
   ·simp [az.live] at h4
   exact h5 (cx.inj i b b' _ h6 hb h4 rfl he)
 exact ⟨ex,jZ cx hb rfl rfl key,key⟩
theorem ay.lens {ok:Nat→Prop} {blk sz:Nat}:∀(es:List (List D)) (off:Nat),ay w ok blk sz es off→∀r∈es,r.length=sz
 |[],_,_=>by simp
 |r::rs,off,h=>by
  simp only [ay] at h
  intro x hx
  rcases List.mem_cons.1 hx with rfl|hx
  ·exact h.1
  exact ay.lens rs _ h.2.2 x hx
theorem j7 {ok:Nat→Prop} {blk sz:Nat}:∀(es:List (List D)) (off:Nat),ay w ok blk sz es off→∃vs,vs.length=es.length*sz∧(∀j v,vs[j]?=some v→w.cell? ⟨blk,off+j,none⟩=some v)∧
 ak β bx w ok (es.flatten.map .d) vs
 |[],off,_=>⟨[],by simp,by simp,by simp [ak]⟩
 |r::rs,off,h=>by
  simp only [ay] at h
  obtain ⟨h1,h2,h3⟩:=h
  obtain ⟨vs,g1,g2,g3⟩:=rH (β:=β) (bx:=bx) r off h2
  obtain ⟨us,k1,k2,k3⟩:=j7 rs (off+sz) h3
  refine ⟨vs++us,by simp [g1,k1,h1,Nat.add_mul];omega,?_,by simpa using ak.append g3 k3⟩
  intro j v hj
  rcases Nat.lt_or_ge j vs.length with hlt|hge
  ·rw [List.getElem?_append_left hlt] at hj;exact g2 j v hj
  rw [List.getElem?_append_right hge] at hj
  have:=k2 _ v hj
  rwa [show off+sz+(j-vs.length)=off+j by omega] at this
theorem DR {ok:Nat→Prop} {blk:Nat}:∀(ds:List D) (off:Nat) (vs:List Value),(∀j v,vs[j]?=some v→w.cell? ⟨blk,off+j,none⟩=some v)→ak β bx w ok (ds.map .d) vs→aX w ok blk ds off
 |[],_,_,_,_=>by simp [aX]
 |x::xs,off,vs,hc,h=>by
  simp only [List.map_cons,ak,aj] at h
  obtain ⟨u,us,rfl,g1,g2⟩:=h
  simp only [aX]
  refine ⟨⟨u,by simpa using hc 0 u rfl,g1⟩,DR xs (off+1) us (fun j v hj=>?_) g2⟩
  have:=hc (j+1) v (by simpa using hj)
  rwa [show off+(j+1)=off+1+j by omega] at this
theorem mY {ok:Nat→Prop} {blk sz:Nat}:∀(es:List (List D)) (off:Nat) (vs:List Value),(∀r∈es,r.length=sz)→(∀j v,vs[j]?=some v→w.cell? ⟨blk,off+j,none⟩=some v)→
 ak β bx w ok (es.flatten.map .d) vs→ay w ok blk sz es off
 |[],_,_,_,_,_=>by simp [ay]
 |r::rs,off,vs,hl,hc,h=>by
  simp only [List.flatten_cons,List.map_append] at h
  have h1:=ak.take r.length h
  have h2:=ak.drop r.length h
  rw [List.take_left' (by simp)] at h1
  rw [List.drop_left' (by simp)] at h2
  have hr:r.length=sz:=hl r (by simp)
  simp only [ay]
  refine ⟨hr,DR r off _ (fun j v hj=>?_) h1,mY rs (off+sz) _ (fun x hx=>hl x (by simp [hx])) (fun j v hj=>?_) h2⟩
  ·rw [List.getElem?_take] at hj
   split at hj
   ·exact hc j v hj
   simp at hj
  rw [List.getElem?_drop] at hj
  have:=hc _ v hj
  rwa [show off+(r.length+j)=off+sz+j by omega] at this
theorem zL {ok:Nat→Prop} {x:AV} {es:List (List D)} {u:Value} (hx:∀b sz n,x≠.ow b sz n) (Oh:x.uu=false) (hr:x.rows bx=some es) (h:aj β bx w ok x u):
 ∃base cap,u=.slice base es.length cap∧es.length≤cap∧(es=[]∨∃blk off sz,base=some ⟨blk,off,none⟩∧ok blk∧ay w ok blk sz es off):=by
 cases x with
 |d y=>
  cases y with
  |sl es'=>simp only [AV.rows,osI] at hr;subst hr;simpa [aj,aL] using h
  |_=>simp [AV.rows] at hr
 |cl es'=>
  simp only [AV.rows,osI] at hr;subst hr
  simp only [aj] at h
  obtain ⟨base,rfl,g⟩:=h
  exact ⟨base,_,rfl,Nat.le_refl _,g⟩
 |ow b sz n=>exact absurd rfl (hx b sz n)
 |vw b sz off n c ex=>simp [AV.uu] at Oh
 |_=>simp [AV.rows] at hr
theorem ay.Oy {ok:Nat→Prop} {blk sz:Nat}:∀(n:Nat) (es:List (List D)) (off:Nat),ay w ok blk sz es off→ay w ok blk sz (es.drop n) (off+n*sz)
 |0,es,off,h=>by simpa using h
 |n+1,[],off,h=>by simp [ay]
 |n+1,r::rs,off,h=>by
  simp only [ay] at h
  have:=ay.Oy n rs (off+sz) h.2.2
  simpa [Nat.add_mul,show off+sz+n*sz=off+(n*sz+sz) by omega] using this
theorem ay.Fx {ok:Nat→Prop} {blk sz:Nat}:∀(n:Nat) (es:List (List D)) (off:Nat),ay w ok blk sz es off→ay w ok blk sz (es.take n) off
 |0,es,off,h=>by simp [ay]
 |n+1,[],off,h=>by simp [ay]
 |n+1,r::rs,off,h=>by
  simp only [ay] at h
  simp only [List.take_succ_cons,ay]
  exact ⟨h.1,h.2.1,ay.Fx n rs _ h.2.2⟩
theorem Cu {s sz n m:Nat} {α:Type} {x y:α} (h:(bif Nat.beq s sz&&Nat.ble n m then some x else none)=some y):s=sz∧n≤m∧x=y:=by
 cases h1:Nat.beq s sz<;>cases h2:Nat.ble n m<;>simp [h1,h2] at h
 exact ⟨Nat.eq_of_beq_eq_true h1,Nat.le_of_ble_eq_true h2,h⟩
theorem oC {b sz off n c:Nat} {ex:Bool} {K6:List (List D)} {IF:Nat→Prop} {u:Value} {ok:Nat→Prop} (hn:off+n≤K6.length) (hrows:K6=[]∨ay w IF (β b) sz K6 0) (h:aj β bx w ok (.vw b sz off n c ex) u):
 ∃base cap,u=.slice base ((K6.drop off).take n).length cap∧((K6.drop off).take n).length≤cap∧((K6.drop off).take n=[]∨base=some ⟨β b,off*sz,none⟩∧ay w IF (β b) sz ((K6.drop off).take n) (off*sz)):=by
 simp only [aj] at h
 obtain ⟨_,base,cap,cs,e,f,rfl,h1,h2,h3,h4⟩:=h
 have hlen:((K6.drop off).take n).length=n:=by simp;omega
 refine ⟨base,cap,by rw [hlen],by rw [hlen];exact h1,?_⟩
 by_cases hn0:n=0
 ·subst hn0;exact .inl (by simp)
 right
 rcases h4 with h4|⟨h4,_⟩
 ·omega
 refine ⟨h4,?_⟩
 rcases hrows with rfl|hrows
 ·simp at hn;omega
 have:=ay.Fx n _ _ (ay.Oy off _ _ hrows)
 simpa using this
theorem Mr {s sz n m:Nat} {α:Type} {x y:α} (h:(bif Nat.beq s sz&&Nat.beq n m then some x else none)=some y):s=sz∧n=m∧x=y:=by
 cases h1:Nat.beq s sz<;>cases h2:Nat.beq n m<;>simp [h1,h2] at h
 exact ⟨Nat.eq_of_beq_eq_true h1,Nat.eq_of_beq_eq_true h2,h⟩
theorem uB (cx:cJ G β bx w X) {b sz n:Nat} {es:List (List D)} {u:Value} (hr:(AV.ow b sz n).rows bx=some es) (h:aj β bx w (bg β bx w X) (.ow b sz n) u):
 n=es.length∧(∃base cap,u=.slice base es.length cap∧es.length≤cap∧(es=[]∧cap=0∨es≠[]∧base=some ⟨β b,0,none⟩∧ay w (bg β bx w X) (β b) sz es 0∧
  ∃c e f,w.heap[β b]?=some (.cells c e f)∧cap*sz≤c.size)):=by
 have main:∀es',n=es'.length→(es'=[]∨ay w (bg β bx w X) (β b) sz es' 0)→∃base cap,u=.slice base es'.length cap∧es'.length≤cap∧(es'=[]∧cap=0∨es'≠[]∧base=some ⟨β b,0,none⟩∧ay w (bg β bx w X) (β b) sz es' 0∧
  ∃c e f,w.heap[β b]?=some (.cells c e f)∧cap*sz≤c.size):=by
  intro es' hn hrows
  simp only [aj] at h
  obtain ⟨_,⟨h0,base,rfl⟩|⟨h0,cap,c,e,f,rfl,h1,h2,h3⟩⟩:=h
  ·have:es'=[]:=by simpa using (hn.symm.trans h0)
   subst this
   exact ⟨base,0,by simp,by simp,.inl ⟨rfl,rfl⟩⟩
  rcases hrows with rfl|hrows
  ·exact absurd (by simpa using hn) h0
  exact ⟨_,cap,by rw [hn],by omega,.inr ⟨by rintro rfl;exact h0 (by simpa using hn),rfl,hrows,c,e,f,h2,h3⟩⟩
 simp only [AV.rows] at hr
 split at hr
 ·rename_i s es' hb
  obtain ⟨rfl,rfl,rfl⟩:=Mr hr
  exact ⟨rfl,main _ rfl ((cx.box b _ hb).imp id fun ⟨_,_,_,g⟩=>g)⟩
 ·rename_i s es' hb
  obtain ⟨rfl,rfl,rfl⟩:=Mr hr
  exact ⟨rfl,main _ rfl ((cx.box b _ hb).imp id fun ⟨_,g⟩=>g)⟩
 simp at hr
theorem UY {b sz n:Nat} {y:D} (h:(AV.ow b sz n).rq bx=some y):∃es,y=.sl es∧(AV.ow b sz n).rows bx=some es:=by
 simp only [AV.rq] at h
 simp only [AV.rows]
 split at h
 ·rename_i s es hb
  obtain ⟨rfl,rfl,rfl⟩:=Mr h
  exact ⟨es,rfl,by simp [hb]⟩
 ·rename_i s es hb
  obtain ⟨rfl,rfl,rfl⟩:=Mr h
  exact ⟨es,rfl,by simp [hb]⟩
 simp at h
theorem j8 (cx:cJ G β bx w X) {x:AV} {es:List (List D)} {u:Value} (hr:x.rows bx=some es) (h:aj β bx w (bg β bx w X) x u):
 Ext β bx w β (x.cw bx) w∧cJ G β (x.cw bx) w X∧
 ∃base cap,u=.slice base es.length cap∧es.length≤cap∧(es=[]∨∃blk off sz,base=some ⟨blk,off,none⟩∧bg β (x.cw bx) w X blk∧ay w (bg β (x.cw bx) w X) blk sz es off):=by
 by_cases hx:∃b sz n,x=.ow b sz n
 ·obtain ⟨b,sz,n,rfl⟩:=hx
  obtain ⟨hn,base,cap,rfl,h1,h2⟩:=uB cx hr h
  simp only [AV.rows] at hr
  split at hr
  ·rename_i s es' hb
   obtain ⟨rfl,_,rfl⟩:=Mr hr
   obtain ⟨g1,g2,g3⟩:=K5 cx hb
   have pW:(AV.ow b s n).cw bx=bx.set b (.kC s es'):=by simp [AV.cw,hb]
   rw [pW]
   refine ⟨g1,g2,base,cap,rfl,h1,?_⟩
   rcases h2 with ⟨rfl,_⟩|⟨hne,rfl,_⟩
   ·exact .inl rfl
   rcases g3 with rfl|⟨g3,g4⟩
   ·exact .inl rfl
   exact .inr ⟨β b,0,s,rfl,g3,g4⟩
  ·rename_i s es' hb
   obtain ⟨rfl,_,rfl⟩:=Mr hr
   have pW:(AV.ow b s n).cw bx=bx:=by simp [AV.cw,hb]
   rw [pW]
   refine ⟨Ext.refl _ _ _,cx,base,cap,rfl,h1,?_⟩
   rcases h2 with ⟨rfl,_⟩|⟨hne,rfl,g,_⟩
   ·exact .inl rfl
   rcases cx.box b _ hb with rfl|⟨g3,g4⟩
   ·exact .inl rfl
   exact .inr ⟨β b,0,s,rfl,g3,g4⟩
  simp at hr
 have hx':∀b sz n,x≠.ow b sz n:=fun b sz n e=>hx ⟨b,sz,n,e⟩
 cases hv:x.uu with
 |true=>
  cases x with
  |vw b sz off n c ex=>
   simp only [AV.rows] at hr
   split at hr
   ·rename_i s es' hb
    obtain ⟨rfl,hle,rfl⟩:=Cu hr
    obtain ⟨g1,g2,g3⟩:=K5 cx hb
    have pW:(AV.vw b s off n c ex).cw bx=bx.set b (.kC s es'):=by simp [AV.cw,hb]
    rw [pW]
    refine ⟨g1,g2,?_⟩
    obtain ⟨base,cap,rfl,k1,k2⟩:=oC (IF:=bg β (bx.set b (.kC s es')) w X) hle (g3.imp id fun g=>g.2) h
    refine ⟨base,cap,rfl,k1,?_⟩
    rcases g3 with rfl|⟨g3,_⟩
    ·left;simp
    rcases k2 with k2|⟨rfl,k3⟩
    ·exact .inl k2
    exact .inr ⟨β b,off*s,s,rfl,g3,k3⟩
   ·rename_i s es' hb
    obtain ⟨rfl,hle,rfl⟩:=Cu hr
    have pW:(AV.vw b s off n c ex).cw bx=bx:=by simp [AV.cw,hb]
    rw [pW]
    refine ⟨Ext.refl _ _ _,cx,?_⟩
    have g3:=cx.box b _ hb
    obtain ⟨base,cap,rfl,k1,k2⟩:=oC (IF:=bg β bx w X) hle (g3.imp id fun g=>g.2) h
    refine ⟨base,cap,rfl,k1,?_⟩
    rcases g3 with rfl|⟨g3,_⟩
    ·left;simp
    rcases k2 with k2|⟨rfl,k3⟩
    ·exact .inl k2
    exact .inr ⟨β b,off*s,s,rfl,g3,k3⟩
   simp at hr
  |_=>simp [AV.uu] at hv
 |false=>
 have pW:x.cw bx=bx:=by cases x<;>simp_all [AV.cw,AV.uu]
 rw [pW]
 exact ⟨Ext.refl _ _ _,cx,zL hx' hv hr h⟩
theorem zM (cx:cJ G β bx w X) {x:AV} {y:D} {u:Value} (hd:x.rq bx=some y) (h:aj β bx w (bg β bx w X) x u):
 Ext β bx w β (x.cw bx) w∧cJ G β (x.cw bx) w X∧aL w (bg β (x.cw bx) w X) y u:=by
 cases x with
 |d x=>simp only [AV.rq,osI] at hd;subst hd;exact ⟨Ext.refl _ _ _,cx,h⟩
 |cl es=>
  simp only [AV.rq,osI] at hd;subst hd
  obtain ⟨g1,g2,g3⟩:=j8 cx (x:=.cl es) (es:=es) rfl h
  exact ⟨g1,g2,by simpa [aL] using g3⟩
 |ow b sz n=>
  obtain ⟨es,rfl,hr⟩:=UY hd
  obtain ⟨g1,g2,g3⟩:=j8 cx hr h
  exact ⟨g1,g2,by simpa [aL] using g3⟩
 |fn f cs=>
  cases cs with
  |nil=>
   simp only [AV.rq,osI] at hd;subst hd
   simp only [aj,ak] at h
   obtain ⟨vs,rfl,rfl⟩:=h
   exact ⟨Ext.refl _ _ _,cx,by simp [zI,aL]⟩
  |cons c cs=>simp [AV.rq] at hd
 |_=>simp [AV.rq] at hd
theorem uC {z:AV} {i s:Nat} {es:List (List D)} (h:bx[i]?=some (.row s es)∨bx[i]?=some (.kC s es)):(z.cw bx)[i]?=some (.row s es)∨(z.cw bx)[i]?=some (.kC s es):=by
 cases z with
 |ow b sz n=>
  simp only [AV.cw]
  split
  ·rename_i s' es' hb
   by_cases hi:i=b
   ·subst hi
    rw [hb] at h
    simp at h
    obtain ⟨rfl,rfl⟩:=h
    exact .inr (jz hb)
   rw [List.getElem?_set_ne (Ne.symm hi)];exact h
  exact h
 |vw b sz off n c ex=>
  simp only [AV.cw]
  split
  ·rename_i s' es' hb
   by_cases hi:i=b
   ·subst hi
    rw [hb] at h
    simp at h
    obtain ⟨rfl,rfl⟩:=h
    exact .inr (jz hb)
   rw [List.getElem?_set_ne (Ne.symm hi)];exact h
  exact h
 |_=>exact h
theorem Cv {x z:AV} {y:D} (h:x.rq bx=some y):x.rq (z.cw bx)=some y:=by
 cases x with
 |ow b sz n=>
  simp only [AV.rq] at h ⊢
  split at h
  ·rename_i s es hb
   rcases uC (z:=z) (.inl hb) with g|g<;>simp [g,h]
  ·rename_i s es hb
   rcases uC (z:=z) (.inr hb) with g|g<;>simp [g,h]
  simp at h
 |fn f cs=>cases cs with
  |nil=>exact h
  |cons c cs=>exact h
 |_=>exact h
theorem tj {z:AV}:∀{xs:List AV} {ys:List D},iV bx xs=some ys→iV (z.cw bx) xs=some ys
 |[],ys,h=>h
 |x::xs,ys,h=>by
  simp only [iV] at h ⊢
  split at h
  ·rename_i y ys' hy hys
   rw [Cv hy,tj hys];exact h
  simp at h
theorem wu:∀(xs:List AV) (bx:List az) (ys:List D) (vs:List Value),cJ G β bx w X→iV bx xs=some ys→ak β bx w (bg β bx w X) xs vs→
 Ext β bx w β (eC bx xs) w∧cJ G β (eC bx xs) w X∧ak β (eC bx xs) w (bg β (eC bx xs) w X) (ys.map .d) vs
 |[],bx,ys,vs,cx,hd,h=>by simp [iV] at hd;subst hd;exact ⟨Ext.refl _ _ _,cx,by simpa [eC] using h⟩
 |x::xs,bx,ys,vs,cx,hd,h=>by
  simp only [iV] at hd
  split at hd
  ·rename_i y ys' hy hys
   simp at hd;subst hd
   simp only [ak] at h
   obtain ⟨u,us,rfl,g1,g2⟩:=h
   obtain ⟨e1,c1,r1⟩:=zM cx hy g1
   obtain ⟨e2,c2,r2⟩:=wu xs (x.cw bx) ys' us c1 (tj hys) (ak.mono (e1.eY X) _ _ g2)
   refine ⟨e1.trans e2,c2,?_⟩
   simp only [eC,List.map_cons,ak,aj]
   exact ⟨u,us,rfl,aL.mono (e2.keeps X) _ _ r1,r2⟩
  simp at hd
theorem l7:∀(l m:List Value) (n:Nat) (vs:List Value),n+vs.length≤l.length→aZ (l++m) n vs=aZ l n vs++m
 |l,m,n,[],_=>by cases l<;>cases m<;>simp [aZ]
 |[],m,n,v::vs,h=>by simp at h
 |c::cs,m,0,v::vs,h=>by
  simp only [List.length_cons] at h
  simp only [List.cons_append,aZ]
  rw [l7 cs m 0 vs (by omega)]
 |c::cs,m,n+1,v::vs,h=>by
  simp only [List.length_cons] at h
  simp only [List.cons_append,aZ]
  rw [l7 cs m n (v::vs) (by simp;omega)]
theorem l8:∀(l:List D) (n:Nat) (vs:List D),(be l n vs).length=l.length
 |l,n,[]=>by cases l<;>simp [be]
 |[],n,v::vs=>by simp [be]
 |c::cs,0,v::vs=>by simp [be,l8 cs 0 vs]
 |c::cs,n+1,v::vs=>by simp [be,l8 cs n (v::vs)]
theorem pX:∀(l:List D) (n:Nat) (vs:List D),(be l n vs).map AV.d=eM (l.map .d) n (vs.map .d)
 |l,n,[]=>by cases l<;>simp [be,eM]
 |[],n,v::vs=>by simp [be,eM]
 |c::cs,0,v::vs=>by simp [be,eM,pX cs 0 vs]
 |c::cs,n+1,v::vs=>by simp [be,eM];rw [pX cs n (v::vs)];simp
theorem uD:∀(l m:List D) (n:Nat) (vs:List D),be (l++m) (l.length+n) vs=l++be m n vs
 |[],m,n,vs=>by simp
 |c::cs,m,n,vs=>by
  cases vs with
  |nil=>cases m<;>simp [be]
  |cons v vs=>
   rw [show (c::cs).length+n=(cs.length+n)+1 by simp;omega]
   simp only [List.cons_append,be]
   rw [uD cs m n (v::vs)]
theorem nC:∀(l m:List D) (n:Nat) (vs:List D),n+vs.length≤l.length→be (l++m) n vs=be l n vs++m
 |l,m,n,[],_=>by cases l<;>cases m<;>simp [be]
 |[],m,n,v::vs,h=>by simp at h
 |c::cs,m,0,v::vs,h=>by
  simp only [List.length_cons] at h
  simp only [List.cons_append,be]
  rw [nC cs m 0 vs (by omega)]
 |c::cs,m,n+1,v::vs,h=>by
  simp only [List.length_cons] at h
  simp only [List.cons_append,be]
  rw [nC cs m n (v::vs) (by simp;omega)]
theorem pY {sz:Nat}:∀(es:List (List D)) (i j:Nat) (ds:List D),(∀r∈es,r.length=sz)→i<es.length→j+ds.length≤(es.getD i []).length→
 (es.set i (be (es.getD i []) j ds)).flatten=be es.flatten (i*sz+j) ds
 |[],i,j,ds,_,h,_=>by simp at h
 |r::rs,0,j,ds,hl,_,hj=>by
  simp at hj
  simp only [List.set_cons_zero,List.flatten_cons,Nat.zero_mul,Nat.zero_add]
  rw [nC r _ j ds hj]
  simp
 |r::rs,i+1,j,ds,hl,hi,hj=>by
  have hr:r.length=sz:=hl r (by simp)
  simp at hi hj
  have:=pY rs i j ds (fun x hx=>hl x (by simp [hx])) hi (by simpa using hj)
  simp only [List.set_cons_succ,List.flatten_cons,List.getD_cons_succ]
  rw [this,show (i+1)*sz+j=r.length+(i*sz+j) by rw [hr,Nat.add_mul];omega,uD]
theorem Oz {ok:Nat→Prop} {x:AV} {y:D} {u:Value} (h:x.rq []=some y) (hx:aj β bx w ok x u):aL w ok y u:=by
 cases x with
 |d x=>simp only [AV.rq,osI] at h;subst h;simpa [aj] using hx
 |cl es=>
  simp only [AV.rq,osI] at h;subst h
  simp only [aj] at hx
  obtain ⟨base,rfl,g⟩:=hx
  simp only [aL];exact ⟨base,_,rfl,Nat.le_refl _,g⟩
 |ow b sz n=>simp [AV.rq] at h
 |fn f cs=>
  cases cs with
  |nil=>
   simp only [AV.rq,osI] at h;subst h
   simp only [aj,ak] at hx
   obtain ⟨vs,rfl,rfl⟩:=hx
   simp [aL,zI]
  |cons c cs=>simp [AV.rq] at h
 |_=>simp [AV.rq] at h
theorem rJ {ok:Nat→Prop}:∀{xs:List AV} {ys:List D} {us:List Value},iV [] xs=some ys→ak β bx w ok xs us→ak β bx w ok (ys.map .d) us
 |[],ys,us,h,hx=>by simp [iV] at h;subst h;simpa using hx
 |x::xs,ys,us,h,hx=>by
  simp only [iV] at h
  split at h
  ·rename_i y ys' h1 h2
   simp only [osI] at h;subst h
   simp only [ak] at hx
   obtain ⟨u,Ox,rfl,g1,g2⟩:=hx
   simp only [List.map_cons,ak,aj]
   exact ⟨u,Ox,rfl,Oz h1 g1,rJ h2 g2⟩
  simp at h
end
end Dem
end
section
open Go
namespace Dem
section
variable {P:Program} {T:Nat→Option TI} {G:Nat→Option (List D)} {β:Nat→Nat} {bx:List az} {w:World} {X:Nat→Prop}
theorem oD {w:World} {blk:Nat} {c:Array Value} {e:TypeId} {f:Nat×Nat} (h:w.heap[blk]?=some (.cells c e f)) {vs:List Value} (hc:∀j v,vs[j]?=some v→w.cell? ⟨blk,0+j,none⟩=some v):
 ∃rest,c.toList=vs++rest:=by
 refine ⟨c.toList.drop vs.length,?_⟩
 have:vs=c.toList.take vs.length:=by
  apply List.ext_getElem?
  intro j
  rw [List.getElem?_take]
  split
  ·rename_i hj
   have h1:=hc j vs[j] (by simp [hj])
   simp only [World.cell?,h] at h1
   simp only [hj,List.getElem?_eq_getElem]
   simpa using h1.symm
  rename_i hj;simp;omega
 conv=>lhs;rw [←List.take_append_drop vs.length c.toList]
 rw [←this]
theorem OA {es:List (List D)} {i:Nat} (h:i<es.length):es.getD i []∈es:=by
 simp [List.getD_eq_getElem?_getD,h]
theorem Fy (hT:kr P T) (cx:cJ G β bx w X) {t:Nat} {ti:TI} (ht:T t=some ti) {a x:AV} {ua ux:Value} (ha:aj β bx w (bg β bx w X) a ua) (hx:aj β bx w (bg β bx w X) x ux)
 {c:Prop} {v:AV} {b:Option (List az)} (hr:sY ti a x bx=some ⟨c,v,b⟩) (hc:c):
 v=.any∧∃aR w',b=some aR∧(Instr.storeAt t ua ux).run P w=.ok () w'∧Ext β bx w β aR w'∧cJ G β aR w' X:=by
 have ht':=hT.ti t ti ht
 unfold sY at hr
 split at hr
 ·simp at hr
 rename_i vs hvs
 cases hn:Nat.beq vs.length ti.size with
 |false=>simp [hn] at hr
 |true=>
 have hn':=Nat.eq_of_beq_eq_true hn
 simp only [hn,cond_true] at hr
 obtain ⟨us,hcells,RX,hsc⟩:=nO hvs hx
 have hul:=ak.length RX
 split at hr
 ·rename_i b' off
  simp only [aj] at ha
  obtain ⟨rfl,hb⟩:=ha
  split at hr
  ·rename_i cs rI
   cases hle:Nat.ble (off+vs.length) cs.length with
   |false=>simp [hle] at hr
   |true=>
   have hle':=Nat.le_of_ble_eq_true hle
   simp only [hle,cond_true,osI,R.mk.injEq] at hr
   obtain ⟨_,rfl,rfl⟩:=hr
   obtain ⟨ca,e,h1,h2⟩:=cx.box _ _ rI
   have RY:=ak.length h2
   have hrun:=uA (P:=P) ht' h1 hcells hsc (by omega) (off:=off) (by simp at RY;omega)
   refine ⟨rfl,_,_,rfl,by simpa [Instr.storeAt,Instr.sureAddr] using hrun,?_,?_⟩
   ·exact l6 rI rfl h1 (by simp [dm]) rfl
   have ex:=l6 (B':=.var (eM cs off vs)) (c':=⟨aZ ca.toList off us⟩) rI rfl h1 (by simp [dm]) rfl
   refine tg cx rI rfl h1 (by simp [dm]) rfl ⟨_,e,dQ h1,?_⟩
   exact ak.mono (ex.eY X) _ _ (ak.eM off h2 RX)
  simp at hr
 ·rename_i b' sz i j
  simp only [aj] at ha
  obtain ⟨rfl,hb⟩:=ha
  split at hr
  ·rename_i ds hds
   split at hr
   ·rename_i s es rI
    simp only [osI,R.mk.injEq] at hr
    obtain ⟨rfl,rfl,rfl⟩:=hr
    obtain ⟨rfl,hi,hj⟩:=hc
    obtain ⟨e1,c1,r1⟩:=wu vs bx ds us cx hds RX
    rcases c1.box _ _ rI with rfl|⟨ca,e,h1,h2⟩
    ·simp at hi
    have xL:=ay.lens _ _ h2
    obtain ⟨DS,g1,g2,g3⟩:=j7 (β:=β) (bx:=eC bx vs) es 0 h2
    obtain ⟨rest,py⟩:=oD h1 g2
    have UZ:us.length=ds.length:=by simpa using ak.length r1
    have hrow:(es.getD i []).length=s:=xL _ (OA hi)
    have hle:i*s+j+us.length≤DS.length:=by
     rw [g1,UZ]
     have:(i+1)*s≤es.length*s:=Nat.mul_le_mul_right _ hi
     rw [Nat.add_mul] at this;omega
    have hsize:ca.size=DS.length+rest.length:=by
     have:=congrArg List.length py;simpa using this
    have cz:(az.row s es).live=true:=by cases es<;>simp_all [az.live]
    have hrun:=uA (P:=P) ht' h1 hcells hsc (by omega) (off:=i*s+j) (by omega)
    have hne:es.set i (be (es.getD i []) j ds)≠[]:=by cases es<;>simp_all
    have ex:=l6 (B':=.row s (es.set i (be (es.getD i []) j ds))) (c':=⟨aZ ca.toList (i*s+j) us⟩) rI cz h1 (by simp [dm]) rfl
    refine ⟨rfl,_,_,rfl,by simpa [Instr.storeAt,Instr.sureAddr] using hrun,e1.trans ex,?_⟩
    refine tg c1 rI cz h1 (by simp [dm]) rfl (.inr ⟨_,e,dQ h1,?_⟩)
    refine mY (β:=β) (bx:=(eC bx vs).set b' (.row s (es.set i (be (es.getD i []) j ds)))) _ _ (aZ DS (i*s+j) us) ?_ ?_ ?_
    ·intro r hr
     rcases List.mem_or_eq_of_mem_set hr with hr|rfl
     ·exact xL r hr
     rw [l8];exact hrow
    ·intro k u hk
     simp only [World.cell?,dQ h1]
     have:(aZ ca.toList (i*s+j) us)[k]?=some u:=by
      rw [py,l7 _ _ _ _ hle,List.getElem?_append_left]
      ·exact hk
      rcases Nat.lt_or_ge k (aZ DS (i*s+j) us).length with h|h
      ·exact h
      simp [List.getElem?_eq_none h] at hk
     simpa using this
    rw [pY es i j ds xL hi hj,pX]
    exact ak.mono (ex.eY X) _ _ (ak.eM _ g3 r1)
   simp at hr
  simp at hr
 simp at hr
end
end Dem
end
section
open Go
namespace Dem
section
variable {P:Program} {T:Nat→Option TI} {G:Nat→Option (List D)} {β:Nat→Nat} {bx:List az} {w:World} {X:Nat→Prop}
theorem zN {ok:Nat→Prop} (v:Value):aj β bx w ok (IA v) v:=by
 unfold IA
 split<;>simp only [aj,aL,KC.val]
 exact ⟨none,rfl,.inl trv⟩
theorem Cw {ok:Nat→Prop}:∀vs:List Value,ak β bx w ok (vs.map IA) vs
 |[]=>by simp [ak]
 |v::vs=>by simp only [List.map_cons,ak];exact ⟨v,vs,rfl,zN v,Cw vs⟩
theorem uE {ok:Nat→Prop} (v:Value):aj β bx w ok (RQ v) v:=by
 unfold RQ
 split
 ·rename_i cs
  simp only [aj]
  exact ⟨cs.toList,rfl,Cw _⟩
 exact zN v
theorem xM (cx:cJ G β bx w X) (t:Nat) {x:AV} {u:Value} {cs:List AV} (hx:x.cells?=some cs) (h:aj β bx w (bg β bx w X) x u):
 ∃β' w',(newVar t u).run P w=.ok ⟨β' bx.length,0,none⟩ w'∧Ext β bx w β' (bx++[.var cs]) w'∧cJ G β' (bx++[.var cs]) w' X:=by
 obtain ⟨vs,h1,h2,h3⟩:=nO hx h
 refine ⟨kZ β bx.length w.heap.size,{w with heap:=w.heap.push (.cells ⟨vs⟩ t)},?_,gk _ _,kF cx _ _ ?_⟩
 ·simp [newVar,newRow,newObj,Sem.run,h1,bq]
 refine ⟨⟨vs⟩,t,jk _ _,?_⟩
 exact ak.mono ((gk (β:=β) (bx:=bx) (w:=w) (.cells ⟨vs⟩ t) (.var cs)).eY X) _ _ h2
theorem Fz {t:Nat} {ti:TI} (ht:pJ P t=some ti) {f o ft:Nat} (ho:zB ti.kd f=some (o,ft)) {tf:TI} (hft:pJ P ft=some tf) (hs:tf.size≠0) (blk off:Nat):
 (Instr.fieldAt t (.pointer (some ⟨blk,off,none⟩)) f).run P w=.ok (.pointer (some ⟨blk,off+o,none⟩)) w:=by
 obtain ⟨i,d,h1,h2,h3,h4,h5,h6⟩:=aK ht
 obtain ⟨fi,fd,g1,g2,g3,g4,g5,g6⟩:=aK hft
 rw [h5] at ho
 cases d<;>simp [cU,zB] at ho
 rename_i fs
 obtain ⟨fl,hfl,rfl,rfl⟩:=ho
 have hsz:fi.size≠0:=by rw [←g3];exact hs
 simp [Instr.fieldAt,aV h2,hfl,Instr.sureAddr,fieldPlace,bP g1,hsz,fO]
theorem nP {t:Nat} {ti:TI} (ht:pJ P t=some ti) {cs:List AV} {v:AV} {vs:List Value} {ok:Nat→Prop} {off:Nat}
 (hs:cM ti.kd.isAgg ti.size (cs.drop off)=some v) (hr:ak β bx w ok cs vs):
 ∃u,(part t ⟨vs⟩ off).run P w=.ok u w∧aj β bx w ok v u:=by
 obtain ⟨i,d,h1,h2,h3,h4,h5,h6⟩:=aK ht
 have hr':=ak.drop off hr
 unfold cM at hs
 simp only [part,Sem.run_bind,Ct h2,Result.andThen_ok,h5] at hs ⊢
 cases hk:(cU d).isAgg with
 |true=>
  simp only [hk,cond_true] at hs
  cases hle:Nat.ble ti.size (cs.drop off).length with
  |false=>rw [hle] at hs;simp at hs
  |true=>
   simp only [hle,cond_true,osI] at hs
   subst hs
   simp only [if_true,Sem.run_bind,bP h1,Result.andThen_ok]
   refine ⟨_,rfl,?_⟩
   simp only [aj]
   refine ⟨(vs.drop off).take ti.size,?_,ak.take _ hr'⟩
   simp [h3,List.extract_eq_take_drop]
 |false=>
  simp only [hk,cond_false] at hs
  cases hc:cs.drop off with
  |nil=>simp [hc] at hs
  |cons c cs'=>
   simp [hc] at hs;subst hs
   rw [hc] at hr'
   simp only [ak] at hr'
   obtain ⟨u,us,hd,g1,_⟩:=hr'
   have:vs[off]?=some u:=by
    have:=congrArg (fun l=>l[0]?) hd
    simpa using this
   simp [this]
   exact g1
theorem OB (ok:Nat→Prop) {op:BinOp} {k:IntKind} {x y:Int} {c:Prop} {d:D} (h:RR op k x y=some (c,d)) (hc:c) (t:Nat):
 ∃u,(Go.binOp op t (.int k x) (.int k y)).run P w=.ok u w∧aL w ok d u:=by
 cases op<;>simp only [RR,osI,Prod.mk.injEq,reduceCtorEq] at h<;>obtain ⟨rfl,rfl⟩:=h<;>
  simp [Go.binOp,Op.intArith,Op.intDiv,Op.intBits,Op.intCmp,aL,hc]<;>first|rfl|(simp [bne];done)|skip
theorem toList_mk (s:List UInt8):(⟨s.toArray⟩:ByteArray).toList=s:=by rw [ByteArray.toList_eq]
theorem RZ (x y:List UInt8):(x==y)=decide (x=y):=by
 cases h:(x==y)
 ·simp at h;simp [h]
 simp at h;simp [h]
theorem OC (ok:Nat→Prop) {op:BinOp} {x y:List UInt8} {c:Prop} {d:D} (h:RS op x y=some (c,d)) (hc:c) (t:Nat):
 ∃u,(Go.binOp op t (.string ⟨x.toArray⟩) (.string ⟨y.toArray⟩)).run P w=.ok u w∧aL w ok d u:=by
 cases op<;>simp only [RS,osI,Prod.mk.injEq,reduceCtorEq] at h<;>obtain ⟨rfl,rfl⟩:=h<;>
  simp only [Go.binOp,Op.stringOp,toList_mk]
 ·have:¬(((⟨x.toArray⟩:ByteArray).size+(⟨y.toArray⟩:ByteArray).size:Nat):Int)>IntKind.i64.max:=by
   have h1:(⟨x.toArray⟩:ByteArray).size=x.length:=by simp [ByteArray.size]
   have h2:(⟨y.toArray⟩:ByteArray).size=y.length:=by simp [ByteArray.size]
   have h3:IntKind.i64.max=9223372036854775807:=by decide
   rw [h1,h2,h3];omega
  rw [if_neg this]
  refine ⟨_,rfl,?_⟩
  simp only [aL]
  congr 1
 all_goals exact ⟨_,rfl,by simp [aL,RZ]⟩
theorem OD {op:BinOp} {x y:AV} {ux uy:Value} {c:Prop} {d:D} {ok:Nat→Prop} (h:Om op x y=some (c,d)) (hc:c) (hx:aj β bx w ok x ux) (hy:aj β bx w ok y uy) (t:Nat):
 ∃u,(Go.binOp op t ux uy).run P w=.ok u w∧aL w ok d u∧(∀a b:Operand,(eqGuard op t a b ux uy).run P w=.ok () w):=by
 have zO:∀(k:IntKind) (n:Int) (v:Value) (a b:Operand),(eqGuard op t a b (.int k n) v).run P w=.ok () w:=by
  intro k n v a b;simp only [eqGuard];split<;>simp
 have OE:∀(s:ByteArray) (v:Value) (a b:Operand),(eqGuard op t a b (.string s) v).run P w=.ok () w:=by
  intro s v a b;simp only [eqGuard];split<;>simp
 unfold Om at h
 split at h
 ·simp only [aj,aL] at hx hy;subst hx;subst hy
  simp only [osI,Prod.mk.injEq] at h;obtain ⟨rfl,rfl⟩:=h
  have hn:=Int.not_lt.2 hc
  exact ⟨_,by simp only [Go.binOp,Op.shift,if_neg hn];rfl,by simp only [aL],zO _ _ _⟩
 ·simp only [aj,aL] at hx hy;subst hx;subst hy
  simp only [osI,Prod.mk.injEq] at h;obtain ⟨rfl,rfl⟩:=h
  have hn:=Int.not_lt.2 hc
  exact ⟨_,by simp only [Go.binOp,Op.shift,if_neg hn];rfl,by simp only [aL],zO _ _ _⟩
 ·rename_i k x k' y _ _
  simp only [aj,aL] at hx hy;subst hx;subst hy
  cases hk:(k==k') with
  |false=>simp [hk] at h
  |true=>
   simp only [hk,cond_true] at h
   have:k=k':=by simpa using hk
   subst this
   obtain ⟨u,h1,h2⟩:=OB (P:=P) (w:=w) ok h hc t
   exact ⟨u,h1,h2,zO _ _ _⟩
 ·rename_i x y _ _
  simp only [aj,aL] at hx hy;subst hx;subst hy
  obtain ⟨u,h1,h2⟩:=OC (P:=P) (w:=w) ok h hc t
  exact ⟨u,h1,h2,OE _ _⟩
 simp at h
theorem R3 {op:UnOp} {x:AV} {ux:Value} {d:D} {ok:Nat→Prop} (h:WC op x=some d) (hx:aj β bx w ok x ux):
 ∃u,(Op.unary op ux).run P w=.ok u w∧aL w ok d u:=by
 unfold WC at h
 split at h<;>(try (simp at h;done))<;>simp only [aj,aL] at hx<;>subst hx<;>simp only [osI] at h<;>subst h
 ·exact ⟨_,rfl,by simp [aL]⟩
 ·exact ⟨_,rfl,by simp [aL]⟩
 exact ⟨_,rfl,by simp [aL]⟩
end
end Dem
end
section
open Go
namespace Dem
section
variable {P:Program} {T:Nat→Option TI} {G:Nat→Option (List D)} {β:Nat→Nat} {bx:List az} {w:World} {X:Nat→Prop}
theorem ay.drop {ok:Nat→Prop} {blk sz:Nat}:∀(n:Nat) (es:List (List D)) (off:Nat),ay w ok blk sz es off→ay w ok blk sz (es.drop n) (off+n*sz)
 |0,es,off,h=>by simpa using h
 |n+1,[],off,h=>by simp [ay]
 |n+1,r::rs,off,h=>by
  simp only [ay] at h
  have:=ay.drop n rs (off+sz) h.2.2
  simpa [Nat.add_mul,show off+sz+n*sz=off+(n*sz+sz) by omega] using this
theorem ay.take {ok:Nat→Prop} {blk sz:Nat}:∀(n:Nat) (es:List (List D)) (off:Nat),ay w ok blk sz es off→ay w ok blk sz (es.take n) off
 |0,es,off,h=>by simp [ay]
 |n+1,[],off,h=>by simp [ay]
 |n+1,r::rs,off,h=>by
  simp only [ay] at h
  simp only [List.take_succ_cons,ay]
  exact ⟨h.1,h.2.1,ay.take n rs _ h.2.2⟩
def BV:Option Int→Option Value→Prop
 |none,none=>True
 |some z,some (.int _ z')=>z'=z
 |_,_=>False
theorem oE {ev:Operand→AV} {ρ:Operand→Value} {x:Option Operand} {l:Option Int} {ok:Nat→Prop} (h:BT ev x=some l) (hr:∀y,x=some y→aj β bx w ok (ev y) (ρ y)):BV l (x.map ρ):=by
 cases x with
 |none=>simp [BT] at h;subst h;trivial
 |some y=>
  have hy:=hr y rfl
  simp only [BT] at h
  split at h
  ·rename_i k n he
   simp at h;subst h
   rw [he] at hy
   simp only [aj,aL] at hy
   simp [BV,hy]
  simp at h
theorem yY {α:Type} (l:List α) (lo hi:Option Int):iF l lo hi=(l.drop (aW lo)).take (aT l.length hi-aW lo):=by
 cases lo<;>cases hi<;>simp [iF,aW,aT]
 rw [List.take_of_length_le];simp
theorem mZ {len:Nat} {lo hi:Option Int} (h:bO len lo hi):aW lo≤aT len hi∧aT len hi≤len:=by
 cases lo<;>cases hi<;>simp [bO,aW,aT] at*<;>omega
theorem iO {x:Value} {z:Int} {y:Nat} {code:BoundsCode} (hx:BV (some z) (some x)) (h0:0≤z) (h1:z≤y):(Instr.sliceBound x y code).run P w=.ok z.toNat w:=by
 cases x<;>simp [BV] at hx
 subst hx
 simp [Instr.sliceBound,asIntOf,h0,h1]
theorem oF {Ud:Bool} {len cap:Nat} {lo hi:Option Int} {vl vh:Option Value} (hl:BV lo vl) (hh:BV hi vh) (hc:bO len lo hi) (hcap:len≤cap):
 (Instr.sliceBounds Ud len cap vl vh none).run P w=.ok (aW lo,aT len hi,cap) w:=by
 have hle:=mZ hc
 have low:∀(x:Value) (z:Int),BV (some z) (some x)→lo=some z→(Instr.sliceBound x (aT len hi) .sliceB).run P w=.ok z.toNat w:=by
  intro x z hx he
  subst he
  exact iO hx (by cases hi<;>simp [bO] at hc<;>omega) (by simp [aW] at hle;omega)
 cases hi with
 |none=>
  cases vh with
  |some _=>simp [BV] at hh
  |none=>
  cases lo with
  |none=>cases vl<;>simp [BV] at hl;simp [Instr.sliceBounds,aW,aT]
  |some z=>
   cases vl with
   |none=>simp [BV] at hl
   |some x=>
    have:=low x z hl rfl
    simp only [aT] at this
    simp [Instr.sliceBounds,this,aW,aT]
 |some h=>
  cases vh with
  |none=>simp [BV] at hh
  |some xh=>
  have hb:=iO (P:=P) (w:=w) (y:=cap) (code:=if Ud then .sliceAcap else .sliceAlen) hh (by cases lo<;>simp [bO] at hc<;>omega) (by cases lo<;>simp [bO] at hc<;>omega)
  cases lo with
  |none=>cases vl<;>simp [BV] at hl;simp [Instr.sliceBounds,aW,aT,hb]
  |some z=>
   cases vl with
   |none=>simp [BV] at hl
   |some x=>
    have:=low x z hl rfl
    simp only [aT] at this
    simp [Instr.sliceBounds,this,aW,aT,hb]
theorem FA {len cap:Nat} {lo:Option Int} {h:Int} {vl:Option Value} {xh xm:Value} (hl:BV lo vl) (hh:BV (some h) (some xh)) (hm:BV (some h) (some xm)) (hc:bO len lo (some h)) (hcap:len≤cap):
 (Instr.sliceBounds true len cap vl (some xh) (some xm)).run P w=.ok (aW lo,h.toNat,h.toNat) w:=by
 have hle:=mZ hc
 have h0:0≤h∧h≤len:=by cases lo<;>simp [bO] at hc<;>omega
 unfold Instr.sliceBounds
 simp only [Sem.run_bind]
 rw [iO hm h0.1 (by omega)]
 simp only [Result.andThen_ok]
 rw [iO hh h0.1 (by omega)]
 simp only [Result.andThen_ok]
 cases lo with
 |none=>cases vl<;>simp [BV] at hl;simp [aW]
 |some z=>
  cases vl with
  |none=>simp [BV] at hl
  |some x=>
   have hz:0≤z∧z≤h:=by simp [bO] at hc;omega
   simp only [Sem.run_bind]
   rw [iO hl hz.1 (by omega)]
   simp [aW]
theorem FB {ok:Nat→Prop} {base:Option Addr} {es:List (List D)} {lo hi:Option Int} {m size:Nat} (hc:bO es.length lo hi) (hm:aT es.length hi≤m)
 (hs:∀r∈es,r.length=size) (h:es=[]∨∃blk off sz,base=some ⟨blk,off,none⟩∧ok blk∧ay w ok blk sz es off):
 (iF es lo hi).length=aT es.length hi-aW lo∧
 (iF es lo hi=[]∨∃blk off sz,(if m=aW lo then base else base.map (·.add (aW lo*size)))=some ⟨blk,off,none⟩∧ok blk∧ay w ok blk sz (iF es lo hi) off):=by
 have hle:=mZ hc
 have hlen:(iF es lo hi).length=aT es.length hi-aW lo:=by rw [yY];simp;omega
 refine ⟨hlen,?_⟩
 by_cases W5:iF es lo hi=[]
 ·exact .inl W5
 refine .inr ?_
 have hpos:0<(iF es lo hi).length:=List.length_pos_iff.2 W5
 have hne:es≠[]:=by rintro rfl;simp [yY] at hpos
 rcases h with h|⟨blk,off,sz,rfl,h1,h2⟩
 ·exact absurd h hne
 have hsz:sz=size:=by
  cases es with
  |nil=>exact absurd rfl hne
  |cons r rs=>simp only [ay] at h2;rw [←h2.1];exact hs r (by simp)
 subst hsz
 rw [if_neg (by omega)]
 refine ⟨blk,off+aW lo*sz,sz,by simp [fO],h1,?_⟩
 rw [yY]
 exact ay.take _ _ _ (ay.drop _ _ _ h2)
theorem OF {x:AV} (h:cF [x]=true):x.cw bx=bx:=by cases x<;>simp_all [AV.cw,cF]
theorem tn {ok:Nat→Prop} {blk sz:Nat}:∀(n:Nat) (ds:List D) (off:Nat),n*sz≤ds.length→aX w ok blk ds off→ay w ok blk sz (chunk sz n ds) off∧(chunk sz n ds).length=n
 |0,ds,off,_,_=>by simp [chunk,ay]
 |n+1,ds,off,hl,h=>by
  rw [Nat.add_mul] at hl
  obtain ⟨h1,h2⟩:=tn (sz:=sz) n (ds.drop sz) (off+sz) (by simp;omega) (aX.drop sz ds off h)
  simp only [chunk,ay,List.length_cons,h2,and_true]
  exact ⟨by simp;omega,aX.take _ _ _ h,h1⟩
theorem FD (hT:kr P T) (cx:cJ G β bx w X) {t:Nat} {x:AV} {ux:Value} {lo hi mx:Option Int} {vl vh vm:Option Value} (hx:aj β bx w (bg β bx w X) x ux)
 (hl:BV lo vl) (hh:BV hi vh) (hm:BV mx vm) {c:Prop} {v:AV} {b:Option (List az)} (hr:pP T t x lo hi mx bx=some ⟨c,v,b⟩) (hc:c):
 ∃u,(Instr.sliceAt t ux vl vh vm).run P w=.ok u w∧Ext β bx w β (dF bx b) w∧cJ G β (dF bx b) w X∧
  aj β (dF bx b) w (bg β (dF bx b) w X) v u:=by
 unfold pP at hr
 cases ht:T t with
 |none=>simp [ht] at hr
 |some ti=>
 have ht':=hT.ti t ti ht
 obtain ⟨i,d,h1,h2,h3,h4,h5,h6⟩:=aK ht'
 simp only [ht] at hr
 have K7:dF bx (bif cF [x] then none else some (x.cw bx))=x.cw bx:=by
  cases ho:cF [x] with
  |true=>simp [OF ho,dF]
  |false=>rfl
 cases hk:ti.kd with
 |str=>
  rw [hk] at hr
  rw [hk] at h5
  cases d<;>simp [cU] at h5
  cases mx with
  |some _=>cases x<;>simp at hr
  |none=>
  cases x with
  |d y=>
   cases y with
   |str s=>
    simp only [R.when,osI,R.mk.injEq] at hr
    obtain ⟨rfl,rfl,rfl⟩:=hr
    simp only [aj,aL] at hx
    subst hx
    have hmn:vm=none:=by cases vm<;>simp [BV] at hm;rfl
    subst hmn
    have hb:=oF (P:=P) (w:=w) (Ud:=false) hl hh hc (Nat.le_refl _)
    refine ⟨.string ((⟨s.toArray⟩:ByteArray).extract (aW lo) (aT s.length hi)),?_,Ext.refl _ _ _,cx,?_⟩
    ·have hsz:(⟨s.toArray⟩:ByteArray).size=s.length:=by simp [ByteArray.size]
     simp only [Instr.sliceAt,Sem.run_bind,aV h2,Result.andThen_ok,Instr.slice,hsz]
     simp [hb]
    simp only [aj,aL,yY]
    rw [Lib.extract_eq]
   |_=>simp at hr
  |_=>simp at hr
 |slice e=>
  rw [hk] at hr
  rw [hk] at h5
  cases d<;>simp [cU] at h5
  subst h5
  cases mx with
  |none=>
   have oG:(match x.rows bx,T e with
    |some es,some te=>some (R.mk (bO es.length lo hi∧∀r∈es,r.length=te.size) (.d (.sl (iF es lo hi))) (bif cF [x] then none else some (x.cw bx)))
    |_,_=>none)=some ⟨c,v,b⟩:=by
    cases x<;>first|exact hr|(rename_i y;cases y<;>exact hr)
   clear hr
   split at oG
   ·rename_i es te aD hte
    simp only [osI,R.mk.injEq] at oG
    obtain ⟨rfl,rfl,rfl⟩:=oG
    obtain ⟨BW,BX⟩:=hc
    obtain ⟨ei,ed,g1,g2,g3,g4,g5,g6⟩:=aK (hT.ti _ _ hte)
    obtain ⟨k1,k2,base,cap,rfl,k3,k4⟩:=j8 cx aD hx
    rw [K7]
    have hmn:vm=none:=by cases vm<;>simp [BV] at hm;rfl
    subst hmn
    have hb:=oF (P:=P) (w:=w) (Ud:=true) hl hh BW k3
    have hle:=mZ BW
    obtain ⟨j1,j2⟩:=FB (w:=w) (m:=cap) BW (by omega) (fun r hr=>by rw [BX r hr]) k4
    refine ⟨.slice (if cap=aW lo then base else base.map (·.add (aW lo*te.size))) (aT es.length hi-aW lo) (cap-aW lo),?_,k1,k2,?_⟩
    ·simp [Instr.sliceAt,aV h2,Instr.slice,hb,bP g1,g3]
    simp only [aj,aL]
    exact ⟨_,_,by rw [j1],by rw [j1];omega,j2⟩
   simp at oG
  |some m=>
   have oG:(match x.rows bx,hi,T e with
    |some es,some h,some te=>some (R.mk ((bO es.length lo (some h)∧m=h)∧∀r∈es,r.length=te.size) (.cl (iF es lo (some h))) (bif cF [x] then none else some (x.cw bx)))
    |_,_,_=>none)=some ⟨c,v,b⟩:=by
    cases x<;>first|exact hr|(rename_i y;cases y<;>exact hr)
   clear hr
   split at oG
   ·rename_i es h te aD hte
    simp only [osI,R.mk.injEq] at oG
    obtain ⟨rfl,rfl,rfl⟩:=oG
    obtain ⟨⟨BW,rfl⟩,BX⟩:=hc
    obtain ⟨ei,ed,g1,g2,g3,g4,g5,g6⟩:=aK (hT.ti _ _ hte)
    obtain ⟨k1,k2,base,cap,rfl,k3,k4⟩:=j8 cx aD hx
    rw [K7]
    cases vm with
    |none=>simp [BV] at hm
    |some xm=>
    cases vh with
    |none=>simp [BV] at hh
    |some xh=>
    have hb:=FA (P:=P) (w:=w) hl hh hm BW k3
    have hle:=mZ BW
    obtain ⟨j1,j2⟩:=FB (w:=w) (m:=m.toNat) BW (by simp [aT]) (fun r hr=>by rw [BX r hr]) k4
    refine ⟨.slice (if m.toNat=aW lo then base else base.map (·.add (aW lo*te.size))) (m.toNat-aW lo) (m.toNat-aW lo),?_,k1,k2,?_⟩
    ·simp [Instr.sliceAt,aV h2,Instr.slice,hb,bP g1,g3]
    simp only [aj]
    refine ⟨_,?_,j2⟩
    rw [j1];rfl
   simp at oG
 |array n e=>
  rw [hk] at hr
  rw [hk] at h5
  cases d<;>simp [cU] at h5
  obtain ⟨rfl,rfl⟩:=h5
  cases mx with
  |some _=>cases x<;>simp at hr
  |none=>
  cases x with
  |ep ds=>
   cases lo with
   |some _=>simp at hr
   |none=>
   cases hi with
   |some _=>simp at hr
   |none=>
   cases hte:T e with
   |none=>simp [hte] at hr
   |some te=>
    simp only [hte,R.when,osI,R.mk.injEq] at hr
    obtain ⟨rfl,rfl,rfl⟩:=hr
    obtain ⟨ei,ed,g1,g2,g3,g4,g5,g6⟩:=aK (hT.ti _ _ hte)
    simp only [aj] at hx
    obtain ⟨blk,off,rfl,k1,k2⟩:=hx
    have e1:vl=none:=by cases vl<;>simp [BV] at hl;rfl
    have e2:vh=none:=by cases vh<;>simp [BV] at hh;rfl
    have e3:vm=none:=by cases vm<;>simp [BV] at hm;rfl
    subst e1;subst e2;subst e3
    obtain ⟨j1,j2⟩:=tn (w:=w) _ ds off hc k2
    refine ⟨.slice (some ⟨blk,off,none⟩) (chunk te.size n ds).length (chunk te.size n ds).length,?_,Ext.refl _ _ _,cx,?_⟩
    ·simp [Instr.sliceAt,aV h2,Instr.sureAddr,Instr.sliceBounds,bP g1,j2,fO]
    simp only [aj,aL]
    exact ⟨_,_,rfl,Nat.le_refl _,.inr ⟨blk,off,_,rfl,k1,j1⟩⟩
  |ptr bb off=>
   cases off with
   |succ _=>simp at hr
   |zero=>
   cases lo with
   |some _=>simp at hr
   |none=>
   cases hi with
   |some _=>simp at hr
   |none=>
   cases hte:T e with
   |none=>simp [hte] at hr
   |some te=>
   cases hb:bx[bb]? with
   |none=>simp [hte,hb] at hr
   |some B=>
   cases B with
   |var cs=>
    simp only [hte,hb] at hr
    cases hd:iV [] cs with
    |none=>simp [hd] at hr
    |some ds=>
    simp only [hd,osI,R.mk.injEq] at hr
    obtain ⟨rfl,rfl,rfl⟩:=hr
    obtain ⟨ei,ed,g1,g2,g3,g4,g5,g6⟩:=aK (hT.ti _ _ hte)
    simp only [aj] at hx
    obtain ⟨rfl,_⟩:=hx
    have e1:vl=none:=by cases vl<;>simp [BV] at hl;rfl
    have e2:vh=none:=by cases vh<;>simp [BV] at hh;rfl
    have e3:vm=none:=by cases vm<;>simp [BV] at hm;rfl
    subst e1;subst e2;subst e3
    obtain ⟨cc,ce,hp,hcs⟩:=cx.box bb _ hb
    have ex:Ext β bx w β (bx.set bb .dead) w:=iI hb rfl rfl
    have mP:cJ G β (bx.set bb .dead) w X:=jZ cx hb rfl rfl (by simp [dj])
    have hok:bg β (bx.set bb .dead) w X (β bb):=by
     refine ⟨ff hp,cx.apart bb _ hb rfl,?_⟩
     intro i b' h3 h4 he
     rcases aM h3 with ⟨rfl,rfl,_⟩|⟨h5,h6⟩
     ·simp [az.live] at h4
     exact h5 (cx.inj i bb b' _ h6 hb h4 rfl he)
    have hrow:aX w (bg β bx w X) (β bb) ds 0:=by
     refine DR ds 0 cc.toList ?_ (rJ hd hcs)
     intro j v hj
     simp only [World.cell?,hp]
     simpa using hj
    obtain ⟨j1,j2⟩:=tn (w:=w) _ ds 0 hc (aX.mono (ex.keeps X) _ (fun _=>rfl) _ _ hrow)
    refine ⟨.slice (some ⟨β bb,0,none⟩) (chunk te.size n ds).length (chunk te.size n ds).length,?_,ex,mP,?_⟩
    ·simp [Instr.sliceAt,aV h2,Instr.sureAddr,Instr.sliceBounds,bP g1,j2,fO]
    simp only [aj,aL]
    exact ⟨_,_,rfl,Nat.le_refl _,.inr ⟨_,0,_,rfl,hok,j1⟩⟩
   |_=>simp [hte,hb] at hr
  |_=>simp at hr
 |_=>rw [hk] at hr;cases mx<;>cases x<;>simp at hr
end
end Dem
end
