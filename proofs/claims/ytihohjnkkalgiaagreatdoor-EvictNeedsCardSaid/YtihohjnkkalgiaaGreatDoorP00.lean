/- Parts of a proof, joined. -/
import Derived.Orders
import Derived.Laws.Append
import Derived.RowKit3
set_option linter.all false
set_option maxRecDepth 100000
set_option maxHeartbeats 4000000
open Go
namespace Dem
theorem trv:True:=trivial
theorem osI {α:Type _} {a b:α}:(some a=some b)=(a=b):=Option.some.injEq a b
theorem lgM {α β:Type _} {as:List α} (f:α→β):(as.map f).length=as.length:=List.length_map f
inductive D where
 |bool (b:Bool)
 |int (k:IntKind) (n:Int)
 |str (s:List UInt8)
 |sl (es:List (List D))
 |fn (f:Nat)
 |mp (ag:Bool) (es:List (List D))
inductive KC where
 |nk|nilIface|nilFunc|Bz
def KC.val:KC→Value
 |.nk=>.pointer none
 |.nilIface=>.nilIface
 |.nilFunc=>.nilFunc
 |.Bz=>.map none
inductive AV where
 |any
 |d (x:D)
 |k (c:KC)
 |agg (cs:List AV)
 |dL (vs:List AV)
 |ptr (b off:Nat)
 |rp (b sz i j:Nat)
 |ep (ds:List D)
 |ow (b sz n:Nat)
 |cl (es:List (List D))
 |fn (f:Nat) (iZ:List AV)
 |qx (t:Nat) (v:AV)
 |cond (p:Bool) (v:AV)
 |vw (b sz off n c:Nat) (ex:Bool)
 |zP (b:Nat)
inductive ay where
 |var (cs:List AV)
 |row (sz:Nat) (es:List (List D))
 |mH (sz:Nat) (es:List (List D))
 |it (s:List UInt8) (pos:Nat)
 |mp (ag:Bool) (es:List (List D))
 |dead
 |bt
def ay.live:ay→Bool
 |.var _=>true
 |.row _ []=>false
 |.row _ (_::_)=>true
 |.it _ _=>true
 |.mp _ _=>true
 |_=>false
def ay.born:ay→Bool
 |.bt=>false
 |_=>true
def bT (bx:List ay) (i:Nat):Prop:=∃b,bx[i]?=some b∧b.born=true
structure St where
 sl:List (Nat×AV)
 bx:List ay
inductive Ex where
 |normal
 |exit (id:Nat)
 |ret
 |panic (v:AV)
inductive iy where
 |ret (v:AV)
 |Jl (v:AV)
def fU (t:Nat):List (Nat×AV)→AV
 |[]=>.any
 |(u,v)::r=>bif Nat.beq t u then v else fU t r
def put (t:Nat) (v:AV):List (Nat×AV)→List (Nat×AV)
 |[]=>[(t,v)]
 |(u,x)::r=>bif Nat.beq t u then (t,v)::r else (u,x)::put t v r
def ej (dst:Option Nat) (v:AV) (sl:List (Nat×AV)):List (Nat×AV):=
 match dst with
 |some t=>put t v sl
 |none=>sl
def gx (n:Nat) (dst:Option Nat):Bool:=
 match dst with
 |some t=>Nat.blt t n
 |none=>true
inductive Kd where
 |int (k:IntKind)
 |bool
 |str
 |slice (e:Nat)
 |array (n e:Nat)
 |struct (YP:List (Nat×Nat))
 |map (k e:Nat)
 |iface
 |other
def Kd.plain:Kd→Bool
 |.other=>false
 |.iface=>false
 |_=>true
def Kd.isAgg:Kd→Bool
 |.array _ _=>true
 |.struct _=>true
 |_=>false
structure TI where
 size:Nat
 bytes:Nat
 kd:Kd
 zero:AV
 eq:Bool
 inv:Option (String×Nat):=none
def FO:Value→AV
 |.bool b=>.d (.bool b)
 |.int k n=>.d (.int k n)
 |.string s=>.d (.str s.data.toList)
 |.slice none 0 0=>.cl []
 |.pointer none=>.k .nk
 |.nilIface=>.k .nilIface
 |.nilFunc=>.k .nilFunc
 |.map none=>.k .Bz
 |_=>.any
def On:Value→AV
 |.agg cs=>.agg (cs.toList.map FO)
 |v=>FO v
def cM:TypeDesc→Kd
 |.int k=>.int k
 |.bool=>.bool
 |.string=>.str
 |.slice e=>.slice e
 |.array n e=>.array n e
 |.struct fs=>.struct (fs.toList.map fun f=>(f.offset,f.type))
 |.map k e=>.map k e
 |.interface _=>.iface
 |_=>.other
def Lg (P:Program) (t:Nat):TypeDesc→Bool
 |.struct fs=>!P.stoodInHeld t&&fs.toList.all fun f=>f.name != "_"
 |_=>true
def Lh:List String:=["demesne/sel.holds","demesne/act.kind"]
def Qy (i:TypeInfo):Option (String×Nat):=Lh.findSome? fun nm=>match i.methods.toList.find? (fun m=>m.name==nm) with
 |some ⟨_,_,path,some (f,false)⟩=>bif path.toList.isEmpty then some (nm,f) else none
 |_=>none
def om (P:Program) (t:Nat):Option TI:=
 match P.info? t,P.underlying t with
 |some i,some d=>some {size:=i.size,bytes:=i.bytes,kd:=cM d,zero:=match i.zero with|some z=>On z|none=>.any,eq:=Lg P t d,inv:=bif (cM d).plain then Qy i else none}
 |_,_=>none
def AV.aL:AV→AV
 |.cond _ v=>v
 |v=>v
def AV.ok:AV→Prop
 |.cond p _=>p=true
 |_=>True
def AV.sc:AV→Bool
 |.d _|.k _|.ptr _ _|.rp _ _ _ _|.ep _|.ow _ _ _|.cl _|.fn _ _|.qx _ _|.zP _=>true
 |_=>false
def so:List AV→Bool
 |[]=>true
 |x::xs=>bif x.sc then so xs else false
def AV.cells?:AV→Option (List AV)
 |.agg cs=>bif so cs then some cs else none
 |.any|.dL _|.cond _ _|.vw _ _ _ _ _ _=>none
 |v=>some [v]
def bU (G:Nat→Option (List D)) (sl:List (Nat×AV)):Operand→AV
 |.tmp t=>fU t sl
 |.const v=>FO v
 |.global g=>match G g with
  |some ds=>.ep ds
  |none=>.any
 |.func f=>.fn f []
def AV.qy (bx:List ay):AV→Option D
 |.d x=>some x
 |.cl es=>some (.sl es)
 |.fn f []=>some (.fn f)
 |.ow b sz n=>match n,bx[b]? with
  |_,some (.row s es)=>bif Nat.beq s sz&&Nat.beq n es.length then some (.sl es) else none
  |_,some (.mH s es)=>bif Nat.beq s sz&&Nat.beq n es.length then some (.sl es) else none
  |_,_=>none
 |_=>none
def AV.cq (bx:List ay):AV→List ay
 |.ow b _ _=>match bx[b]? with
  |some (.row s es)=>bx.set b (.mH s es)
  |_=>bx
 |.vw b _ _ _ _ _=>match bx[b]? with
  |some (.row s es)=>bx.set b (.mH s es)
  |_=>bx
 |_=>bx
def iw (bx:List ay):List AV→Option (List D)
 |[]=>some []
 |x::xs=>match x.qy bx,iw bx xs with
  |some y,some ys=>some (y::ys)
  |_,_=>none
def dS (bx:List ay):List AV→List ay
 |[]=>bx
 |x::xs=>dS (x.cq bx) xs
def AV.rows (bx:List ay):AV→Option (List (List D))
 |.d (.sl es)=>some es
 |.cl es=>some es
 |.ow b sz n=>match bx[b]? with
  |some (.row s es)=>bif Nat.beq s sz&&Nat.beq n es.length then some es else none
  |some (.mH s es)=>bif Nat.beq s sz&&Nat.beq n es.length then some es else none
  |_=>none
 |.vw b sz off n _ _=>match bx[b]? with
  |some (.row s es)=>bif Nat.beq s sz&&Nat.ble (off+n) es.length then some ((es.drop off).take n) else none
  |some (.mH s es)=>bif Nat.beq s sz&&Nat.ble (off+n) es.length then some ((es.drop off).take n) else none
  |_=>none
 |_=>none
def cr:List AV→Bool
 |[]=>true
 |.ow _ _ _::_=>false
 |.vw _ _ _ _ _ _::_=>false
 |_::r=>cr r
def eu:List AV→Nat→List AV→List AV
 |cs,_,[]=>cs
 |[],_,_::_=>[]
 |_::cs,0,v::vs=>v::eu cs 0 vs
 |c::cs,n+1,v::vs=>c::eu cs n (v::vs)
def be:List D→Nat→List D→List D
 |cs,_,[]=>cs
 |[],_,_::_=>[]
 |_::cs,0,v::vs=>v::be cs 0 vs
 |c::cs,n+1,v::vs=>c::be cs n (v::vs)
structure R where
 c:Prop
 v:AV
 bx:Option (List ay)
def dz (bx:List ay):Option (List ay)→List ay
 |some b=>b
 |none=>bx
def R.pure (v:AV):Option R:=some ⟨True,v,none⟩
def R.when (c:Prop) (v:AV):Option R:=some ⟨c,v,none⟩
def cB (agg:Bool) (size:Nat) (cs:List AV):Option AV:=
 bif agg then (bif Nat.ble size cs.length then some (.agg (cs.take size)) else none) else cs.head?
def n8 (ti:TI) (a:AV) (bx:List ay):Option R:=
 match a with
 |.ptr b off=>match bx[b]? with
  |some (.var cs)=>match cB ti.kd.isAgg ti.size (cs.drop off) with
   |some v=>R.pure v
   |none=>none
  |_=>none
 |.ep ds=>match cB ti.kd.isAgg ti.size (ds.map .d) with
  |some v=>R.pure v
  |none=>none
 |.rp b sz i j=>match bx[b]? with
  |some (.row s es)=>match cB ti.kd.isAgg ti.size (((es.getD i []).drop j).map .d) with
   |some v=>some ⟨s=sz∧i<es.length,v,none⟩
   |none=>none
  |some (.mH s es)=>match cB ti.kd.isAgg ti.size (((es.getD i []).drop j).map .d) with
   |some v=>some ⟨s=sz∧i<es.length,v,none⟩
   |none=>none
  |_=>none
 |_=>none
def qV (ti:TI) (a v:AV) (bx:List ay):Option R:=
 match v.cells? with
 |none=>none
 |some vs=>bif Nat.beq vs.length ti.size then
  match a with
  |.ptr b off=>match bx[b]? with
   |some (.var cs)=>bif Nat.ble (off+vs.length) cs.length then some ⟨True,.any,some (bx.set b (.var (eu cs off vs)))⟩ else none
   |_=>none
  |.rp b sz i j=>match iw bx vs with
   |some ds=>match (dS bx vs)[b]? with
    |some (.row s es)=>some ⟨s=sz∧i<es.length∧j+ds.length≤(es.getD i []).length,.any,
     some ((dS bx vs).set b (.row s (es.set i (be (es.getD i []) j ds))))⟩
    |_=>none
   |none=>none
  |_=>none
  else none
def w8:Kd→Nat→Option (Nat×Nat)
 |.struct fs,i=>fs[i]?
 |_,_=>none
def Oo (op:BinOp) (k:IntKind) (x y:Int):Option (Prop×D):=
 match op with
 |.add=>some (True,.int k (k.wrap (x+y)))
 |.sub=>some (True,.int k (k.wrap (x-y)))
 |.mul=>some (True,.int k (k.wrap (x*y)))
 |.quo=>some (y≠0,.int k (k.wrap (x.tdiv y)))
 |.rem=>some (y≠0,.int k (x.tmod y))
 |.and=>some (True,.int k (k.wrap (BitVec.ofInt k.bits x &&& BitVec.ofInt k.bits y).toNat))
 |.or=>some (True,.int k (k.wrap (BitVec.ofInt k.bits x ||| BitVec.ofInt k.bits y).toNat))
 |.xor=>some (True,.int k (k.wrap (BitVec.ofInt k.bits x ^^^ BitVec.ofInt k.bits y).toNat))
 |.andNot=>some (True,.int k (k.wrap (BitVec.ofInt k.bits x &&& ~~~(BitVec.ofInt k.bits y)).toNat))
 |.eql=>some (True,.bool (decide (x=y)))
 |.neq=>some (True,.bool (!decide (x=y)))
 |.lss=>some (True,.bool (decide (x<y)))
 |.leq=>some (True,.bool (decide (x≤y)))
 |.gtr=>some (True,.bool (decide (y<x)))
 |.geq=>some (True,.bool (decide (y≤x)))
 |_=>none
def Oq (op:BinOp) (x y:List UInt8):Option (Prop×D):=
 match op with
 |.add=>some (x.length+y.length≤9223372036854775807,.str (x++y))
 |.eql=>some (True,.bool (decide (x=y)))
 |.neq=>some (True,.bool (!decide (x=y)))
 |.lss=>some (True,.bool (Op.bytesLess x y))
 |.leq=>some (True,.bool (Op.bytesLess x y||decide (x=y)))
 |.gtr=>some (True,.bool (!(Op.bytesLess x y||decide (x=y))))
 |.geq=>some (True,.bool (!Op.bytesLess x y))
 |_=>none
def Li (op:BinOp) (x y:AV):Option (Prop×D):=
 match op,x,y with
 |.shl,.d (.int k x),.d (.int _ y)=>some (0≤y,.int k (k.wrap (x*2^(min y.toNat k.bits))))
 |.shr,.d (.int k x),.d (.int _ y)=>some (0≤y,.int k (x.fdiv (2^(min y.toNat k.bits))))
 |op,.d (.int k x),.d (.int k' y)=>bif k==k' then Oo op k x y else none
 |op,.d (.str x),.d (.str y)=>Oq op x y
 |_,_,_=>none
def zQ (T:Nat→Option TI):Nat→Nat→AV→AV→Option Bool
 |0,_,_,_=>none
 |n+1,t,x,y=>match T t with
  |none=>none
  |some ti=>match ti.kd,x,y with
   |.int _,.d (.int j a),.d (.int k b)=>bif j==k then some (decide (a=b)) else none
   |.bool,.d (.bool a),.d (.bool b)=>some (a==b)
   |.str,.d (.str a),.d (.str b)=>some (decide (a=b))
   |.array len e,.agg xs,.agg ys=>match T e with
    |some te=>bif Nat.beq len 0 then none else (List.range len).foldr (fun i acc=>match cB te.kd.isAgg te.size (xs.drop (i*te.size)),cB te.kd.isAgg te.size (ys.drop (i*te.size)) with
     |some a,some b=>match zQ T n e a b,acc with
      |some p,some q=>some (p&&q)
      |_,_=>none
     |_,_=>none) (some true)
    |none=>none
   |.struct fs,.agg xs,.agg ys=>bif ti.eq then fs.foldr (fun f acc=>match T f.2 with
    |some tf=>match cB tf.kd.isAgg tf.size (xs.drop f.1),cB tf.kd.isAgg tf.size (ys.drop f.1) with
     |some a,some b=>match zQ T n f.2 a b,acc with
      |some p,some q=>some (p&&q)
      |_,_=>none
     |_,_=>none
    |none=>none) (some true) else none
   |_,_,_=>none
def w9 (p:Bool):AV→AV→AV
 |.d (.bool x),.d (.bool y)=>.d (.bool (bif p then x else y))
 |.any,.d (.bool y)=>bif p then .any else .d (.bool y)
 |_,_=>.any
def Td (op:UnOp) (x:AV):Option D:=
 match op,x with
 |.not,.d (.bool b)=>some (.bool (!b))
 |.neg,.d (.int k n)=>some (.int k (k.wrap (0-n)))
 |.xor,.d (.int k n)=>some (.int k (k.wrap (BitVec.ofInt k.bits (if k.signed then -1 else k.max) ^^^ BitVec.ofInt k.bits n).toNat))
 |_,_=>none
def pS (b:UInt8):List D:=[.int .u8 b.toNat]
def pT:List D→UInt8
 |[.int _ n]=>UInt8.ofNat n.toNat
 |_=>0
def pU (r:List D):Prop:=∃n:Int,r=[.int .u8 n]
def chunk (sz:Nat):Nat→List D→List (List D)
 |0,_=>[]
 |n+1,ds=>ds.take sz::chunk sz n (ds.drop sz)
def zR (ev:Operand→AV):Option Operand→Option (Option Int)
 |none=>some none
 |some x=>match ev x with
  |.d (.int _ n)=>some (some n)
  |_=>none
def gq {α:Type} (l:List α):Option Int→Option Int→List α
 |none,none=>l
 |some a,none=>l.drop a.toNat
 |none,some b=>l.take b.toNat
 |some a,some b=>(l.drop a.toNat).take (b.toNat-a.toNat)
def bJ (n:Nat):Option Int→Option Int→Prop
 |none,none=>True
 |some a,none=>0≤a∧a≤n
 |none,some b=>0≤b∧b≤n
 |some a,some b=>0≤a∧a≤b∧b≤n
def ou (T:Nat→Option TI) (t:Nat) (x:AV) (lo hi mx:Option Int) (bx:List ay):Option R:=
 match T t with
 |some ti=>match ti.kd,x,mx with
  |.str,.d (.str s),none=>R.when (bJ s.length lo hi) (.d (.str (gq s lo hi)))
  |.slice e,x,none=>match x.rows bx,T e with
   |some es,some te=>some ⟨bJ es.length lo hi∧∀r∈es,r.length=te.size,.d (.sl (gq es lo hi)),bif cr [x] then none else some (x.cq bx)⟩
   |_,_=>none
  |.slice e,x,some m=>match x.rows bx,hi,T e with
   |some es,some h,some te=>some ⟨(bJ es.length lo (some h)∧m=h)∧∀r∈es,r.length=te.size,.cl (gq es lo (some h)),bif cr [x] then none else some (x.cq bx)⟩
   |_,_,_=>none
  |.array n e,.ep ds,none=>match lo,hi,T e with
   |none,none,some te=>R.when (n*te.size≤ds.length) (.d (.sl (chunk te.size n ds)))
   |_,_,_=>none
  |.array n e,.ptr b 0,none=>match lo,hi,T e,bx[b]? with
   |none,none,some te,some (.var cs)=>match iw [] cs with
    |some ds=>some ⟨n*te.size≤ds.length,.d (.sl (chunk te.size n ds)),some (bx.set b .dead)⟩
    |none=>none
   |_,_,_,_=>none
  |_,_,_=>none
 |none=>none
def Ap (sizes:Nat→Option (Nat×Nat)):List AV→List (Nat×AV)→Option (List AV)
 |cells,[]=>some cells
 |cells,(i,v)::rest=>match sizes i,v.cells? with
  |some (off,size),some vs=>bif Nat.beq vs.length size&&Nat.ble (off+vs.length) cells.length then
   Ap sizes (eu cells off vs) rest else none
  |_,_=>none
def BA (T:Nat→Option TI) (t:Nat) (parts:List (Nat×AV)):Option R:=
 match T t with
 |some ti=>match ti.zero.cells? with
  |some z=>match ti.kd with
   |.struct fs=>match Ap (fun i=>match fs[i]? with|some (o,ft)=>(T ft).map fun x=>(o,x.size)|none=>none) z parts with
    |some cs=>R.pure (.agg cs)
    |none=>none
   |.array _ e=>match T e with
    |some te=>match Ap (fun i=>some (i*te.size,te.size)) z parts with
     |some cs=>R.pure (.agg cs)
     |none=>none
    |none=>none
   |_=>none
  |none=>none
 |none=>none
def dD (bx:List ay):List (Nat×AV)→List ay
 |[]=>bx
 |(_,v)::rest=>match v.cells? with
  |some vs=>dD (dS bx vs) rest
  |none=>bx
def lV:Nat→List (Nat×AV)→Bool
 |_,[]=>true
 |i,(j,_)::r=>Nat.beq i j&&lV (i+1) r
def rowsOf (bx:List ay) (size:Nat):List (Nat×AV)→Option (List (List D))
 |[]=>some []
 |(_,v)::r=>match v.cells? with
  |some vs=>match iw bx vs,rowsOf bx size r with
   |some ds,some rs=>bif Nat.beq ds.length size then some (ds::rs) else none
   |_,_=>none
  |none=>none
def C0:List (Nat×AV)→Bool
 |[]=>true
 |(_,v)::r=>match v.cells? with
  |some vs=>cr vs&&C0 r
  |none=>false
def fw (T:Nat→Option TI) (t n:Nat) (parts:List (Nat×AV)) (bx:List ay):Option R:=
 match T t with
 |some ti=>match ti.kd with
  |.slice e=>match T e with
   |some te=>bif Nat.beq parts.length n&&lV 0 parts&&Nat.ble (n*te.size) 16777216&&te.zero.cells?.isSome then
    match rowsOf bx te.size parts with
    |some rs=>some ⟨True,.cl rs,bif C0 parts then none else some (dD bx parts)⟩
    |none=>none
    else none
   |none=>none
  |_=>none
 |none=>none
def jQ (size:Nat) (x:AV) (bx:List ay):Option (List (List D)):=
 match x with
 |.d (.str b)=>bif Nat.beq size 1 then some (b.map pS) else none
 |x=>x.rows bx
def sameBox (b:Nat):AV→Bool
 |.ow b2 _ _=>Nat.beq b b2
 |.vw b2 _ _ _ _ _=>Nat.beq b b2
 |_=>false
def eA (te:TI):Bool:=
 match te.zero.cells? with
 |some z=>Nat.beq z.length te.size&&Nat.blt 0 te.bytes&&Nat.blt 0 te.size
 |none=>false
def kw (T:Nat→Option TI) (t:Nat) (s x:AV) (bx:List ay):Option R:=
 match T t with
 |some ti=>match ti.kd with
  |.slice e=>match T e with
   |some te=>bif eA te then
    match jQ te.size x bx with
    |some xs=>match s with
     |.cl []=>some ⟨xs.length*te.bytes≤140737488355328∧(∀r∈xs,r.length=te.size),.ow bx.length te.size xs.length,some (bx++[.row te.size xs])⟩
     |.cl (e0::er)=>match xs with
      |[]=>none
      |x0::xr=>some ⟨((e0::er).length+(x0::xr).length)*te.bytes≤140737488355328∧(∀r∈(e0::er)++(x0::xr),r.length=te.size),
       .ow bx.length te.size ((e0::er).length+(x0::xr).length),some (bx++[.row te.size ((e0::er)++(x0::xr))])⟩
     |.ow b sz n=>match bx[b]? with
      |some (.row s2 es)=>bif sameBox b x then none else
       some ⟨s2=sz∧sz=te.size∧n=es.length∧(es.length+xs.length)*te.bytes≤140737488355328∧(∀r∈es++xs,r.length=te.size),
       .ow bx.length te.size (es.length+xs.length),some ((bx.set b .dead)++[.row te.size (es++xs)])⟩
      |_=>none
     |_=>none
    |none=>none
    else none
   |none=>none
  |_=>none
 |none=>none
def zW (T:Nat→Option TI) (ev:Operand→AV):Op→Option (Prop×List (List D))
 |.call {callee:=.builtin b,args,argTypes}=>match b,args.toList,argTypes.toList with
  |.append,[x,y],[t,u]=>match T t,T u with
   |some ti,some tu=>match ti.kd,tu.kd with
    |.slice e,.slice _=>match T e with
     |some te=>bif eA te then match ev x,ev y with
      |.cl es,.cl (x0::xr)=>some ((es.length+(x0::xr).length)*te.bytes≤140737488355328∧(∀r∈es++(x0::xr),r.length=te.size),es++(x0::xr))
      |_,_=>none
      else none
     |none=>none
    |_,_=>none
   |_,_=>none
  |_,_,_=>none
 |_=>none
def vg (T:Nat→Option TI) (src dst:Nat) (x:AV) (bx:List ay):Option R:=
 match T src,T dst with
 |some ts,some td=>match ts.kd,td.kd,x with
  |_,.int k,.d (.int _ n)=>R.pure (.d (.int k (k.wrap n)))
  |.slice e,.str,x=>match T e,x.rows bx with
   |some te,some es=>match te.kd with
    |.int .u8=>R.when (∀r∈es,pU r) (.d (.str (es.map pT)))
    |_=>none
   |_,_=>none
  |.str,.str,.d (.str s)=>R.pure (.d (.str s))
  |_,_,_=>none
 |_,_=>none
def xe (x:AV) (bx:List ay):Option AV:=
 match x with
 |.d (.sl es)=>some (.d (.int .i64 es.length))
 |.cl es=>some (.d (.int .i64 es.length))
 |.ow b sz n=>match (AV.ow b sz n).rows bx with
  |some es=>some (.d (.int .i64 es.length))
  |none=>none
 |.vw b sz off n c ex=>match (AV.vw b sz off n c ex).rows bx with
  |some es=>some (.d (.int .i64 es.length))
  |none=>none
 |_=>none
def iz (T:Nat→Option TI) (b:Builtin) (args:List AV) (ats:List Nat) (bx:List ay):Option R:=
 match b,args,ats with
 |.len,[x],[t]=>match T t with
  |some ti=>match ti.kd,x with
   |.array n _,_=>R.pure (.d (.int .i64 n))
   |.str,.d (.str s)=>R.pure (.d (.int .i64 s.length))
   |.slice _,x=>match xe x bx with
    |some v=>R.pure v
    |none=>none
   |_,_=>none
  |none=>none
 |.min,[.d (.int k x),.d (.int _ y)],_=>R.pure (.d (.int k (min x y)))
 |.max,[.d (.int k x),.d (.int _ y)],_=>R.pure (.d (.int k (max x y)))
 |.append,[s,x],[t,u]=>match T u with
  |some tu=>match tu.kd with
   |.int _=>none
   |_=>kw T t s x bx
  |none=>none
 |_,_,_=>none
def aS (lo:Option Int):Nat:=(lo.getD 0).toNat
def aM (len:Nat):Option Int→Nat
 |none=>len
 |some h=>h.toNat
def AV.sq:AV→Bool
 |.vw _ _ _ _ _ _=>true
 |_=>false
def iA (ev:Operand→AV):Op→Bool
 |.slice _ x _ _ _=>(ev x).sq
 |.indexAddr _ x _=>(ev x).sq
 |.makeSlice _ _ _=>true
 |.call {callee:=.builtin b,args,..}=>match b,args.toList with
  |.copy,_=>true
  |.clear,_=>true
  |.cap,_=>true
  |.len,[x]=>(ev x).sq
  |.append,[x,_]=>(ev x).sq
  |_,_=>false
 |_=>false
def dF (n c:Nat) (lo hi:Option Int):Prop:=
 match hi with
 |none=>bJ n lo none
 |some h=>bJ c lo (some h)
def viewAt:AV→Option (Nat×Nat×Nat×Nat×Nat×Bool)
 |.vw b sz off n c ex=>some (b,sz,off,n,c,ex)
 |.ow b sz n=>some (b,sz,0,n,n,false)
 |_=>none
def lW (te:TI):Option (List D):=
 match te.zero.cells? with
 |some z=>iw [] z
 |none=>none
def elemOf (T:Nat→Option TI) (t:Nat):Option TI:=
 match T t with
 |some ti=>match ti.kd with
  |.slice e=>T e
  |_=>none
 |none=>none
def BB (T:Nat→Option TI) (t:Nat):Option Bool:=
 match T t with
 |some ti=>match ti.kd with
  |.int _=>some true
  |_=>some false
 |none=>none
def wrote (es:List (List D)) (off:Nat) (xs:List (List D)):List (List D):=es.take off++xs++es.drop (off+xs.length)
def eB (es:List (List D)) (off k:Nat):Prop:=off≤es.length∧(es=[]→k=0)
def su (size:Nat) (y:AV) (n:Nat) (bx:List ay):Option (Prop×Nat×List (List D)):=
 match y with
 |.vw b sz off n2 _ _=>match bx[b]? with
  |some (.row s es)=>bif Nat.beq s sz then some (off+min n2 n≤es.length,min n2 n,(es.drop off).take (min n2 n)) else none
  |some (.mH s es)=>bif Nat.beq s sz then some (off+min n2 n≤es.length,min n2 n,(es.drop off).take (min n2 n)) else none
  |_=>none
 |y=>match jQ size y bx with
  |some xs=>some (True,min xs.length n,xs.take (min xs.length n))
  |none=>none
def Aq (te:TI) (x y:AV) (bx:List ay):Option R:=
 match viewAt x with
 |some (b,sz,off,n,_,_)=>match bx[b]?,su te.size y n bx with
  |some (.row s es),some (cy,m,xs)=>bif Nat.beq s sz&&Nat.beq sz te.size then
   some ⟨cy∧eB es off m∧∀r∈xs,r.length=te.size,.d (.int .i64 m),
    some (bx.set b (.row sz (wrote es off xs)))⟩ else none
  |_,_=>none
 |none=>none
def BC (te:TI) (x:AV) (bx:List ay):Option R:=
 match viewAt x with
 |some (b,sz,off,n,_,_)=>match bx[b]?,lW te with
  |some (.row s es),some z=>bif Nat.beq s sz&&Nat.beq sz te.size&&eA te then
   some ⟨eB es off n,.dL [],some (bx.set b (.row sz (wrote es off (List.replicate n z))))⟩ else none
  |_,_=>none
 |none=>none
def HT (te:TI) (b sz off n c:Nat) (ex:Bool) (m:Int) (bx:List ay):Option R:=
 match bx[b]?,lW te with
 |some (.row s es),some z=>bif Nat.beq s sz&&Nat.beq sz te.size&&eA te&&ex then
  some ⟨0≤m∧c<n+m.toNat∧off+n≤es.length∧(n+m.toNat)*te.bytes≤140737488355328,
   .vw bx.length sz 0 (n+m.toNat) (n+m.toNat) false,some (bx++[.row sz ((es.drop off).take n++List.replicate m.toNat z)])⟩ else none
 |_,_=>none
def pV (te:TI) (b sz off n c:Nat) (ex:Bool) (y:AV) (bx:List ay):Option R:=
 match bx[b]?,jQ te.size y bx with
 |some (.row s es),some xs=>bif Nat.beq s sz&&Nat.beq sz te.size then
  some ⟨eB es (off+n) xs.length∧n+xs.length≤c∧∀r∈xs,r.length=te.size,.vw b sz off (n+xs.length) c ex,
   some (bx.set b (.row sz (wrote es (off+n) xs)))⟩ else none
 |_,_=>none
def whole (es:List (List D)) (off n c:Nat) (ex:Bool):Prop:=off=0∧n=es.length∧(es=[]→c=0∧ex=true)
def C1 (te:TI) (n m:Int) (bx:List ay):Option R:=
 match lW te with
 |some z=>bif eA te then some ⟨0≤n∧n=m∧n.toNat*te.bytes≤140737488355328,.ow bx.length te.size n.toNat,some (bx++[.row te.size (List.replicate n.toNat z)])⟩ else none
 |none=>none
def lX (T:Nat→Option TI) (ev:Operand→AV) (o:Op) (bx:List ay):Option R:=
 match o with
 |.slice ty x lo hi mx=>match ev x,elemOf T ty,zR ev lo,zR ev hi,zR ev mx with
  |.vw b sz off n c ex,some te,some l,some h,some none=>bif Nat.beq te.size sz then
   some ⟨dF n c l h,.vw b sz (off+aS l) (aM n h-aS l) (c-aS l) ex,none⟩ else none
  |.vw b sz off n c ex,some te,some l,some (some h),some (some m)=>bif Nat.beq te.size sz then
   some ⟨bJ c l (some h)∧h≤m∧m≤c,.vw b sz (off+aS l) (h.toNat-aS l) (m.toNat-aS l) true,none⟩ else none
  |_,_,_,_,_=>none
 |.indexAddr ty x i=>match ev x,elemOf T ty,ev i with
  |.vw b sz off n _ _,some te,.d (.int _ z)=>bif Nat.beq te.size sz then some ⟨0≤z∧z<n,.rp b sz (off+z.toNat) 0,none⟩ else none
  |_,_,_=>none
 |.makeSlice ty a b=>match elemOf T ty,ev a,ev b with
  |some te,.d (.int .i64 n),.d (.int .i64 m)=>C1 te n m bx
  |_,_,_=>none
 |.call {callee:=.builtin b,args,argTypes}=>match b,args.toList.map ev,argTypes.toList with
  |.len,[.vw _ _ _ n _ _],[ty]=>match elemOf T ty with
   |some _=>R.pure (.d (.int .i64 n))
   |none=>none
  |.cap,[.vw _ _ _ _ c true],[ty]=>match elemOf T ty with
   |some _=>R.pure (.d (.int .i64 c))
   |none=>none
  |.copy,[x,y],ty::_=>match elemOf T ty with
   |some te=>Aq te x y bx
   |none=>none
  |.clear,[x],ty::_=>match elemOf T ty with
   |some te=>BC te x bx
   |none=>none
  |.append,[.vw b sz off n c ex,y],[ty,u]=>match elemOf T ty,BB T u with
   |some te,some true=>match y with
    |.d (.int .i64 m)=>HT te b sz off n c ex m bx
    |_=>none
   |some te,some false=>bif sameBox b y then pV te b sz off n c ex y bx else
    match bx[b]?,kw T ty (.ow b sz n) y bx with
    |some (.row _ es),some ⟨c1,v,aP⟩=>some ⟨c1∧whole es off n c ex,v,aP⟩
    |_,_=>none
   |_,_=>none
  |_,_,_=>none
 |_=>none
def AV.isAgg:AV→Bool
 |.agg _=>true
 |_=>false
def jk:List AV→Bool
 |[]=>true
 |x::_=>x.sc||x.isAgg
def kx (T:Nat→Option TI) (ev:Operand→AV) (o:Op) (bx:List ay):Option R:=
 match o with
 |.move x=>R.pure (ev x)
 |.assign x=>R.pure (ev x)
 |.alloc t=>match T t with
  |some ti=>match ti.zero.cells? with
   |some cs=>some ⟨True,.ptr bx.length 0,some (bx++[.var cs])⟩
   |none=>none
  |none=>none
 |.box _ x=>match (ev x).cells? with
  |some cs=>some ⟨True,.ptr bx.length 0,some (bx++[.var cs])⟩
  |none=>none
 |.load t a=>match T t with
  |some ti=>n8 ti (ev a) bx
  |none=>none
 |.store t a x=>match T t with
  |some ti=>qV ti (ev a) (ev x) bx
  |none=>none
 |.build t parts=>BA T t (parts.toList.map fun p=>(p.1,ev p.2))
 |.buildSlice t n parts=>fw T t n (parts.toList.map fun p=>(p.1,ev p.2)) bx
 |.fieldAddr t x f=>match T t with
  |some ti=>match w8 ti.kd f with
   |some (o,ft)=>match T ft with
    |some tf=>bif Nat.beq tf.size 0 then none else
     match ev x with
     |.ptr b off=>R.pure (.ptr b (off+o))
     |.rp b sz i j=>R.pure (.rp b sz i (j+o))
     |.ep ds=>R.when (o≤ds.length) (.ep (ds.drop o))
     |_=>none
    |none=>none
   |none=>none
  |none=>none
 |.indexAddr t x i=>match T t with
  |some ti=>match ti.kd,ev i with
   |.array n e,.d (.int _ z)=>match T e with
    |some te=>match ev x with
     |.ptr b off=>R.when (0≤z∧z<n) (.ptr b (off+z.toNat*te.size))
     |.rp b sz a j=>R.when (0≤z∧z<n) (.rp b sz a (j+z.toNat*te.size))
     |.ep ds=>R.when (0≤z∧z<n∧z.toNat*te.size≤ds.length) (.ep (ds.drop (z.toNat*te.size)))
     |_=>none
    |none=>none
   |.slice e,.d (.int _ z)=>match T e,ev x with
    |some te,.ow b sz n=>bif Nat.beq te.size sz then R.when (0≤z∧z<n) (.rp b sz z.toNat 0) else none
    |_,_=>none
   |_,_=>none
  |none=>none
 |.field t x f=>match T t with
  |some ti=>match w8 ti.kd f with
   |some (o,ft)=>match T ft,ev x with
    |some tf,.agg cs=>match cB tf.kd.isAgg tf.size (cs.drop o) with
     |some v=>R.pure v
     |none=>none
    |_,_=>none
   |none=>none
  |none=>none
 |.index t x i=>match T t with
  |some ti=>match ti.kd,ev x,ev i with
   |.str,.d (.str s),.d (.int _ z)=>R.when (0≤z∧z<s.length) (.d (.int .u8 (s.getD z.toNat 0).toNat))
   |.array n e,.agg cs,.d (.int _ z)=>match T e with
    |some te=>match cB te.kd.isAgg te.size (cs.drop (z.toNat*te.size)) with
     |some v=>R.when (0≤z∧z<n) v
     |none=>none
    |none=>none
   |_,_,_=>none
  |none=>none
 |.extract x i=>match ev x with
  |.dL vs=>match vs[i]? with
   |some v=>R.pure v
   |none=>none
  |_=>none
 |.binOp op t x y _=>match ev x,ev y with
  |.agg xs,.agg ys=>match op with
   |.eql=>(zQ T 8 t (.agg xs) (.agg ys)).bind fun d=>R.pure (.d (.bool d))
   |.neq=>(zQ T 8 t (.agg xs) (.agg ys)).bind fun d=>R.pure (.d (.bool (!d)))
   |_=>none
  |.d (.bool p),.d (.bool q)=>match T t,op with
   |some ti,.eql=>match ti.kd with
    |.bool=>R.pure (.d (.bool (p==q)))
    |_=>none
   |some ti,.neq=>match ti.kd with
    |.bool=>R.pure (.d (.bool (!(p==q))))
    |_=>none
   |_,_=>none
  |.qx _ _,.k .nilIface=>match T t,op with
   |some ti,.eql=>match ti.kd with
    |.iface=>R.pure (.d (.bool false))
    |_=>none
   |some ti,.neq=>match ti.kd with
    |.iface=>R.pure (.d (.bool true))
    |_=>none
   |_,_=>none
  |.k .nilIface,.k .nilIface=>match y with
   |.const _=>match T t,op with
    |some ti,.eql=>match ti.kd with
     |.iface=>R.pure (.d (.bool true))
     |_=>none
    |some ti,.neq=>match ti.kd with
     |.iface=>R.pure (.d (.bool false))
     |_=>none
    |_,_=>none
   |_=>none
  |x,y=>match Li op x y with
   |some (c,d)=>R.when c (.d d)
   |none=>none
 |.unOp op _ x=>(Td op (ev x)).bind fun d=>R.pure (.d d)
 |.convert s d x=>vg T s d (ev x) bx
 |.slice t x lo hi mx=>match zR ev lo,zR ev hi,zR ev mx with
  |some l,some h,some m=>ou T t (ev x) l h m bx
  |_,_,_=>none
 |.makeFunc (.func f) first iZ=>bif first.toList.isEmpty then (bif jk (iZ.toList.map ev) then R.pure (.fn f (iZ.toList.map ev)) else none) else R.pure (.fn f (.dL (first.toList.map ev)::iZ.toList.map ev))
 |.makeInterface t x=>match T t with
  |some ti=>bif ti.kd.plain then R.pure (.qx t (ev x)) else none
  |none=>none
 |.typeAssert x _ u ok=>match T u with
  |some tu=>bif tu.kd.plain&&tu.zero.cells?.isSome then
   match ev x with
   |.qx t v=>bif Nat.beq t u then R.pure (bif ok then .dL [v,.d (.bool true)] else v) else bif ok then R.pure (.dL [tu.zero,.d (.bool false)]) else none
   |.k .nilIface=>bif ok then R.pure (.dL [tu.zero,.d (.bool false)]) else none
   |_=>none
   else none
  |none=>none
 |.nilCheck x=>match ev x with
  |.ptr b o=>R.pure (.ptr b o)
  |.rp b s i j=>R.pure (.rp b s i j)
  |.ep ds=>R.pure (.ep ds)
  |.fn f cs=>R.pure (.fn f cs)
  |_=>none
 |.call {callee:=.builtin b,args,argTypes}=>iz T b (args.toList.map ev) argTypes.toList bx
 |_=>none
def CW (T:Nat→Option TI) (ev:Operand→AV) (o:Op) (bx:List ay):Option R:=
 bif iA ev o then lX T ev o bx else kx T ev o bx
def fz (bx:List ay):AV→Option AV
 |.cl es=>some (.d (.sl es))
 |.ow b sz n=>(AV.qy bx (.ow b sz n)).map AV.d
 |.vw b sz off n c ex=>((AV.vw b sz off n c ex).rows bx).map fun es=>.d (.sl es)
 |v=>some v
def FH (bx:List ay):List AV→Option (List AV)
 |[]=>some []
 |x::xs=>match fz bx x,FH bx xs with
  |some y,some ys=>some (y::ys)
  |_,_=>none
def oy (bx:List ay):AV→Option AV
 |.agg cs=>(FH bx cs).map .agg
 |v=>fz bx v
def kT (bx:List ay):AV→List ay
 |.agg cs=>dS bx cs
 |v=>v.cq bx
def eL (bx:List ay):List AV→Option (List AV)
 |[]=>some []
 |x::xs=>match oy bx x,eL bx xs with
  |some y,some ys=>some (y::ys)
  |_,_=>none
def eV (bx:List ay):List AV→List ay
 |[]=>bx
 |x::xs=>eV (kT bx x) xs
def AV.flat:AV→Bool
 |.d (.bool _)|.d (.int _ _)|.d (.str _)|.k _=>true
 |.agg cs=>xg cs
 |.dL cs=>oz cs
 |_=>false
where
 xg:List AV→Bool
  |[]=>true
  |.d (.bool _)::r|.d (.int _ _)::r|.d (.str _)::r|.k _::r=>xg r
  |_=>false
 oz:List AV→Bool
  |[]=>true
  |.d (.bool _)::r|.d (.int _ _)::r|.d (.str _)::r|.k _::r=>oz r
  |.agg cs::r=>xg cs&&oz r
  |_=>false
def dm:List AV→Prop
 |[]=>True
 |x::xs=>x.ok∧dm xs
def fu (G:Nat→Option (List D)) (sl:List (Nat×AV)) (xs:List Operand):List AV:=xs.map (bU G sl)
def kU:AV→List AV→Option (Nat×List AV)
 |.fn f (.dL fs::iZ),args=>some (f,fs++args++iZ)
 |.fn f iZ,args=>bif jk iZ then some (f,args++iZ) else none
 |.d (.fn f),args=>some (f,args)
 |_,_=>none
def AV.shut:AV→Bool
 |.any|.d _|.k _|.ep _|.cl _=>true
 |.agg cs|.dL cs|.fn _ cs=>lY cs
 |.qx _ x|.cond _ x=>x.shut
 |.ptr _ _|.rp _ _ _ _|.ow _ _ _|.vw _ _ _ _ _ _|.zP _=>false
where
 lY:List AV→Bool
  |[]=>true
  |x::xs=>x.shut&&lY xs
def D.flat:D→Bool
 |.sl _=>false
 |.mp _ _=>false
 |_=>true
structure HU (FC:Nat→List AV→List ay→iy→List ay→Prop) (f:Nat) (args:List AV) (bx:List ay)
 (K:AV→List ay→Prop) (Kp:AV→List ay→Prop):Prop where
 ok:∃args' oA res oB,(args'=args∧oA=bx∨eL bx args=some args'∧oA=eV bx args)∧FC f args' oA res oB∧
  (match res with|.ret v=>K v oB|.Jl v=>Kp v oB)
structure C2 (FC:Nat→List AV→List ay→iy→List ay→Prop) (f:Nat) (args:List AV) (bx:List ay)
 (K:AV→List ay→Prop):Prop where
 ok:∃args',eL bx args=some args'∧AV.shut.lY args'=true∧
  (
   (∃v,FC f args' [] (.ret v) []∧(v.flat=true∨eL [] args=some args'∧v.shut=true)∧K v bx)∨
   (∃sz n es,FC f args' [] (.ret (.ow 0 sz n)) [.row sz es]∧((∀r∈es,∀x∈r,x.flat=true)∨eL [] args=some args')∧K (.ow bx.length sz n) (bx++[.row sz es])))
structure Lj (FC:Nat→List AV→List ay→iy→List ay→Prop) (kO:Prop) (f:Nat) (args:List AV) (bx:List ay)
 (K:AV→List ay→Prop) (Kp:AV→List ay→Prop):Prop where
 ok:kO∧(C2 FC f args bx K∨HU FC f args bx K Kp)
mutual
def AV.loose (dt:Bool):AV→Bool
 |.any=>true
 |.d (.bool _)|.d (.int _ _)|.d (.str _)|.k _=>true
 |.d _=>dt
 |.ptr _ _=>true
 |.rp _ _ _ _=>true
 |.agg cs=>AV.mu dt cs
 |.fn _ cs=>AV.mu dt cs
 |.qx _ x=>AV.loose dt x
 |_=>false
def AV.mu (dt:Bool):List AV→Bool
 |[]=>true
 |x::xs=>bif AV.loose dt x then AV.mu dt xs else false
end
def Ll (bx:List ay) (i:Nat):Bool:=
 match bx[i]? with
 |some b=>b.born
 |none=>false
def AV.bN (bx:List ay):AV→Bool
 |.any|.d _|.k _|.ep _|.cl _=>true
 |.agg cs|.dL cs|.fn _ cs=>cX bx cs
 |.qx _ x|.cond _ x=>x.bN bx
 |.ptr b _|.rp b _ _ _|.ow b _ _|.vw b _ _ _ _ _|.zP b=>Ll bx b
where
 cX (bx:List ay):List AV→Bool
  |[]=>true
  |x::xs=>x.bN bx&&cX bx xs
def dO (dt:Bool) (bx:List ay):List ay→Bool
 |[]=>true
 |.var cs::r=>bif AV.mu dt cs&&AV.bN.cX bx cs then dO dt bx r else false
 |.dead::r=>dO dt bx r
 |.bt::r=>dO dt bx r
 |_::_=>false
structure lZ (FC:Nat→List AV→List ay→iy→List ay→Prop) (f:Nat) (args:List AV) (bx:List ay) (v:AV):Prop where
 ok:∃args' iY,eL bx args=some args'∧AV.bN.cX iY args'=true∧(∃dt,dO dt iY iY=true∧(dt=true→eL [] args=some args'))∧
  (∀(i:Nat) (b:ay),iY[i]?=some b→b.born=true→∃b',bx[i]?=some b'∧b'.born=true∧(b.live=true→b'=b))∧FC f args' iY (.ret v) iY∧
  (v.flat=true∨eL [] args=some args'∧v.shut=true)
structure Qz (FC:Nat→List AV→List ay→iy→List ay→Prop) (g:Bool) (kO:Prop) (f:Nat) (args:List AV) (bx:List ay)
 (K:AV→Prop):Prop where
 ok:∃v,(g=true→kO∧lZ FC f args bx v)∧K v
structure mI (g:Bool) (c:Prop) (ds:List D) (K:List D→Prop):Prop where
 ok:∃ds',(g=true→c∧ds=ds')∧K ds'
structure ue (v:AV) (A B:Unit→Prop):Prop where
 ok:match v with
 |.d (.bool p)=>(p=true→A ())∧(p=false→B ())
 |_=>False
structure HV (FI:Prop) (K:Bool→Prop):Prop where
 ok:∀b:Bool,(b=true→FI)→K b
def Jm:AV→Option Prop
 |.d (.sl es)=>some (es=[])
 |.cl es=>some (es=[])
 |.ow _ _ n=>some (n=0)
 |_=>none
structure Lm (str:List UInt8) (pos:Nat) (A:Nat→Nat→Prop) (B:Unit→Prop):Prop where
 ok:(pos<str.length→A (Utf8.decode ⟨str.toArray⟩ pos).1 (Utf8.decode ⟨str.toArray⟩ pos).2)∧(¬pos<str.length→B ())
def sw (K:St→Prop) (Q:Ex→St→Prop) (e:Ex) (s:St):Prop:=
 match e with
 |.normal=>K s
 |e=>Q e s
def xj (T:Nat→Option TI) (t:Nat) (x i:AV):Option (Prop×List D):=
 match T t with
 |some ti=>match ti.kd,x,i with
  |.slice e,.d (.sl es),.d (.int _ z)=>match T e with
   |some te=>some (0≤z∧z<es.length∧(∀r∈es,r.length=te.size),es.getD z.toNat [])
   |none=>none
  |.slice e,.cl es,.d (.int _ z)=>match T e with
   |some te=>some (0≤z∧z<es.length∧(∀r∈es,r.length=te.size),es.getD z.toNat [])
   |none=>none
  |_,_,_=>none
 |none=>none
def mJ:Kd→D→Bool
 |.int k,.int j _=>j==k
 |.str,.str _=>true
 |_,_=>false
def n9:D→D→Bool
 |.int j a,.int k b=>j==k&&decide (a=b)
 |.str a,.str b=>decide (a=b)
 |_,_=>false
def rowIs (kd:Kd) (n:Nat) (r:List D):Prop:=∃x ds,r=x::ds∧mJ kd x=true∧ds.length=n
def uf:List (List D)→D→Option (List D)
 |[],_=>none
 |(x::ds)::r,k=>bif n9 k x then some ds else uf r k
 |[]::r,k=>uf r k
def qz:List (List D)→D→List D→List (List D)
 |[],k,v=>[k::v]
 |(x::ds)::r,k,v=>bif n9 k x then (k::v)::r else (x::ds)::qz r k v
 |[]::r,k,v=>[]::qz r k v
def xk (T:Nat→Option TI) (t:Nat) (m:AV) (bx:List ay):Option (TI×TI×Bool×List (List D)):=
 match T t with
 |some ti=>match ti.kd with
  |.map k e=>match T k,T e,m with
   |some tk,some te,.d (.mp ag es)=>some (tk,te,ag,es)
   |some tk,some te,.k .Bz=>some (tk,te,te.kd.isAgg,[])
   |some tk,some te,.zP b=>match bx[b]? with
    |some (.mp ag es)=>some (tk,te,ag,es)
    |_=>none
   |_,_,_=>none
  |_=>none
 |none=>none
def ug (tk te:TI) (ag:Bool) (es:List (List D)) (k:D):Prop:=ag=te.kd.isAgg∧mJ tk.kd k=true∧∀r∈es,rowIs tk.kd te.size r
structure FP (g:Bool) (c:Prop) (o:Option (List D)) (K:Option (List D)→Prop):Prop where
 ok:∃o',(g=true→c∧o=o')∧K o'
def nt (te:TI) (zS:Bool) (K:AV→Prop):Option (List D)→Prop
 |none=>match te.zero.cells? with
  |some _=>K (bif zS then .dL [te.zero,.d (.bool false)] else te.zero)
  |none=>False
 |some ds=>match cB te.kd.isAgg te.size (ds.map .d) with
  |some v=>K (bif zS then .dL [v,.d (.bool true)] else v)
  |none=>False
def BD (T:Nat→Option TI) (t:Nat) (m:AV) (bx:List ay):Option (Nat×TI×TI×Bool×List (List D)):=
 match m,xk T t m bx with
 |.zP b,some (tk,te,ag,es)=>some (b,tk,te,ag,es)
 |_,_=>none
section
variable (FC:Nat→List AV→List ay→iy→List ay→Prop) (T:Nat→Option TI) (G:Nat→Option (List D)) (N:Nat)
def oC (o:Oper) (s:St) (K:AV→List ay→Prop) (Q:Ex→St→Prop):Prop:=
 match o.op with
 |.pick c a b=>match (bU G s.sl c).aL with
  |.d (.bool p)=>((bU G s.sl c).ok∧(p=true→(bU G s.sl a).ok)∧(p=false→(bU G s.sl b).ok))∧K (w9 p (bU G s.sl a).aL (bU G s.sl b).aL) s.bx
  |_=>False
 |.call {callee:=.value f,args,..}=>match kU (bU G s.sl f).aL (args.toList.map fun x=>(bU G s.sl x).aL) with
  |some (i,as)=>Lj FC ((bU G s.sl f).ok∧dm (fu G s.sl args.toList)) i as s.bx (fun v bx=>K v bx) (fun v bx=>Q (.panic v) ⟨[],bx⟩)
  |none=>False
 |.panic x=>match (bU G s.sl x).aL with
  |.qx t v=>(bU G s.sl x).ok∧Q (.panic (.qx t v)) ⟨[],s.bx⟩
  |_=>False
 |.range t x=>match T t with
  |some ti=>match ti.kd,(bU G s.sl x).aL with
   |.str,.d (.str str)=>(bU G s.sl x).ok∧K (.ptr s.bx.length 0) (s.bx++[.it str 0])
   |_,_=>False
  |none=>False
 |.next it true=>match (bU G s.sl it).aL with
  |.ptr b 0=>match s.bx[b]? with
   |some (.it str pos)=>(bU G s.sl it).ok∧Lm str pos (fun c wd=>K (.dL [.d (.bool true),.d (.int .i64 pos),.d (.int .i32 c)]) (s.bx.set b (.it str (pos+wd)))) (fun _=>K (.dL [.d (.bool false)]) s.bx)
   |_=>False
  |_=>False
 |.binOp .eql t x (.const (.slice none 0 0)) _=>match T t,Jm (bU G s.sl x).aL with
  |some ti,some FI=>match ti.kd with
   |.slice _=>(bU G s.sl x).ok∧HV FI (fun b=>K (.d (.bool b)) s.bx)
   |_=>False
  |_,_=>False
 |.binOp .neq t x (.const (.slice none 0 0)) _=>match T t,Jm (bU G s.sl x).aL with
  |some ti,some FI=>match ti.kd with
   |.slice _=>(bU G s.sl x).ok∧HV FI (fun b=>K (.d (.bool (!b))) s.bx)
   |_=>False
  |_,_=>False
 |.makeMap ty none=>match T ty with
  |some ti=>match ti.kd with
   |.map _ e=>match T e with
    |some te=>K (.zP s.bx.length) (s.bx++[.mp te.kd.isAgg []])
    |none=>False
   |_=>False
  |none=>False
 |.lookup ty m k zS=>match xk T ty (bU G s.sl m).aL s.bx,(bU G s.sl k).aL with
  |some (tk,te,ag,es),.d kd=>FP true (((bU G s.sl m).ok∧(bU G s.sl k).ok)∧ug tk te ag es kd) (uf es kd) (nt te zS (fun v=>K v s.bx))
  |_,_=>False
 |.mapUpdate ty m k x=>match BD T ty (bU G s.sl m).aL s.bx,(bU G s.sl k).aL,(bU G s.sl x).aL.cells? with
  |some (b,tk,te,ag,es),.d kd,some vs=>match cr vs,iw s.bx vs with
   |true,some ds=>(((bU G s.sl m).ok∧(bU G s.sl k).ok∧(bU G s.sl x).ok)∧ug tk te ag es kd∧ds.length=te.size∧(bU G s.sl x).aL.isAgg=ag)∧K .any (s.bx.set b (.mp ag (qz es kd ds)))
   |_,_=>False
  |_,_,_=>False
 |op=>
  match (match op with|.indexAddr t x i=>xj T t (bU G s.sl x).aL (bU G s.sl i).aL|_=>none) with
  |some (c,ds)=>mI true (dm (fu G s.sl op.operands.toList)∧c) ds (fun ds=>K (.ep ds) s.bx)
  |none=>match CW T (fun x=>(bU G s.sl x).aL) op s.bx with
   |some ⟨c,v,b⟩=>(dm (fu G s.sl op.operands.toList)∧c)∧K v (dz s.bx b)
   |none=>False
def Ar (T:Nat→Option TI) (x:AV) (nm:String) (as:List AV):Option (Nat×List AV):=
 match x with
 |.qx t v=>match T t with
  |some ti=>match ti.inv with
   |some (n,i)=>if n=nm then some (i,v::as) else none
   |none=>none
  |none=>none
 |_=>none
def uh (g:Bool) (o:Oper) (s:St) (K:AV→Prop):Prop:=
 match o.op with
 |.pick c a b=>match (bU G s.sl c).aL with
  |.d (.bool p)=>(g=true→((bU G s.sl c).ok∧(p=true→(bU G s.sl a).ok)∧(p=false→(bU G s.sl b).ok)))∧K (w9 p (bU G s.sl a).aL (bU G s.sl b).aL)
  |_=>False
 |.call {callee:=.value f,args,..}=>match kU (bU G s.sl f).aL (args.toList.map fun x=>(bU G s.sl x).aL) with
  |some (i,as)=>Qz FC g ((bU G s.sl f).ok∧dm (fu G s.sl args.toList)) i as s.bx (fun v=>K v)
  |none=>False
 |.call {callee:=.invoke r nm,args,..}=>match Ar T (bU G s.sl r).aL nm (args.toList.map fun x=>(bU G s.sl x).aL) with
  |some (i,as)=>Qz FC g ((bU G s.sl r).ok∧dm (fu G s.sl args.toList)) i as s.bx (fun v=>K v)
  |none=>False
 |op=>
  match (match op with|.indexAddr t x i=>xj T t (bU G s.sl x).aL (bU G s.sl i).aL|_=>none) with
  |some (c,ds)=>mI g (dm (fu G s.sl op.operands.toList)∧c) ds (fun ds=>K (.ep ds))
  |none=>match CW T (fun x=>(bU G s.sl x).aL) op s.bx with
   |some ⟨c,v,none⟩=>(g=true→dm (fu G s.sl op.operands.toList)∧c)∧K v
   |_=>False
def stepG (g:Bool) (o:Oper) (s:St) (K:AV→Prop):Prop:=(g=false∧∃v,K v)∨uh FC T G g o s K∨
 ∃c es,zW T (fun x=>(bU G s.sl x).aL) o.op=some (c,es)∧(g=true→dm (fu G s.sl o.op.operands.toList)∧c)∧K (.d (.sl es))
def guardOf (sl:List (Nat×AV)) (ops:List Oper) (j:Nat) (want:Bool):Option Bool:=
 match ops[j]? with
 |some o=>match o.dst with
  |some t=>match fU t sl with
   |.d (.bool q)=>some (bif want then q else !q)
   |.cond g (.d (.bool q))=>some (g&&(bif want then q else !q))
   |_=>none
  |none=>none
 |none=>none
def qW (g:Bool) (o:Oper) (s:St) (K:AV→Prop):Prop:=
 match o.op with
 |.call {callee:=.value f,args,..}=>match kU (bU G s.sl f).aL (args.toList.map fun x=>(bU G s.sl x).aL) with
  |some (i,as)=>∃v,(g=true→((bU G s.sl f).ok∧dm (fu G s.sl args.toList))∧FC i as s.bx (.ret v) s.bx)∧K v
  |none=>False
 |_=>False
def C3 (ops:List Oper):List Oper→(Ex→St→Prop)→St→Prop
 |[],Q,s=>Q .normal s
 |o::rest,Q,s=>bif gx N o.dst then
  match o.guard with
  |none=>oC FC T G o s (fun v bx=>C3 ops rest Q ⟨ej o.dst v s.sl,bx⟩) Q
  |some (j,want)=>match guardOf s.sl ops j want with
   |some g=>stepG FC T G g o s (fun v=>C3 ops rest Q ⟨ej o.dst (.cond g v) s.sl,s.bx⟩)∨
    qW FC G g o s (fun v=>C3 ops rest Q ⟨ej o.dst (.cond g v) s.sl,s.bx⟩)
   |none=>False
  else False
def pW (acc:List Nat) (o:Oper):Nat:=
 o.after.toList.foldl (fun s e=>bif Region.binds .any e then s ||| 2^e.on ||| acc.getD e.on 0 else s) 0
def cD:List Oper→List Nat→List Nat
 |[],acc=>acc
 |o::r,acc=>cD r (acc++[pW acc o])
def barrier (b:List Nat) (i:Nat):Bool:=
 Nat.beq (b.getD i 0) (2^i-1)&&(b.drop (i+1)).all (fun x=>x.testBit i)
def nu:List Oper→Nat
 |[]=>0
 |o::r=>(match o.op with|.alloc _=>1|.box _ _=>1|.call _=>1|_=>0)+nu r
def gL (T:Nat→Option TI) (G:Nat→Option (List D)) (sl:List (Nat×AV)) (o:Oper):Option (List AV):=
 match o.guard with
 |some _=>none
 |none=>match o.op with
  |.alloc t=>match T t with
   |some ti=>ti.zero.cells?
   |none=>none
  |.box _ x=>(bU G sl x).cells?
  |_=>none
def gr (ops:Array Oper) (b:List Nat):Nat→List Oper→Bool
 |_,[]=>true
 |i,o::r=>(o.after.toList.all fun e=>!Region.binds .any e||Nat.blt e.on i)&&pX ops (b.getD i 0) o i&&gr ops b (i+1) r
where
 pX (ops:Array Oper) (m:Nat) (o:Oper):Nat→Bool
  |0=>true
  |j+1=>(m.testBit j||(match ops[j]? with|some p=>p.apart ops o|none=>false))&&pX ops m o j
def eM (pre:List Nat) (i:Nat) (o:Oper):Oper:=
 bif pre.contains i then o else {o with after:=o.after++((pre.filter (fun p=>Nat.blt p i)).map (fun p=>({on:=p,ground:=.data}:Edge))).toArray}
def bW (pre:List Nat):Nat→List Oper→List Oper
 |_,[]=>[]
 |i,o::r=>eM pre i o::bW pre (i+1) r
def iB (ops:Array Oper):List Nat→List Nat→Bool
 |_,[]=>true
 |done,p::r=>match ops[p]? with
  |some o=>!done.contains p&&o.guard.isNone&&(o.after.all fun e=>!Region.binds .any e||done.contains e.on)&&
   ((List.range ops.size).all fun j=>Nat.beq j p||done.contains j||(match ops[j]? with|some q=>(q.after.any fun e=>Region.binds .any e&&Nat.beq e.on p)||o.apart ops q|none=>true))&&iB ops (p::done) r
  |none=>false
def l5 (ops:Array Oper):Bool:=ops.all fun o=>match o.op with|.select _ _=>false|_=>true
def Ot (G:Nat→Option (List D)) (sl:List (Nat×AV)) (o:Oper):Option AV:=
 match o.op with
 |.move x=>some (bU G sl x)
 |.binOp .add _ x y _=>match bU G sl x,bU G sl y with
  |.d (.int k a),.d (.int k' b)=>bif k==k' then some (.d (.int k (k.wrap (a+b)))) else none
  |_,_=>none
 |.binOp .sub _ x y _=>match bU G sl x,bU G sl y with
  |.d (.int k a),.d (.int k' b)=>bif k==k' then some (.d (.int k (k.wrap (a-b)))) else none
  |_,_=>none
 |_=>none
def As (G:Nat→Option (List D)) (N:Nat) (ops:List Oper):List Nat→List (Nat×AV)→Bool
 |[],_=>true
 |p::r,sl=>match ops[p]? with
  |some o=>match Ot G sl o with
   |some v=>gx N o.dst&&As G N ops r (ej o.dst v sl)
   |none=>false
  |none=>false
def xo:Op→Bool
 |.move _=>true
 |.extract _ _=>true
 |_=>false
def BE (ops:Array Oper) (p:Nat) (o:Oper):Bool:=
 match ops[p]? with
 |some q=>q.after.all fun e=>!Region.binds .any e||o.after.any fun e'=>Region.binds .any e'&&Nat.beq e'.on e.on
 |none=>false
def jK (ops:Array Oper) (late:List Nat) (i:Nat) (o:Oper):Oper:=
 bif late.contains i then o else {o with after:=o.after++((late.filter (fun p=>Nat.blt p i&&BE ops p o)).map (fun p=>({on:=p,ground:=.data}:Edge))).toArray}
def gC (ops:Array Oper) (late:List Nat):Nat→List Oper→List Oper
 |_,[]=>[]
 |i,o::r=>jK ops late i o::gC ops late (i+1) r
def sx (ops:Array Oper) (late:List Nat):Bool:=
 late.all fun p=>match ops[p]? with
  |some o=>xo o.op&&o.guard.isNone&&((List.range ops.size).all fun j=>Nat.beq j p||(o.after.any fun e=>Region.binds .any e&&Nat.beq e.on j)||(match ops[j]? with|some q=>(q.after.any fun e=>Region.binds .any e&&Nat.beq e.on p)||o.apart ops q|none=>true))
  |none=>false
def Ou (u:Nat) (v:AV):List (Nat×AV)→List (Nat×AV)
 |[]=>[(u,v)]
 |(s,x)::r=>bif Nat.beq u s then (u,v)::r else bif Nat.blt u s then (u,v)::(s,x)::r else (s,x)::Ou u v r
def zX:List (Nat×AV)→List (Nat×AV)
 |[]=>[]
 |(u,v)::r=>Ou u v (zX r)
structure Nd where
 ls:List Bool
 ps:List (Nat×Nat)
def Ln (k i:Nat):List (Nat×Nat)→Bool
 |[]=>false
 |(p,j)::r=>(Nat.beq p k&&Nat.beq j i)||Ln k i r
def Te:List Bool→List Bool→Bool
 |[],[]=>true
 |a::l,b::m=>(a==b)&&Te l m
 |_,_=>false
def Lo (ops:Array Oper) (pl:List Nd) (z:Nat):Nat→List Nd→Bool
 |_,[]=>true
 |k,nd::r=>(match Region.ready .any ops nd.ls.toArray with
  |[]=>Nat.beq k z
  |rs=>rs.all fun i=>Nat.blt i nd.ls.length&&(nd.ls.getD i true==false)&&pl.any fun e=>Te e.ls (nd.ls.set i true)&&Ln k i e.ps)&&Lo ops pl z (k+1) r
def C4 (ops:Array Oper) (pl:List Nd):Bool:=Lo ops pl pl.length 0 (⟨List.replicate ops.size false,[]⟩::pl)
def bR (n m:Nat) (ps:List (Nat×Nat)):Nd:=⟨(List.range n).map fun i=>m.testBit i,ps⟩
inductive OT where
 |done
 |one (i:Nat) (t:OT)
 |more (i:Nat) (t r:OT)
def OT.HW:OT→List Nat
 |.done=>[]
 |.one i _=>[i]
 |.more i _ r=>i::r.HW
def OT.depth:OT→Nat
 |.done=>0
 |.one _ t=>t.depth+1
 |.more _ t r=>max (t.depth+1) r.depth
def OT.fit (ops:Array Oper):OT→Bool→Array Bool→Bool
 |.done,top,listed=>!top||(Region.ready .any ops listed).isEmpty
 |.one i t,top,listed=>(!top||Region.ready .any ops listed==[i])&&t.fit ops true (listed.setIfInBounds i true)
 |.more i t r,top,listed=>(!top||Region.ready .any ops listed==i::r.HW)&&(t.fit ops true (listed.setIfInBounds i true)&&r.fit ops false listed)
def OT.fits (tr:OT) (pre:List Nat) (ops:List Oper):Bool:=Nat.ble tr.depth ops.length&&tr.fit (bW pre 0 ops).toArray true (Array.replicate ops.length false)
structure HX (ops:List Oper):Prop where
 ok:gr ops.toArray (cD ops []) 0 ops=true
def kV (o:Oper) (sl:List (Nat×AV)) (gD:List ay) (x:Nat) (K:AV→ay→Prop):Prop:=
 ∃f args ats i as args' sz n es,o.op=.call {callee:=.value f,args:=args,argTypes:=ats}∧kU (bU G sl f).aL (args.toList.map fun x=>(bU G sl x).aL)=some (i,as)∧
  ((bU G sl f).ok∧dm (fu G sl args.toList))∧eL gD as=some args'∧AV.shut.lY args'=true∧FC i args' [] (.ret (.ow 0 sz n)) [.row sz es]∧
  ((∀r∈es,∀x∈r,x.flat=true)∨eL [] as=some args')∧gD[x]?=some .bt∧K (.ow x sz n) (.row sz es)
def mK (ops:List Oper) (b:List Nat) (base:Nat):List ay→Nat→Nat→List Oper→(Ex→St→Prop)→St→Prop
 |_,_,_,[],Q,s=>Q .normal s
 |gD,k,i,o::rest,Q,s=>bif gx N o.dst then
  bif barrier b i then match o.guard with
   |none=>oC FC T G o s (fun v bx=>mK ops b base bx k (i+1) rest Q ⟨ej o.dst v s.sl,bx⟩) Q
   |some (j,want)=>match guardOf s.sl ops j want with
    |some g=>stepG FC T G g o s (fun v=>mK ops b base s.bx k (i+1) rest Q ⟨ej o.dst (.cond g v) s.sl,s.bx⟩)
    |none=>False
  else match gL T G s.sl o with
   |some cs=>match gD[base+k]? with
    |some .bt=>mK ops b base gD (k+1) (i+1) rest Q ⟨ej o.dst (.ptr (base+k) 0) s.sl,s.bx.set (base+k) (.var cs)⟩
    |_=>False
   |none=>match o.guard with
    |none=>stepG FC T G true o ⟨s.sl,gD⟩ (fun v=>mK ops b base gD k (i+1) rest Q ⟨ej o.dst v s.sl,s.bx⟩)∨
     kV FC G o s.sl gD (base+k) (fun v B=>mK ops b base gD (k+1) (i+1) rest Q ⟨ej o.dst v s.sl,s.bx.set (base+k) B⟩)
    |some (j,want)=>match guardOf s.sl ops j want with
     |some g=>stepG FC T G g o ⟨s.sl,gD⟩ (fun v=>mK ops b base gD k (i+1) rest Q ⟨ej o.dst (.cond g v) s.sl,s.bx⟩)
     |none=>False
  else False
def vi (ops:List Oper) (i:Nat) (K:St→Prop) (Q:Ex→St→Prop) (s:St):Prop:=match ops[i]? with
 |some o=>bif gx N o.dst then match o.guard with
  |none=>oC FC T G o s (fun v bx=>K ⟨ej o.dst v s.sl,bx⟩) Q
  |some (j,want)=>match guardOf s.sl ops j want with
   |some g=>ue (.d (.bool g)) (fun _=>oC FC T G o s (fun v bx=>K ⟨ej o.dst (.cond true v) s.sl,bx⟩) Q) (fun _=>K ⟨ej o.dst (.cond false .any) s.sl,s.bx⟩)
   |none=>False
  else False
 |none=>False
def Jn (ops:List Oper) (Q:Ex→St→Prop) (R:St→Prop):OT→St→Prop
 |.done,s=>R s
 |.one i o,s=>vi FC T G N ops i (Jn ops Q R o) Q s
 |.more i o r,s=>vi FC T G N ops i (Jn ops Q R o) Q s∧Jn ops Q R r s
def QA (ops:List Oper) (Q:Ex→St→Prop) (s:St):Prop:=
 ∃(pre:List Nat) (tr:OT) (s1:St),(iB ops.toArray [] pre=true∧l5 ops.toArray=true∧As G N ops pre s.sl=true)∧tr.fits pre ops=true∧Jn FC T G N ops Q (fun s=>(⟨zX s.sl,s.bx⟩:St)=s1) tr s∧Q .normal s1
def C5 (ops:List Oper) (Q:Ex→St→Prop) (S:List St) (s:St):List (Nat×Nat)→Prop
 |[]=>True
 |(p,i)::r=>(match S[p]? with|some s0=>vi FC T G N ops i (fun s1=>(⟨zX s1.sl,s1.bx⟩:St)=s) Q s0|none=>False)∧C5 ops Q S s r
def allM (ops:List Oper) (Q:Ex→St→Prop) (S:List St):Nat→List Nd→Prop
 |_,[]=>True
 |k,nd::r=>(match S[k]? with|some s=>C5 FC T G N ops Q S s nd.ps|none=>False)∧allM ops Q S (k+1) r
def vj (ks:List Nat):List (Nat×AV)→List (Nat×AV)
 |[]=>[]
 |(u,v)::r=>bif ks.contains u then (u,v)::vj ks r else vj ks r
def QB (ops:List Oper) (Q:Ex→St→Prop) (s:St):Prop:=
 ∃(pl:List Nd) (S:List St) (s1 s0:St),C4 ops.toArray pl=true∧(S[0]?=some s0∧(s0=s∨∃ks,s0=⟨vj ks s.sl,s.bx⟩))∧S[pl.length]?=some s1∧allM FC T G N ops Q S 1 pl∧Q .normal s1
def Lp (ops:List Oper) (Q:Ex→St→Prop) (s:St):Prop:=QA FC T G N ops Q s∨QB FC T G N ops Q s∨
 ∃pre late:List Nat,((pre=[]∧late=[])∨(iB ops.toArray [] pre=true∧l5 ops.toArray=true∧sx (bW pre 0 ops).toArray late=true∧As G N ops pre s.sl=true))∧HX (gC (bW pre 0 ops).toArray late 0 (bW pre 0 ops))∧
  mK FC T G N ops (cD (gC (bW pre 0 ops).toArray late 0 (bW pre 0 ops)) []) s.bx.length (s.bx++List.replicate (nu ops) .bt) 0 0 ops Q ⟨s.sl,s.bx++List.replicate (nu ops) .bt⟩
end
def zY (T:Nat→Option TI) (sl:List (Nat×AV)) (bx:List ay):List ResultVar→Option (Prop×List AV)
 |[]=>some (True,[])
 |.tmp t::r=>match zY T sl bx r with
  |some (c,vs)=>some ((fU t sl).ok∧c,(fU t sl).aL::vs)
  |none=>none
 |.cell t ty::r=>match T ty,zY T sl bx r with
  |some ti,some (c,vs)=>match fU t sl with
   |.ptr b o=>match n8 ti (.ptr b o) bx with
    |some ⟨c',v,_⟩=>some (c'∧c,v::vs)
    |none=>none
   |_=>none
  |_,_=>none
def At:List AV→AV
 |[v]=>v
 |vs=>.dL vs
def FQ (bx:List ay):AV→Option AV
 |.dL vs=>(eL bx vs).map .dL
 |v=>oy bx v
def sy (bx:List ay):AV→List ay
 |.dL vs=>eV bx vs
 |v=>kT bx v
def AV.within (n:Nat):AV→Bool
 |.any|.d _|.k _|.ep _|.cl _=>true
 |.agg cs|.dL cs|.fn _ cs=>pY n cs
 |.qx _ x|.cond _ x=>x.within n
 |.ptr b _|.rp b _ _ _|.ow b _ _|.vw b _ _ _ _ _|.zP b=>Nat.blt b n
where
 pY (n:Nat):List AV→Bool
  |[]=>true
  |x::xs=>x.within n&&pY n xs
def bX (n:Nat):List ay→Bool
 |[]=>true
 |.var cs::r=>AV.within.pY n cs&&bX n r
 |_::r=>bX n r
def kill:List Bool→List ay→List ay
 |[],bs=>bs
 |_,[]=>[]
 |k::ks,b::bs=>(bif k&&b.born then .dead else b)::kill ks bs
structure QC (n:Nat) (c:Prop) (v:AV) (bx:List ay) (res:iy) (aP:List ay):Prop where
 ok:c∧((res=.ret v∧aP=bx)∨
  (∃ks u,FQ bx v=some u∧u.within n=true∧aP=(kill ks (sy bx v)).take n∧bX n aP=true∧res=.ret u)∨
  (∃k sz m es,v=.ow k sz m∧bx[k]?=some (.row sz es)∧n≤k∧n≤bx.length∧bX n (bx.take n)=true∧res=.ret (.ow n sz m)∧aP=bx.take n++[.row sz es])∨
  (∃sz,v=.cl []∧n≤bx.length∧bX n (bx.take n)=true∧res=.ret (.ow n sz 0)∧aP=bx.take n++[.row sz []]))
structure QD (v:AV) (bx:List ay) (res:iy) (aP:List ay):Prop where
 ok:res=.Jl v∧aP=bx
def HY (T:Nat→Option TI) (results:List ResultVar) (n:Nat) (res:iy) (aP:List ay):Ex→St→Prop
 |.exit _,_=>False
 |.panic v,s=>QD v s.bx res aP
 |_,s=>match zY T s.sl s.bx results with
  |some (c,vs)=>QC n c (At vs) s.bx res aP
  |none=>False
def oD:Nat→List AV→List (Nat×AV)
 |_,[]=>[]
 |i,x::xs=>(i,x)::oD (i+1) xs
end Dem
