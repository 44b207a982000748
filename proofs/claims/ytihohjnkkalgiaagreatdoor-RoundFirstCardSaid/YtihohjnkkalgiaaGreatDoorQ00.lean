/- Parts of a proof, joined. -/
import Derived.Orders
import Derived.Laws.Append
import Derived.RowKit3
set_option linter.all false
set_option maxRecDepth 100000
set_option maxHeartbeats 4000000
open Go
namespace Dem
theorem trv:True:=trivial
theorem osI {α:Type _} {a b:α}:(some a=some b)=(a=b):=Option.some.injEq a b
theorem lgM {α β:Type _} {as:List α} (f:α→β):(as.map f).length=as.length:=List.length_map f
inductive D where
 |bool (b:Bool)
 |int (k:IntKind) (n:Int)
 |str (s:List UInt8)
 |sl (es:List (List D))
 |fn (f:Nat)
 |mp (ag:Bool) (es:List (List D))
inductive KC where
 |n9|nilIface|nilFunc|Dn
def KC.val:KC→Value
 |.n9=>.pointer none
 |.nilIface=>.nilIface
 |.nilFunc=>.nilFunc
 |.Dn=>.map none
inductive AV where
 |any
 |d (x:D)
 |k (c:KC)
 |agg (cs:List AV)
 |dX (vs:List AV)
 |ptr (b off:Nat)
 |rp (b sz i j:Nat)
 |ep (ds:List D)
 |ow (b sz n:Nat)
 |cl (es:List (List D))
 |fn (f:Nat) (jQ:List AV)
 |rN (t:Nat) (v:AV)
 |cond (p:Bool) (v:AV)
 |vw (b sz off n c:Nat) (ex:Bool)
 |Bx (b:Nat)
inductive aB where
 |var (cs:List AV)
 |row (sz:Nat) (es:List (List D))
 |kx (sz:Nat) (es:List (List D))
 |it (s:List UInt8) (pos:Nat)
 |mp (ag:Bool) (es:List (List D))
 |dead
 |bC
def aB.live:aB→Bool
 |.var _=>true
 |.row _ []=>false
 |.row _ (_::_)=>true
 |.it _ _=>true
 |.mp _ _=>true
 |_=>false
def aB.born:aB→Bool
 |.bC=>false
 |_=>true
def bX (bx:List aB) (i:Nat):Prop:=∃b,bx[i]?=some b∧b.born=true
structure St where
 sl:List (Nat×AV)
 bx:List aB
inductive Ex where
 |normal
 |exit (id:Nat)
 |ret
 |panic (v:AV)
inductive jN where
 |ret (v:AV)
 |LZ (v:AV)
def gG (t:Nat):List (Nat×AV)→AV
 |[]=>.any
 |(u,v)::r=>bif Nat.beq t u then v else gG t r
def put (t:Nat) (v:AV):List (Nat×AV)→List (Nat×AV)
 |[]=>[(t,v)]
 |(u,x)::r=>bif Nat.beq t u then (t,v)::r else (u,x)::put t v r
def eH (dst:Option Nat) (v:AV) (sl:List (Nat×AV)):List (Nat×AV):=
 match dst with
 |some t=>put t v sl
 |none=>sl
def gZ (n:Nat) (dst:Option Nat):Bool:=
 match dst with
 |some t=>Nat.blt t n
 |none=>true
inductive Kd where
 |int (k:IntKind)
 |bool
 |str
 |slice (e:Nat)
 |array (n e:Nat)
 |struct (aa4:List (Nat×Nat))
 |map (k e:Nat)
 |iface
 |other
def Kd.plain:Kd→Bool
 |.other=>false
 |.iface=>false
 |_=>true
def Kd.isAgg:Kd→Bool
 |.array _ _=>true
 |.struct _=>true
 |_=>false
structure TI where
 size:Nat
 bytes:Nat
 kd:Kd
 zero:AV
 eq:Bool
 inv:Option (String×Nat):=none
def Ic:Value→AV
 |.bool b=>.d (.bool b)
 |.int k n=>.d (.int k n)
 |.string s=>.d (.str s.data.toList)
 |.slice none 0 0=>.cl []
 |.pointer none=>.k .n9
 |.nilIface=>.k .nilIface
 |.nilFunc=>.k .nilFunc
 |.map none=>.k .Dn
 |_=>.any
def Rm:Value→AV
 |.agg cs=>.agg (cs.toList.map Ic)
 |v=>Ic v
def cR:TypeDesc→Kd
 |.int k=>.int k
 |.bool=>.bool
 |.string=>.str
 |.slice e=>.slice e
 |.array n e=>.array n e
 |.struct fs=>.struct (fs.toList.map fun f=>(f.offset,f.type))
 |.map k e=>.map k e
 |.interface _=>.iface
 |_=>.other
def NT (P:Program) (t:Nat):TypeDesc→Bool
 |.struct fs=>!P.stoodInHeld t&&fs.toList.all fun f=>f.name != "_"
 |_=>true
def NU:List String:=["demesne/sel.holds","demesne/act.kind"]
def Tv (i:TypeInfo):Option (String×Nat):=NU.findSome? fun nm=>match i.methods.toList.find? (fun m=>m.name==nm) with
 |some ⟨_,_,path,some (f,false)⟩=>bif path.toList.isEmpty then some (nm,f) else none
 |_=>none
def o9 (P:Program) (t:Nat):Option TI:=
 match P.info? t,P.underlying t with
 |some i,some d=>some {size:=i.size,bytes:=i.bytes,kd:=cR d,zero:=match i.zero with|some z=>Rm z|none=>.any,eq:=NT P t d,inv:=bif (cR d).plain then Tv i else none}
 |_,_=>none
def AV.aX:AV→AV
 |.cond _ v=>v
 |v=>v
def AV.ok:AV→Prop
 |.cond p _=>p=true
 |_=>True
def AV.sc:AV→Bool
 |.d _|.k _|.ptr _ _|.rp _ _ _ _|.ep _|.ow _ _ _|.cl _|.fn _ _|.rN _ _|.Bx _=>true
 |_=>false
def tL:List AV→Bool
 |[]=>true
 |x::xs=>bif x.sc then tL xs else false
def AV.cells?:AV→Option (List AV)
 |.agg cs=>bif tL cs then some cs else none
 |.any|.dX _|.cond _ _|.vw _ _ _ _ _ _=>none
 |v=>some [v]
def cm (G:Nat→Option (List D)) (sl:List (Nat×AV)):Operand→AV
 |.tmp t=>gG t sl
 |.const v=>Ic v
 |.global g=>match G g with
  |some ds=>.ep ds
  |none=>.any
 |.func f=>.fn f []
def AV.qP (bx:List aB):AV→Option D
 |.d x=>some x
 |.cl es=>some (.sl es)
 |.fn f []=>some (.fn f)
 |.ow b sz n=>match n,bx[b]? with
  |_,some (.row s es)=>bif Nat.beq s sz&&Nat.beq n es.length then some (.sl es) else none
  |_,some (.kx s es)=>bif Nat.beq s sz&&Nat.beq n es.length then some (.sl es) else none
  |_,_=>none
 |_=>none
def AV.cu (bx:List aB):AV→List aB
 |.ow b _ _=>match bx[b]? with
  |some (.row s es)=>bx.set b (.kx s es)
  |_=>bx
 |.vw b _ _ _ _ _=>match bx[b]? with
  |some (.row s es)=>bx.set b (.kx s es)
  |_=>bx
 |_=>bx
def iR (bx:List aB):List AV→Option (List D)
 |[]=>some []
 |x::xs=>match x.qP bx,iR bx xs with
  |some y,some ys=>some (y::ys)
  |_,_=>none
def ek (bx:List aB):List AV→List aB
 |[]=>bx
 |x::xs=>ek (x.cu bx) xs
def AV.rows (bx:List aB):AV→Option (List (List D))
 |.d (.sl es)=>some es
 |.cl es=>some es
 |.ow b sz n=>match bx[b]? with
  |some (.row s es)=>bif Nat.beq s sz&&Nat.beq n es.length then some es else none
  |some (.kx s es)=>bif Nat.beq s sz&&Nat.beq n es.length then some es else none
  |_=>none
 |.vw b sz off n _ _=>match bx[b]? with
  |some (.row s es)=>bif Nat.beq s sz&&Nat.ble (off+n) es.length then some ((es.drop off).take n) else none
  |some (.kx s es)=>bif Nat.beq s sz&&Nat.ble (off+n) es.length then some ((es.drop off).take n) else none
  |_=>none
 |_=>none
def cG:List AV→Bool
 |[]=>true
 |.ow _ _ _::_=>false
 |.vw _ _ _ _ _ _::_=>false
 |_::r=>cG r
def eI:List AV→Nat→List AV→List AV
 |cs,_,[]=>cs
 |[],_,_::_=>[]
 |_::cs,0,v::vs=>v::eI cs 0 vs
 |c::cs,n+1,v::vs=>c::eI cs n (v::vs)
def bt:List D→Nat→List D→List D
 |cs,_,[]=>cs
 |[],_,_::_=>[]
 |_::cs,0,v::vs=>v::bt cs 0 vs
 |c::cs,n+1,v::vs=>c::bt cs n (v::vs)
structure R where
 c:Prop
 v:AV
 bx:Option (List aB)
def dJ (bx:List aB):Option (List aB)→List aB
 |some b=>b
 |none=>bx
def R.pure (v:AV):Option R:=some ⟨True,v,none⟩
def R.when (c:Prop) (v:AV):Option R:=some ⟨c,v,none⟩
def cL (agg:Bool) (size:Nat) (cs:List AV):Option AV:=
 bif agg then (bif Nat.ble size cs.length then some (.agg (cs.take size)) else none) else cs.head?
def oX (ti:TI) (a:AV) (bx:List aB):Option R:=
 match a with
 |.ptr b off=>match bx[b]? with
  |some (.var cs)=>match cL ti.kd.isAgg ti.size (cs.drop off) with
   |some v=>R.pure v
   |none=>none
  |_=>none
 |.ep ds=>match cL ti.kd.isAgg ti.size (ds.map .d) with
  |some v=>R.pure v
  |none=>none
 |.rp b sz i j=>match bx[b]? with
  |some (.row s es)=>match cL ti.kd.isAgg ti.size (((es.getD i []).drop j).map .d) with
   |some v=>some ⟨s=sz∧i<es.length,v,none⟩
   |none=>none
  |some (.kx s es)=>match cL ti.kd.isAgg ti.size (((es.getD i []).drop j).map .d) with
   |some v=>some ⟨s=sz∧i<es.length,v,none⟩
   |none=>none
  |_=>none
 |_=>none
def sD (ti:TI) (a v:AV) (bx:List aB):Option R:=
 match v.cells? with
 |none=>none
 |some vs=>bif Nat.beq vs.length ti.size then
  match a with
  |.ptr b off=>match bx[b]? with
   |some (.var cs)=>bif Nat.ble (off+vs.length) cs.length then some ⟨True,.any,some (bx.set b (.var (eI cs off vs)))⟩ else none
   |_=>none
  |.rp b sz i j=>match iR bx vs with
   |some ds=>match (ek bx vs)[b]? with
    |some (.row s es)=>some ⟨s=sz∧i<es.length∧j+ds.length≤(es.getD i []).length,.any,
     some ((ek bx vs).set b (.row s (es.set i (bt (es.getD i []) j ds))))⟩
    |_=>none
   |none=>none
  |_=>none
  else none
def yZ:Kd→Nat→Option (Nat×Nat)
 |.struct fs,i=>fs[i]?
 |_,_=>none
def Rn (op:BinOp) (k:IntKind) (x y:Int):Option (Prop×D):=
 match op with
 |.add=>some (True,.int k (k.wrap (x+y)))
 |.sub=>some (True,.int k (k.wrap (x-y)))
 |.mul=>some (True,.int k (k.wrap (x*y)))
 |.quo=>some (y≠0,.int k (k.wrap (x.tdiv y)))
 |.rem=>some (y≠0,.int k (x.tmod y))
 |.and=>some (True,.int k (k.wrap (BitVec.ofInt k.bits x &&& BitVec.ofInt k.bits y).toNat))
 |.or=>some (True,.int k (k.wrap (BitVec.ofInt k.bits x ||| BitVec.ofInt k.bits y).toNat))
 |.xor=>some (True,.int k (k.wrap (BitVec.ofInt k.bits x ^^^ BitVec.ofInt k.bits y).toNat))
 |.andNot=>some (True,.int k (k.wrap (BitVec.ofInt k.bits x &&& ~~~(BitVec.ofInt k.bits y)).toNat))
 |.eql=>some (True,.bool (decide (x=y)))
 |.neq=>some (True,.bool (!decide (x=y)))
 |.lss=>some (True,.bool (decide (x<y)))
 |.leq=>some (True,.bool (decide (x≤y)))
 |.gtr=>some (True,.bool (decide (y<x)))
 |.geq=>some (True,.bool (decide (y≤x)))
 |_=>none
def Ro (op:BinOp) (x y:List UInt8):Option (Prop×D):=
 match op with
 |.add=>some (x.length+y.length≤9223372036854775807,.str (x++y))
 |.eql=>some (True,.bool (decide (x=y)))
 |.neq=>some (True,.bool (!decide (x=y)))
 |.lss=>some (True,.bool (Op.bytesLess x y))
 |.leq=>some (True,.bool (Op.bytesLess x y||decide (x=y)))
 |.gtr=>some (True,.bool (!(Op.bytesLess x y||decide (x=y))))
 |.geq=>some (True,.bool (!Op.bytesLess x y))
 |_=>none
def NV (op:BinOp) (x y:AV):Option (Prop×D):=
 match op,x,y with
 |.shl,.d (.int k x),.d (.int _ y)=>some (0≤y,.int k (k.wrap (x*2^(min y.toNat k.bits))))
 |.shr,.d (.int k x),.d (.int _ y)=>some (0≤y,.int k (x.fdiv (2^(min y.toNat k.bits))))
 |op,.d (.int k x),.d (.int k' y)=>bif k==k' then Rn op k x y else none
 |op,.d (.str x),.d (.str y)=>Ro op x y
 |_,_,_=>none
def By (T:Nat→Option TI):Nat→Nat→AV→AV→Option Bool
 |0,_,_,_=>none
 |n+1,t,x,y=>match T t with
  |none=>none
  |some ti=>match ti.kd,x,y with
   |.int _,.d (.int j a),.d (.int k b)=>bif j==k then some (decide (a=b)) else none
   |.bool,.d (.bool a),.d (.bool b)=>some (a==b)
   |.str,.d (.str a),.d (.str b)=>some (decide (a=b))
   |.array len e,.agg xs,.agg ys=>match T e with
    |some te=>bif Nat.beq len 0 then none else (List.range len).foldr (fun i acc=>match cL te.kd.isAgg te.size (xs.drop (i*te.size)),cL te.kd.isAgg te.size (ys.drop (i*te.size)) with
     |some a,some b=>match By T n e a b,acc with
      |some p,some q=>some (p&&q)
      |_,_=>none
     |_,_=>none) (some true)
    |none=>none
   |.struct fs,.agg xs,.agg ys=>bif ti.eq then fs.foldr (fun f acc=>match T f.2 with
    |some tf=>match cL tf.kd.isAgg tf.size (xs.drop f.1),cL tf.kd.isAgg tf.size (ys.drop f.1) with
     |some a,some b=>match By T n f.2 a b,acc with
      |some p,some q=>some (p&&q)
      |_,_=>none
     |_,_=>none
    |none=>none) (some true) else none
   |_,_,_=>none
def zb (p:Bool):AV→AV→AV
 |.d (.bool x),.d (.bool y)=>.d (.bool (bif p then x else y))
 |.any,.d (.bool y)=>bif p then .any else .d (.bool y)
 |_,_=>.any
def VR (op:UnOp) (x:AV):Option D:=
 match op,x with
 |.not,.d (.bool b)=>some (.bool (!b))
 |.neg,.d (.int k n)=>some (.int k (k.wrap (0-n)))
 |.xor,.d (.int k n)=>some (.int k (k.wrap (BitVec.ofInt k.bits (if k.signed then -1 else k.max) ^^^ BitVec.ofInt k.bits n).toNat))
 |_,_=>none
def qQ (b:UInt8):List D:=[.int .u8 b.toNat]
def qR:List D→UInt8
 |[.int _ n]=>UInt8.ofNat n.toNat
 |_=>0
def qT (r:List D):Prop:=∃n:Int,r=[.int .u8 n]
def chunk (sz:Nat):Nat→List D→List (List D)
 |0,_=>[]
 |n+1,ds=>ds.take sz::chunk sz n (ds.drop sz)
def Bz (ev:Operand→AV):Option Operand→Option (Option Int)
 |none=>some none
 |some x=>match ev x with
  |.d (.int _ n)=>some (some n)
  |_=>none
def iD {α:Type} (l:List α):Option Int→Option Int→List α
 |none,none=>l
 |some a,none=>l.drop a.toNat
 |none,some b=>l.take b.toNat
 |some a,some b=>(l.drop a.toNat).take (b.toNat-a.toNat)
def bR (n:Nat):Option Int→Option Int→Prop
 |none,none=>True
 |some a,none=>0≤a∧a≤n
 |none,some b=>0≤b∧b≤n
 |some a,some b=>0≤a∧a≤b∧b≤n
def pp (T:Nat→Option TI) (t:Nat) (x:AV) (lo hi mx:Option Int) (bx:List aB):Option R:=
 match T t with
 |some ti=>match ti.kd,x,mx with
  |.str,.d (.str s),none=>R.when (bR s.length lo hi) (.d (.str (iD s lo hi)))
  |.slice e,x,none=>match x.rows bx,T e with
   |some es,some te=>some ⟨bR es.length lo hi∧∀r∈es,r.length=te.size,.d (.sl (iD es lo hi)),bif cG [x] then none else some (x.cu bx)⟩
   |_,_=>none
  |.slice e,x,some m=>match x.rows bx,hi,T e with
   |some es,some h,some te=>some ⟨(bR es.length lo (some h)∧m=h)∧∀r∈es,r.length=te.size,.cl (iD es lo (some h)),bif cG [x] then none else some (x.cu bx)⟩
   |_,_,_=>none
  |.array n e,.ep ds,none=>match lo,hi,T e with
   |none,none,some te=>R.when (n*te.size≤ds.length) (.d (.sl (chunk te.size n ds)))
   |_,_,_=>none
  |.array n e,.ptr b 0,none=>match lo,hi,T e,bx[b]? with
   |none,none,some te,some (.var cs)=>match iR [] cs with
    |some ds=>some ⟨n*te.size≤ds.length,.d (.sl (chunk te.size n ds)),some (bx.set b .dead)⟩
    |none=>none
   |_,_,_,_=>none
  |_,_,_=>none
 |none=>none
def B5 (sizes:Nat→Option (Nat×Nat)):List AV→List (Nat×AV)→Option (List AV)
 |cells,[]=>some cells
 |cells,(i,v)::rest=>match sizes i,v.cells? with
  |some (off,size),some vs=>bif Nat.beq vs.length size&&Nat.ble (off+vs.length) cells.length then
   B5 sizes (eI cells off vs) rest else none
  |_,_=>none
def Dp (T:Nat→Option TI) (t:Nat) (parts:List (Nat×AV)):Option R:=
 match T t with
 |some ti=>match ti.zero.cells? with
  |some z=>match ti.kd with
   |.struct fs=>match B5 (fun i=>match fs[i]? with|some (o,ft)=>(T ft).map fun x=>(o,x.size)|none=>none) z parts with
    |some cs=>R.pure (.agg cs)
    |none=>none
   |.array _ e=>match T e with
    |some te=>match B5 (fun i=>some (i*te.size,te.size)) z parts with
     |some cs=>R.pure (.agg cs)
     |none=>none
    |none=>none
   |_=>none
  |none=>none
 |none=>none
def dM (bx:List aB):List (Nat×AV)→List aB
 |[]=>bx
 |(_,v)::rest=>match v.cells? with
  |some vs=>dM (ek bx vs) rest
  |none=>bx
def mF:Nat→List (Nat×AV)→Bool
 |_,[]=>true
 |i,(j,_)::r=>Nat.beq i j&&mF (i+1) r
def rowsOf (bx:List aB) (size:Nat):List (Nat×AV)→Option (List (List D))
 |[]=>some []
 |(_,v)::r=>match v.cells? with
  |some vs=>match iR bx vs,rowsOf bx size r with
   |some ds,some rs=>bif Nat.beq ds.length size then some (ds::rs) else none
   |_,_=>none
  |none=>none
def EX:List (Nat×AV)→Bool
 |[]=>true
 |(_,v)::r=>match v.cells? with
  |some vs=>cG vs&&EX r
  |none=>false
def fX (T:Nat→Option TI) (t n:Nat) (parts:List (Nat×AV)) (bx:List aB):Option R:=
 match T t with
 |some ti=>match ti.kd with
  |.slice e=>match T e with
   |some te=>bif Nat.beq parts.length n&&mF 0 parts&&Nat.ble (n*te.size) 16777216&&te.zero.cells?.isSome then
    match rowsOf bx te.size parts with
    |some rs=>some ⟨True,.cl rs,bif EX parts then none else some (dM bx parts)⟩
    |none=>none
    else none
   |none=>none
  |_=>none
 |none=>none
def kB (size:Nat) (x:AV) (bx:List aB):Option (List (List D)):=
 match x with
 |.d (.str b)=>bif Nat.beq size 1 then some (b.map qQ) else none
 |x=>x.rows bx
def sameBox (b:Nat):AV→Bool
 |.ow b2 _ _=>Nat.beq b b2
 |.vw b2 _ _ _ _ _=>Nat.beq b b2
 |_=>false
def eJ (te:TI):Bool:=
 match te.zero.cells? with
 |some z=>Nat.beq z.length te.size&&Nat.blt 0 te.bytes&&Nat.blt 0 te.size
 |none=>false
def kX (T:Nat→Option TI) (t:Nat) (s x:AV) (bx:List aB):Option R:=
 match T t with
 |some ti=>match ti.kd with
  |.slice e=>match T e with
   |some te=>bif eJ te then
    match kB te.size x bx with
    |some xs=>match s with
     |.cl []=>some ⟨xs.length*te.bytes≤140737488355328∧(∀r∈xs,r.length=te.size),.ow bx.length te.size xs.length,some (bx++[.row te.size xs])⟩
     |.cl (e0::er)=>match xs with
      |[]=>none
      |x0::xr=>some ⟨((e0::er).length+(x0::xr).length)*te.bytes≤140737488355328∧(∀r∈(e0::er)++(x0::xr),r.length=te.size),
       .ow bx.length te.size ((e0::er).length+(x0::xr).length),some (bx++[.row te.size ((e0::er)++(x0::xr))])⟩
     |.ow b sz n=>match bx[b]? with
      |some (.row s2 es)=>bif sameBox b x then none else
       some ⟨s2=sz∧sz=te.size∧n=es.length∧(es.length+xs.length)*te.bytes≤140737488355328∧(∀r∈es++xs,r.length=te.size),
       .ow bx.length te.size (es.length+xs.length),some ((bx.set b .dead)++[.row te.size (es++xs)])⟩
      |_=>none
     |_=>none
    |none=>none
    else none
   |none=>none
  |_=>none
 |none=>none
def BE (T:Nat→Option TI) (ev:Operand→AV):Op→Option (Prop×List (List D))
 |.call {callee:=.builtin b,args,argTypes}=>match b,args.toList,argTypes.toList with
  |.append,[x,y],[t,u]=>match T t,T u with
   |some ti,some tu=>match ti.kd,tu.kd with
    |.slice e,.slice _=>match T e with
     |some te=>bif eJ te then match ev x,ev y with
      |.cl es,.cl (x0::xr)=>some ((es.length+(x0::xr).length)*te.bytes≤140737488355328∧(∀r∈es++(x0::xr),r.length=te.size),es++(x0::xr))
      |_,_=>none
      else none
     |none=>none
    |_,_=>none
   |_,_=>none
  |_,_,_=>none
 |_=>none
def wQ (T:Nat→Option TI) (src dst:Nat) (x:AV) (bx:List aB):Option R:=
 match T src,T dst with
 |some ts,some td=>match ts.kd,td.kd,x with
  |_,.int k,.d (.int _ n)=>R.pure (.d (.int k (k.wrap n)))
  |.slice e,.str,x=>match T e,x.rows bx with
   |some te,some es=>match te.kd with
    |.int .u8=>R.when (∀r∈es,qT r) (.d (.str (es.map qR)))
    |_=>none
   |_,_=>none
  |.str,.str,.d (.str s)=>R.pure (.d (.str s))
  |_,_,_=>none
 |_,_=>none
def ze (x:AV) (bx:List aB):Option AV:=
 match x with
 |.d (.sl es)=>some (.d (.int .i64 es.length))
 |.cl es=>some (.d (.int .i64 es.length))
 |.ow b sz n=>match (AV.ow b sz n).rows bx with
  |some es=>some (.d (.int .i64 es.length))
  |none=>none
 |.vw b sz off n c ex=>match (AV.vw b sz off n c ex).rows bx with
  |some es=>some (.d (.int .i64 es.length))
  |none=>none
 |_=>none
def iT (T:Nat→Option TI) (b:Builtin) (args:List AV) (ats:List Nat) (bx:List aB):Option R:=
 match b,args,ats with
 |.len,[x],[t]=>match T t with
  |some ti=>match ti.kd,x with
   |.array n _,_=>R.pure (.d (.int .i64 n))
   |.str,.d (.str s)=>R.pure (.d (.int .i64 s.length))
   |.slice _,x=>match ze x bx with
    |some v=>R.pure v
    |none=>none
   |_,_=>none
  |none=>none
 |.min,[.d (.int k x),.d (.int _ y)],_=>R.pure (.d (.int k (min x y)))
 |.max,[.d (.int k x),.d (.int _ y)],_=>R.pure (.d (.int k (max x y)))
 |.append,[s,x],[t,u]=>match T u with
  |some tu=>match tu.kd with
   |.int _=>none
   |_=>kX T t s x bx
  |none=>none
 |_,_,_=>none
def be (lo:Option Int):Nat:=(lo.getD 0).toNat
def aY (len:Nat):Option Int→Nat
 |none=>len
 |some h=>h.toNat
def AV.tM:AV→Bool
 |.vw _ _ _ _ _ _=>true
 |_=>false
def iU (ev:Operand→AV):Op→Bool
 |.slice _ x _ _ _=>(ev x).tM
 |.indexAddr _ x _=>(ev x).tM
 |.makeSlice _ _ _=>true
 |.call {callee:=.builtin b,args,..}=>match b,args.toList with
  |.copy,_=>true
  |.clear,_=>true
  |.cap,_=>true
  |.len,[x]=>(ev x).tM
  |.append,[x,_]=>(ev x).tM
  |_,_=>false
 |_=>false
def dN (n c:Nat) (lo hi:Option Int):Prop:=
 match hi with
 |none=>bR n lo none
 |some h=>bR c lo (some h)
def viewAt:AV→Option (Nat×Nat×Nat×Nat×Nat×Bool)
 |.vw b sz off n c ex=>some (b,sz,off,n,c,ex)
 |.ow b sz n=>some (b,sz,0,n,n,false)
 |_=>none
def mG (te:TI):Option (List D):=
 match te.zero.cells? with
 |some z=>iR [] z
 |none=>none
def elemOf (T:Nat→Option TI) (t:Nat):Option TI:=
 match T t with
 |some ti=>match ti.kd with
  |.slice e=>T e
  |_=>none
 |none=>none
def Dq (T:Nat→Option TI) (t:Nat):Option Bool:=
 match T t with
 |some ti=>match ti.kd with
  |.int _=>some true
  |_=>some false
 |none=>none
def wrote (es:List (List D)) (off:Nat) (xs:List (List D)):List (List D):=es.take off++xs++es.drop (off+xs.length)
def eL (es:List (List D)) (off k:Nat):Prop:=off≤es.length∧(es=[]→k=0)
def tN (size:Nat) (y:AV) (n:Nat) (bx:List aB):Option (Prop×Nat×List (List D)):=
 match y with
 |.vw b sz off n2 _ _=>match bx[b]? with
  |some (.row s es)=>bif Nat.beq s sz then some (off+min n2 n≤es.length,min n2 n,(es.drop off).take (min n2 n)) else none
  |some (.kx s es)=>bif Nat.beq s sz then some (off+min n2 n≤es.length,min n2 n,(es.drop off).take (min n2 n)) else none
  |_=>none
 |y=>match kB size y bx with
  |some xs=>some (True,min xs.length n,xs.take (min xs.length n))
  |none=>none
def B6 (te:TI) (x y:AV) (bx:List aB):Option R:=
 match viewAt x with
 |some (b,sz,off,n,_,_)=>match bx[b]?,tN te.size y n bx with
  |some (.row s es),some (cy,m,xs)=>bif Nat.beq s sz&&Nat.beq sz te.size then
   some ⟨cy∧eL es off m∧∀r∈xs,r.length=te.size,.d (.int .i64 m),
    some (bx.set b (.row sz (wrote es off xs)))⟩ else none
  |_,_=>none
 |none=>none
def Dr (te:TI) (x:AV) (bx:List aB):Option R:=
 match viewAt x with
 |some (b,sz,off,n,_,_)=>match bx[b]?,mG te with
  |some (.row s es),some z=>bif Nat.beq s sz&&Nat.beq sz te.size&&eJ te then
   some ⟨eL es off n,.dX [],some (bx.set b (.row sz (wrote es off (List.replicate n z))))⟩ else none
  |_,_=>none
 |none=>none
def Ky (te:TI) (b sz off n c:Nat) (ex:Bool) (m:Int) (bx:List aB):Option R:=
 match bx[b]?,mG te with
 |some (.row s es),some z=>bif Nat.beq s sz&&Nat.beq sz te.size&&eJ te&&ex then
  some ⟨0≤m∧c<n+m.toNat∧off+n≤es.length∧(n+m.toNat)*te.bytes≤140737488355328,
   .vw bx.length sz 0 (n+m.toNat) (n+m.toNat) false,some (bx++[.row sz ((es.drop off).take n++List.replicate m.toNat z)])⟩ else none
 |_,_=>none
def qV (te:TI) (b sz off n c:Nat) (ex:Bool) (y:AV) (bx:List aB):Option R:=
 match bx[b]?,kB te.size y bx with
 |some (.row s es),some xs=>bif Nat.beq s sz&&Nat.beq sz te.size then
  some ⟨eL es (off+n) xs.length∧n+xs.length≤c∧∀r∈xs,r.length=te.size,.vw b sz off (n+xs.length) c ex,
   some (bx.set b (.row sz (wrote es (off+n) xs)))⟩ else none
 |_,_=>none
def whole (es:List (List D)) (off n c:Nat) (ex:Bool):Prop:=off=0∧n=es.length∧(es=[]→c=0∧ex=true)
def EY (te:TI) (n m:Int) (bx:List aB):Option R:=
 match mG te with
 |some z=>bif eJ te then some ⟨0≤n∧n=m∧n.toNat*te.bytes≤140737488355328,.ow bx.length te.size n.toNat,some (bx++[.row te.size (List.replicate n.toNat z)])⟩ else none
 |none=>none
def mH (T:Nat→Option TI) (ev:Operand→AV) (o:Op) (bx:List aB):Option R:=
 match o with
 |.slice ty x lo hi mx=>match ev x,elemOf T ty,Bz ev lo,Bz ev hi,Bz ev mx with
  |.vw b sz off n c ex,some te,some l,some h,some none=>bif Nat.beq te.size sz then
   some ⟨dN n c l h,.vw b sz (off+be l) (aY n h-be l) (c-be l) ex,none⟩ else none
  |.vw b sz off n c ex,some te,some l,some (some h),some (some m)=>bif Nat.beq te.size sz then
   some ⟨bR c l (some h)∧h≤m∧m≤c,.vw b sz (off+be l) (h.toNat-be l) (m.toNat-be l) true,none⟩ else none
  |_,_,_,_,_=>none
 |.indexAddr ty x i=>match ev x,elemOf T ty,ev i with
  |.vw b sz off n _ _,some te,.d (.int _ z)=>bif Nat.beq te.size sz then some ⟨0≤z∧z<n,.rp b sz (off+z.toNat) 0,none⟩ else none
  |_,_,_=>none
 |.makeSlice ty a b=>match elemOf T ty,ev a,ev b with
  |some te,.d (.int .i64 n),.d (.int .i64 m)=>EY te n m bx
  |_,_,_=>none
 |.call {callee:=.builtin b,args,argTypes}=>match b,args.toList.map ev,argTypes.toList with
  |.len,[.vw _ _ _ n _ _],[ty]=>match elemOf T ty with
   |some _=>R.pure (.d (.int .i64 n))
   |none=>none
  |.cap,[.vw _ _ _ _ c true],[ty]=>match elemOf T ty with
   |some _=>R.pure (.d (.int .i64 c))
   |none=>none
  |.copy,[x,y],ty::_=>match elemOf T ty with
   |some te=>B6 te x y bx
   |none=>none
  |.clear,[x],ty::_=>match elemOf T ty with
   |some te=>Dr te x bx
   |none=>none
  |.append,[.vw b sz off n c ex,y],[ty,u]=>match elemOf T ty,Dq T u with
   |some te,some true=>match y with
    |.d (.int .i64 m)=>Ky te b sz off n c ex m bx
    |_=>none
   |some te,some false=>bif sameBox b y then qV te b sz off n c ex y bx else
    match bx[b]?,kX T ty (.ow b sz n) y bx with
    |some (.row _ es),some ⟨c1,v,aZ⟩=>some ⟨c1∧whole es off n c ex,v,aZ⟩
    |_,_=>none
   |_,_=>none
  |_,_,_=>none
 |_=>none
def AV.isAgg:AV→Bool
 |.agg _=>true
 |_=>false
def jV:List AV→Bool
 |[]=>true
 |x::_=>x.sc||x.isAgg
def kY (T:Nat→Option TI) (ev:Operand→AV) (o:Op) (bx:List aB):Option R:=
 match o with
 |.move x=>R.pure (ev x)
 |.assign x=>R.pure (ev x)
 |.alloc t=>match T t with
  |some ti=>match ti.zero.cells? with
   |some cs=>some ⟨True,.ptr bx.length 0,some (bx++[.var cs])⟩
   |none=>none
  |none=>none
 |.box _ x=>match (ev x).cells? with
  |some cs=>some ⟨True,.ptr bx.length 0,some (bx++[.var cs])⟩
  |none=>none
 |.load t a=>match T t with
  |some ti=>oX ti (ev a) bx
  |none=>none
 |.store t a x=>match T t with
  |some ti=>sD ti (ev a) (ev x) bx
  |none=>none
 |.build t parts=>Dp T t (parts.toList.map fun p=>(p.1,ev p.2))
 |.buildSlice t n parts=>fX T t n (parts.toList.map fun p=>(p.1,ev p.2)) bx
 |.fieldAddr t x f=>match T t with
  |some ti=>match yZ ti.kd f with
   |some (o,ft)=>match T ft with
    |some tf=>bif Nat.beq tf.size 0 then none else
     match ev x with
     |.ptr b off=>R.pure (.ptr b (off+o))
     |.rp b sz i j=>R.pure (.rp b sz i (j+o))
     |.ep ds=>R.when (o≤ds.length) (.ep (ds.drop o))
     |_=>none
    |none=>none
   |none=>none
  |none=>none
 |.indexAddr t x i=>match T t with
  |some ti=>match ti.kd,ev i with
   |.array n e,.d (.int _ z)=>match T e with
    |some te=>match ev x with
     |.ptr b off=>R.when (0≤z∧z<n) (.ptr b (off+z.toNat*te.size))
     |.rp b sz a j=>R.when (0≤z∧z<n) (.rp b sz a (j+z.toNat*te.size))
     |.ep ds=>R.when (0≤z∧z<n∧z.toNat*te.size≤ds.length) (.ep (ds.drop (z.toNat*te.size)))
     |_=>none
    |none=>none
   |.slice e,.d (.int _ z)=>match T e,ev x with
    |some te,.ow b sz n=>bif Nat.beq te.size sz then R.when (0≤z∧z<n) (.rp b sz z.toNat 0) else none
    |_,_=>none
   |_,_=>none
  |none=>none
 |.field t x f=>match T t with
  |some ti=>match yZ ti.kd f with
   |some (o,ft)=>match T ft,ev x with
    |some tf,.agg cs=>match cL tf.kd.isAgg tf.size (cs.drop o) with
     |some v=>R.pure v
     |none=>none
    |_,_=>none
   |none=>none
  |none=>none
 |.index t x i=>match T t with
  |some ti=>match ti.kd,ev x,ev i with
   |.str,.d (.str s),.d (.int _ z)=>R.when (0≤z∧z<s.length) (.d (.int .u8 (s.getD z.toNat 0).toNat))
   |.array n e,.agg cs,.d (.int _ z)=>match T e with
    |some te=>match cL te.kd.isAgg te.size (cs.drop (z.toNat*te.size)) with
     |some v=>R.when (0≤z∧z<n) v
     |none=>none
    |none=>none
   |_,_,_=>none
  |none=>none
 |.extract x i=>match ev x with
  |.dX vs=>match vs[i]? with
   |some v=>R.pure v
   |none=>none
  |_=>none
 |.binOp op t x y _=>match ev x,ev y with
  |.agg xs,.agg ys=>match op with
   |.eql=>(By T 8 t (.agg xs) (.agg ys)).bind fun d=>R.pure (.d (.bool d))
   |.neq=>(By T 8 t (.agg xs) (.agg ys)).bind fun d=>R.pure (.d (.bool (!d)))
   |_=>none
  |.d (.bool p),.d (.bool q)=>match T t,op with
   |some ti,.eql=>match ti.kd with
    |.bool=>R.pure (.d (.bool (p==q)))
    |_=>none
   |some ti,.neq=>match ti.kd with
    |.bool=>R.pure (.d (.bool (!(p==q))))
    |_=>none
   |_,_=>none
  |.rN _ _,.k .nilIface=>match T t,op with
   |some ti,.eql=>match ti.kd with
    |.iface=>R.pure (.d (.bool false))
    |_=>none
   |some ti,.neq=>match ti.kd with
    |.iface=>R.pure (.d (.bool true))
    |_=>none
   |_,_=>none
  |.k .nilIface,.k .nilIface=>match y with
   |.const _=>match T t,op with
    |some ti,.eql=>match ti.kd with
     |.iface=>R.pure (.d (.bool true))
     |_=>none
    |some ti,.neq=>match ti.kd with
     |.iface=>R.pure (.d (.bool false))
     |_=>none
    |_,_=>none
   |_=>none
  |x,y=>match NV op x y with
   |some (c,d)=>R.when c (.d d)
   |none=>none
 |.unOp op _ x=>(VR op (ev x)).bind fun d=>R.pure (.d d)
 |.convert s d x=>wQ T s d (ev x) bx
 |.slice t x lo hi mx=>match Bz ev lo,Bz ev hi,Bz ev mx with
  |some l,some h,some m=>pp T t (ev x) l h m bx
  |_,_,_=>none
 |.makeFunc (.func f) first jQ=>bif first.toList.isEmpty then (bif jV (jQ.toList.map ev) then R.pure (.fn f (jQ.toList.map ev)) else none) else R.pure (.fn f (.dX (first.toList.map ev)::jQ.toList.map ev))
 |.makeInterface t x=>match T t with
  |some ti=>bif ti.kd.plain then R.pure (.rN t (ev x)) else none
  |none=>none
 |.typeAssert x _ u ok=>match T u with
  |some tu=>bif tu.kd.plain&&tu.zero.cells?.isSome then
   match ev x with
   |.rN t v=>bif Nat.beq t u then R.pure (bif ok then .dX [v,.d (.bool true)] else v) else bif ok then R.pure (.dX [tu.zero,.d (.bool false)]) else none
   |.k .nilIface=>bif ok then R.pure (.dX [tu.zero,.d (.bool false)]) else none
   |_=>none
   else none
  |none=>none
 |.nilCheck x=>match ev x with
  |.ptr b o=>R.pure (.ptr b o)
  |.rp b s i j=>R.pure (.rp b s i j)
  |.ep ds=>R.pure (.ep ds)
  |.fn f cs=>R.pure (.fn f cs)
  |_=>none
 |.call {callee:=.builtin b,args,argTypes}=>iT T b (args.toList.map ev) argTypes.toList bx
 |_=>none
def ES (T:Nat→Option TI) (ev:Operand→AV) (o:Op) (bx:List aB):Option R:=
 bif iU ev o then mH T ev o bx else kY T ev o bx
def fz (bx:List aB):AV→Option AV
 |.cl es=>some (.d (.sl es))
 |.ow b sz n=>(AV.qP bx (.ow b sz n)).map AV.d
 |.vw b sz off n c ex=>((AV.vw b sz off n c ex).rows bx).map fun es=>.d (.sl es)
 |v=>some v
def H8 (bx:List aB):List AV→Option (List AV)
 |[]=>some []
 |x::xs=>match fz bx x,H8 bx xs with
  |some y,some ys=>some (y::ys)
  |_,_=>none
def pu (bx:List aB):AV→Option AV
 |.agg cs=>(H8 bx cs).map .agg
 |v=>fz bx v
def lI (bx:List aB):AV→List aB
 |.agg cs=>ek bx cs
 |v=>v.cu bx
def eX (bx:List aB):List AV→Option (List AV)
 |[]=>some []
 |x::xs=>match pu bx x,eX bx xs with
  |some y,some ys=>some (y::ys)
  |_,_=>none
def fy (bx:List aB):List AV→List aB
 |[]=>bx
 |x::xs=>fy (lI bx x) xs
def AV.flat:AV→Bool
 |.d (.bool _)|.d (.int _ _)|.d (.str _)|.k _=>true
 |.agg cs=>zf cs
 |.dX cs=>py cs
 |_=>false
where
 zf:List AV→Bool
  |[]=>true
  |.d (.bool _)::r|.d (.int _ _)::r|.d (.str _)::r|.k _::r=>zf r
  |_=>false
 py:List AV→Bool
  |[]=>true
  |.d (.bool _)::r|.d (.int _ _)::r|.d (.str _)::r|.k _::r=>py r
  |.agg cs::r=>zf cs&&py r
  |_=>false
def dG:List AV→Prop
 |[]=>True
 |x::xs=>x.ok∧dG xs
def fR (G:Nat→Option (List D)) (sl:List (Nat×AV)) (xs:List Operand):List AV:=xs.map (cm G sl)
def lJ:AV→List AV→Option (Nat×List AV)
 |.fn f (.dX fs::jQ),args=>some (f,fs++args++jQ)
 |.fn f jQ,args=>bif jV jQ then some (f,args++jQ) else none
 |.d (.fn f),args=>some (f,args)
 |_,_=>none
def AV.shut:AV→Bool
 |.any|.d _|.k _|.ep _|.cl _=>true
 |.agg cs|.dX cs|.fn _ cs=>mI cs
 |.rN _ x|.cond _ x=>x.shut
 |.ptr _ _|.rp _ _ _ _|.ow _ _ _|.vw _ _ _ _ _ _|.Bx _=>false
where
 mI:List AV→Bool
  |[]=>true
  |x::xs=>x.shut&&mI xs
def D.flat:D→Bool
 |.sl _=>false
 |.mp _ _=>false
 |_=>true
structure Kz (FC:Nat→List AV→List aB→jN→List aB→Prop) (f:Nat) (args:List AV) (bx:List aB)
 (K:AV→List aB→Prop) (Kp:AV→List aB→Prop):Prop where
 ok:∃args' pz res pE,(args'=args∧pz=bx∨eX bx args=some args'∧pz=fy bx args)∧FC f args' pz res pE∧
  (match res with|.ret v=>K v pE|.LZ v=>Kp v pE)
structure EZ (FC:Nat→List AV→List aB→jN→List aB→Prop) (f:Nat) (args:List AV) (bx:List aB)
 (K:AV→List aB→Prop):Prop where
 ok:∃args',eX bx args=some args'∧AV.shut.mI args'=true∧
  (
   (∃v,FC f args' [] (.ret v) []∧(v.flat=true∨eX [] args=some args'∧v.shut=true)∧K v bx)∨
   (∃sz n es,FC f args' [] (.ret (.ow 0 sz n)) [.row sz es]∧((∀r∈es,∀x∈r,x.flat=true)∨eX [] args=some args')∧K (.ow bx.length sz n) (bx++[.row sz es])))
structure NW (FC:Nat→List AV→List aB→jN→List aB→Prop) (lD:Prop) (f:Nat) (args:List AV) (bx:List aB)
 (K:AV→List aB→Prop) (Kp:AV→List aB→Prop):Prop where
 ok:lD∧(EZ FC f args bx K∨Kz FC f args bx K Kp)
mutual
def AV.loose (dt:Bool):AV→Bool
 |.any=>true
 |.d (.bool _)|.d (.int _ _)|.d (.str _)|.k _=>true
 |.d _=>dt
 |.ptr _ _=>true
 |.rp _ _ _ _=>true
 |.agg cs=>AV.m0 dt cs
 |.fn _ cs=>AV.m0 dt cs
 |.rN _ x=>AV.loose dt x
 |_=>false
def AV.m0 (dt:Bool):List AV→Bool
 |[]=>true
 |x::xs=>bif AV.loose dt x then AV.m0 dt xs else false
end
def NY (bx:List aB) (i:Nat):Bool:=
 match bx[i]? with
 |some b=>b.born
 |none=>false
def AV.bS (bx:List aB):AV→Bool
 |.any|.d _|.k _|.ep _|.cl _=>true
 |.agg cs|.dX cs|.fn _ cs=>dg bx cs
 |.rN _ x|.cond _ x=>x.bS bx
 |.ptr b _|.rp b _ _ _|.ow b _ _|.vw b _ _ _ _ _|.Bx b=>NY bx b
where
 dg (bx:List aB):List AV→Bool
  |[]=>true
  |x::xs=>x.bS bx&&dg bx xs
def dY (dt:Bool) (bx:List aB):List aB→Bool
 |[]=>true
 |.var cs::r=>bif AV.m0 dt cs&&AV.bS.dg bx cs then dY dt bx r else false
 |.dead::r=>dY dt bx r
 |.bC::r=>dY dt bx r
 |_::_=>false
structure mJ (FC:Nat→List AV→List aB→jN→List aB→Prop) (f:Nat) (args:List AV) (bx:List aB) (v:AV):Prop where
 ok:∃args' jO,eX bx args=some args'∧AV.bS.dg jO args'=true∧(∃dt,dY dt jO jO=true∧(dt=true→eX [] args=some args'))∧
  (∀(i:Nat) (b:aB),jO[i]?=some b→b.born=true→∃b',bx[i]?=some b'∧b'.born=true∧(b.live=true→b'=b))∧FC f args' jO (.ret v) jO∧
  (v.flat=true∨eX [] args=some args'∧v.shut=true)
structure Tw (FC:Nat→List AV→List aB→jN→List aB→Prop) (g:Bool) (lD:Prop) (f:Nat) (args:List AV) (bx:List aB)
 (K:AV→Prop):Prop where
 ok:∃v,(g=true→lD∧mJ FC f args bx v)∧K v
structure nv (g:Bool) (c:Prop) (ds:List D) (K:List D→Prop):Prop where
 ok:∃ds',(g=true→c∧ds=ds')∧K ds'
structure vE (v:AV) (A B:Unit→Prop):Prop where
 ok:match v with
 |.d (.bool p)=>(p=true→A ())∧(p=false→B ())
 |_=>False
structure KA (H9:Prop) (K:Bool→Prop):Prop where
 ok:∀b:Bool,(b=true→H9)→K b
def L0:AV→Option Prop
 |.d (.sl es)=>some (es=[])
 |.cl es=>some (es=[])
 |.ow _ _ n=>some (n=0)
 |_=>none
structure NZ (str:List UInt8) (pos:Nat) (A:Nat→Nat→Prop) (B:Unit→Prop):Prop where
 ok:(pos<str.length→A (Utf8.decode ⟨str.toArray⟩ pos).1 (Utf8.decode ⟨str.toArray⟩ pos).2)∧(¬pos<str.length→B ())
def tO (K:St→Prop) (Q:Ex→St→Prop) (e:Ex) (s:St):Prop:=
 match e with
 |.normal=>K s
 |e=>Q e s
def zg (T:Nat→Option TI) (t:Nat) (x i:AV):Option (Prop×List D):=
 match T t with
 |some ti=>match ti.kd,x,i with
  |.slice e,.d (.sl es),.d (.int _ z)=>match T e with
   |some te=>some (0≤z∧z<es.length∧(∀r∈es,r.length=te.size),es.getD z.toNat [])
   |none=>none
  |.slice e,.cl es,.d (.int _ z)=>match T e with
   |some te=>some (0≤z∧z<es.length∧(∀r∈es,r.length=te.size),es.getD z.toNat [])
   |none=>none
  |_,_,_=>none
 |none=>none
def nw:Kd→D→Bool
 |.int k,.int j _=>j==k
 |.str,.str _=>true
 |_,_=>false
def oY:D→D→Bool
 |.int j a,.int k b=>j==k&&decide (a=b)
 |.str a,.str b=>decide (a=b)
 |_,_=>false
def rowIs (kd:Kd) (n:Nat) (r:List D):Prop:=∃x ds,r=x::ds∧nw kd x=true∧ds.length=n
def vF:List (List D)→D→Option (List D)
 |[],_=>none
 |(x::ds)::r,k=>bif oY k x then some ds else vF r k
 |[]::r,k=>vF r k
def rO:List (List D)→D→List D→List (List D)
 |[],k,v=>[k::v]
 |(x::ds)::r,k,v=>bif oY k x then (k::v)::r else (x::ds)::rO r k v
 |[]::r,k,v=>[]::rO r k v
def zh (T:Nat→Option TI) (t:Nat) (m:AV) (bx:List aB):Option (TI×TI×Bool×List (List D)):=
 match T t with
 |some ti=>match ti.kd with
  |.map k e=>match T k,T e,m with
   |some tk,some te,.d (.mp ag es)=>some (tk,te,ag,es)
   |some tk,some te,.k .Dn=>some (tk,te,te.kd.isAgg,[])
   |some tk,some te,.Bx b=>match bx[b]? with
    |some (.mp ag es)=>some (tk,te,ag,es)
    |_=>none
   |_,_,_=>none
  |_=>none
 |none=>none
def vG (tk te:TI) (ag:Bool) (es:List (List D)) (k:D):Prop:=ag=te.kd.isAgg∧nw tk.kd k=true∧∀r∈es,rowIs tk.kd te.size r
structure Ie (g:Bool) (c:Prop) (o:Option (List D)) (K:Option (List D)→Prop):Prop where
 ok:∃o',(g=true→c∧o=o')∧K o'
def oa (te:TI) (BA:Bool) (K:AV→Prop):Option (List D)→Prop
 |none=>match te.zero.cells? with
  |some _=>K (bif BA then .dX [te.zero,.d (.bool false)] else te.zero)
  |none=>False
 |some ds=>match cL te.kd.isAgg te.size (ds.map .d) with
  |some v=>K (bif BA then .dX [v,.d (.bool true)] else v)
  |none=>False
def Ds (T:Nat→Option TI) (t:Nat) (m:AV) (bx:List aB):Option (Nat×TI×TI×Bool×List (List D)):=
 match m,zh T t m bx with
 |.Bx b,some (tk,te,ag,es)=>some (b,tk,te,ag,es)
 |_,_=>none
section
variable (FC:Nat→List AV→List aB→jN→List aB→Prop) (T:Nat→Option TI) (G:Nat→Option (List D)) (N:Nat)
def pF (o:Oper) (s:St) (K:AV→List aB→Prop) (Q:Ex→St→Prop):Prop:=
 match o.op with
 |.pick c a b=>match (cm G s.sl c).aX with
  |.d (.bool p)=>((cm G s.sl c).ok∧(p=true→(cm G s.sl a).ok)∧(p=false→(cm G s.sl b).ok))∧K (zb p (cm G s.sl a).aX (cm G s.sl b).aX) s.bx
  |_=>False
 |.call {callee:=.value f,args,..}=>match lJ (cm G s.sl f).aX (args.toList.map fun x=>(cm G s.sl x).aX) with
  |some (i,as)=>NW FC ((cm G s.sl f).ok∧dG (fR G s.sl args.toList)) i as s.bx (fun v bx=>K v bx) (fun v bx=>Q (.panic v) ⟨[],bx⟩)
  |none=>False
 |.panic x=>match (cm G s.sl x).aX with
  |.rN t v=>(cm G s.sl x).ok∧Q (.panic (.rN t v)) ⟨[],s.bx⟩
  |_=>False
 |.range t x=>match T t with
  |some ti=>match ti.kd,(cm G s.sl x).aX with
   |.str,.d (.str str)=>(cm G s.sl x).ok∧K (.ptr s.bx.length 0) (s.bx++[.it str 0])
   |_,_=>False
  |none=>False
 |.next it true=>match (cm G s.sl it).aX with
  |.ptr b 0=>match s.bx[b]? with
   |some (.it str pos)=>(cm G s.sl it).ok∧NZ str pos (fun c wd=>K (.dX [.d (.bool true),.d (.int .i64 pos),.d (.int .i32 c)]) (s.bx.set b (.it str (pos+wd)))) (fun _=>K (.dX [.d (.bool false)]) s.bx)
   |_=>False
  |_=>False
 |.binOp .eql t x (.const (.slice none 0 0)) _=>match T t,L0 (cm G s.sl x).aX with
  |some ti,some H9=>match ti.kd with
   |.slice _=>(cm G s.sl x).ok∧KA H9 (fun b=>K (.d (.bool b)) s.bx)
   |_=>False
  |_,_=>False
 |.binOp .neq t x (.const (.slice none 0 0)) _=>match T t,L0 (cm G s.sl x).aX with
  |some ti,some H9=>match ti.kd with
   |.slice _=>(cm G s.sl x).ok∧KA H9 (fun b=>K (.d (.bool (!b))) s.bx)
   |_=>False
  |_,_=>False
 |.makeMap ty none=>match T ty with
  |some ti=>match ti.kd with
   |.map _ e=>match T e with
    |some te=>K (.Bx s.bx.length) (s.bx++[.mp te.kd.isAgg []])
    |none=>False
   |_=>False
  |none=>False
 |.lookup ty m k BA=>match zh T ty (cm G s.sl m).aX s.bx,(cm G s.sl k).aX with
  |some (tk,te,ag,es),.d kd=>Ie true (((cm G s.sl m).ok∧(cm G s.sl k).ok)∧vG tk te ag es kd) (vF es kd) (oa te BA (fun v=>K v s.bx))
  |_,_=>False
 |.mapUpdate ty m k x=>match Ds T ty (cm G s.sl m).aX s.bx,(cm G s.sl k).aX,(cm G s.sl x).aX.cells? with
  |some (b,tk,te,ag,es),.d kd,some vs=>match cG vs,iR s.bx vs with
   |true,some ds=>(((cm G s.sl m).ok∧(cm G s.sl k).ok∧(cm G s.sl x).ok)∧vG tk te ag es kd∧ds.length=te.size∧(cm G s.sl x).aX.isAgg=ag)∧K .any (s.bx.set b (.mp ag (rO es kd ds)))
   |_,_=>False
  |_,_,_=>False
 |op=>
  match (match op with|.indexAddr t x i=>zg T t (cm G s.sl x).aX (cm G s.sl i).aX|_=>none) with
  |some (c,ds)=>nv true (dG (fR G s.sl op.operands.toList)∧c) ds (fun ds=>K (.ep ds) s.bx)
  |none=>match ES T (fun x=>(cm G s.sl x).aX) op s.bx with
   |some ⟨c,v,b⟩=>(dG (fR G s.sl op.operands.toList)∧c)∧K v (dJ s.bx b)
   |none=>False
def B7 (T:Nat→Option TI) (x:AV) (nm:String) (as:List AV):Option (Nat×List AV):=
 match x with
 |.rN t v=>match T t with
  |some ti=>match ti.inv with
   |some (n,i)=>if n=nm then some (i,v::as) else none
   |none=>none
  |none=>none
 |_=>none
def vH (g:Bool) (o:Oper) (s:St) (K:AV→Prop):Prop:=
 match o.op with
 |.pick c a b=>match (cm G s.sl c).aX with
  |.d (.bool p)=>(g=true→((cm G s.sl c).ok∧(p=true→(cm G s.sl a).ok)∧(p=false→(cm G s.sl b).ok)))∧K (zb p (cm G s.sl a).aX (cm G s.sl b).aX)
  |_=>False
 |.call {callee:=.value f,args,..}=>match lJ (cm G s.sl f).aX (args.toList.map fun x=>(cm G s.sl x).aX) with
  |some (i,as)=>Tw FC g ((cm G s.sl f).ok∧dG (fR G s.sl args.toList)) i as s.bx (fun v=>K v)
  |none=>False
 |.call {callee:=.invoke r nm,args,..}=>match B7 T (cm G s.sl r).aX nm (args.toList.map fun x=>(cm G s.sl x).aX) with
  |some (i,as)=>Tw FC g ((cm G s.sl r).ok∧dG (fR G s.sl args.toList)) i as s.bx (fun v=>K v)
  |none=>False
 |op=>
  match (match op with|.indexAddr t x i=>zg T t (cm G s.sl x).aX (cm G s.sl i).aX|_=>none) with
  |some (c,ds)=>nv g (dG (fR G s.sl op.operands.toList)∧c) ds (fun ds=>K (.ep ds))
  |none=>match ES T (fun x=>(cm G s.sl x).aX) op s.bx with
   |some ⟨c,v,none⟩=>(g=true→dG (fR G s.sl op.operands.toList)∧c)∧K v
   |_=>False
def stepG (g:Bool) (o:Oper) (s:St) (K:AV→Prop):Prop:=(g=false∧∃v,K v)∨vH FC T G g o s K∨
 ∃c es,BE T (fun x=>(cm G s.sl x).aX) o.op=some (c,es)∧(g=true→dG (fR G s.sl o.op.operands.toList)∧c)∧K (.d (.sl es))
def guardOf (sl:List (Nat×AV)) (ops:List Oper) (j:Nat) (want:Bool):Option Bool:=
 match ops[j]? with
 |some o=>match o.dst with
  |some t=>match gG t sl with
   |.d (.bool q)=>some (bif want then q else !q)
   |.cond g (.d (.bool q))=>some (g&&(bif want then q else !q))
   |_=>none
  |none=>none
 |none=>none
def sE (g:Bool) (o:Oper) (s:St) (K:AV→Prop):Prop:=
 match o.op with
 |.call {callee:=.value f,args,..}=>match lJ (cm G s.sl f).aX (args.toList.map fun x=>(cm G s.sl x).aX) with
  |some (i,as)=>∃v,(g=true→((cm G s.sl f).ok∧dG (fR G s.sl args.toList))∧FC i as s.bx (.ret v) s.bx)∧K v
  |none=>False
 |_=>False
def E0 (ops:List Oper):List Oper→(Ex→St→Prop)→St→Prop
 |[],Q,s=>Q .normal s
 |o::rest,Q,s=>bif gZ N o.dst then
  match o.guard with
  |none=>pF FC T G o s (fun v bx=>E0 ops rest Q ⟨eH o.dst v s.sl,bx⟩) Q
  |some (j,want)=>match guardOf s.sl ops j want with
   |some g=>stepG FC T G g o s (fun v=>E0 ops rest Q ⟨eH o.dst (.cond g v) s.sl,s.bx⟩)∨
    sE FC G g o s (fun v=>E0 ops rest Q ⟨eH o.dst (.cond g v) s.sl,s.bx⟩)
   |none=>False
  else False
def qW (acc:List Nat) (o:Oper):Nat:=
 o.after.toList.foldl (fun s e=>bif Region.binds .any e then s ||| 2^e.on ||| acc.getD e.on 0 else s) 0
def cM:List Oper→List Nat→List Nat
 |[],acc=>acc
 |o::r,acc=>cM r (acc++[qW acc o])
def barrier (b:List Nat) (i:Nat):Bool:=
 Nat.beq (b.getD i 0) (2^i-1)&&(b.drop (i+1)).all (fun x=>x.testBit i)
def oc:List Oper→Nat
 |[]=>0
 |o::r=>(match o.op with|.alloc _=>1|.box _ _=>1|.call _=>1|_=>0)+oc r
def iz (T:Nat→Option TI) (G:Nat→Option (List D)) (sl:List (Nat×AV)) (o:Oper):Option (List AV):=
 match o.guard with
 |some _=>none
 |none=>match o.op with
  |.alloc t=>match T t with
   |some ti=>ti.zero.cells?
   |none=>none
  |.box _ x=>(cm G sl x).cells?
  |_=>none
def gW (ops:Array Oper) (b:List Nat):Nat→List Oper→Bool
 |_,[]=>true
 |i,o::r=>(o.after.toList.all fun e=>!Region.binds .any e||Nat.blt e.on i)&&qX ops (b.getD i 0) o i&&gW ops b (i+1) r
where
 qX (ops:Array Oper) (m:Nat) (o:Oper):Nat→Bool
  |0=>true
  |j+1=>(m.testBit j||(match ops[j]? with|some p=>p.apart ops o|none=>false))&&qX ops m o j
def eY (pre:List Nat) (i:Nat) (o:Oper):Oper:=
 bif pre.contains i then o else {o with after:=o.after++((pre.filter (fun p=>Nat.blt p i)).map (fun p=>({on:=p,ground:=.data}:Edge))).toArray}
def cr (pre:List Nat):Nat→List Oper→List Oper
 |_,[]=>[]
 |i,o::r=>eY pre i o::cr pre (i+1) r
def iV (ops:Array Oper):List Nat→List Nat→Bool
 |_,[]=>true
 |done,p::r=>match ops[p]? with
  |some o=>!done.contains p&&o.guard.isNone&&(o.after.all fun e=>!Region.binds .any e||done.contains e.on)&&
   ((List.range ops.size).all fun j=>Nat.beq j p||done.contains j||(match ops[j]? with|some q=>(q.after.any fun e=>Region.binds .any e&&Nat.beq e.on p)||o.apart ops q|none=>true))&&iV ops (p::done) r
  |none=>false
def mK (ops:Array Oper):Bool:=ops.all fun o=>match o.op with|.select _ _=>false|_=>true
def Rp (G:Nat→Option (List D)) (sl:List (Nat×AV)) (o:Oper):Option AV:=
 match o.op with
 |.move x=>some (cm G sl x)
 |.binOp .add _ x y _=>match cm G sl x,cm G sl y with
  |.d (.int k a),.d (.int k' b)=>bif k==k' then some (.d (.int k (k.wrap (a+b)))) else none
  |_,_=>none
 |.binOp .sub _ x y _=>match cm G sl x,cm G sl y with
  |.d (.int k a),.d (.int k' b)=>bif k==k' then some (.d (.int k (k.wrap (a-b)))) else none
  |_,_=>none
 |_=>none
def B8 (G:Nat→Option (List D)) (N:Nat) (ops:List Oper):List Nat→List (Nat×AV)→Bool
 |[],_=>true
 |p::r,sl=>match ops[p]? with
  |some o=>match Rp G sl o with
   |some v=>gZ N o.dst&&B8 G N ops r (eH o.dst v sl)
   |none=>false
  |none=>false
def zi:Op→Bool
 |.move _=>true
 |.extract _ _=>true
 |_=>false
def Dt (ops:Array Oper) (p:Nat) (o:Oper):Bool:=
 match ops[p]? with
 |some q=>q.after.all fun e=>!Region.binds .any e||o.after.any fun e'=>Region.binds .any e'&&Nat.beq e'.on e.on
 |none=>false
def kn (ops:Array Oper) (late:List Nat) (i:Nat) (o:Oper):Oper:=
 bif late.contains i then o else {o with after:=o.after++((late.filter (fun p=>Nat.blt p i&&Dt ops p o)).map (fun p=>({on:=p,ground:=.data}:Edge))).toArray}
def ig (ops:Array Oper) (late:List Nat):Nat→List Oper→List Oper
 |_,[]=>[]
 |i,o::r=>kn ops late i o::ig ops late (i+1) r
def tP (ops:Array Oper) (late:List Nat):Bool:=
 late.all fun p=>match ops[p]? with
  |some o=>zi o.op&&o.guard.isNone&&((List.range ops.size).all fun j=>Nat.beq j p||(o.after.any fun e=>Region.binds .any e&&Nat.beq e.on j)||(match ops[j]? with|some q=>(q.after.any fun e=>Region.binds .any e&&Nat.beq e.on p)||o.apart ops q|none=>true))
  |none=>false
def Rq (u:Nat) (v:AV):List (Nat×AV)→List (Nat×AV)
 |[]=>[(u,v)]
 |(s,x)::r=>bif Nat.beq u s then (u,v)::r else bif Nat.blt u s then (u,v)::(s,x)::r else (s,x)::Rq u v r
def BF:List (Nat×AV)→List (Nat×AV)
 |[]=>[]
 |(u,v)::r=>Rq u v (BF r)
structure Nd where
 ls:List Bool
 ps:List (Nat×Nat)
def N0 (k i:Nat):List (Nat×Nat)→Bool
 |[]=>false
 |(p,j)::r=>(Nat.beq p k&&Nat.beq j i)||N0 k i r
def VS:List Bool→List Bool→Bool
 |[],[]=>true
 |a::l,b::m=>(a==b)&&VS l m
 |_,_=>false
def N1 (ops:Array Oper) (pl:List Nd) (z:Nat):Nat→List Nd→Bool
 |_,[]=>true
 |k,nd::r=>(match Region.ready .any ops nd.ls.toArray with
  |[]=>Nat.beq k z
  |rs=>rs.all fun i=>Nat.blt i nd.ls.length&&(nd.ls.getD i true==false)&&pl.any fun e=>VS e.ls (nd.ls.set i true)&&N0 k i e.ps)&&N1 ops pl z (k+1) r
def KB (ops:Array Oper) (pl:List Nd):Bool:=N1 ops pl pl.length 0 (⟨List.replicate ops.size false,[]⟩::pl)
inductive OT where
 |done
 |one (i:Nat) (t:OT)
 |more (i:Nat) (t r:OT)
def OT.KD:OT→List Nat
 |.done=>[]
 |.one i _=>[i]
 |.more i _ r=>i::r.KD
def OT.depth:OT→Nat
 |.done=>0
 |.one _ t=>t.depth+1
 |.more _ t r=>max (t.depth+1) r.depth
def OT.fit (ops:Array Oper):OT→Bool→Array Bool→Bool
 |.done,top,listed=>!top||(Region.ready .any ops listed).isEmpty
 |.one i t,top,listed=>(!top||Region.ready .any ops listed==[i])&&t.fit ops true (listed.setIfInBounds i true)
 |.more i t r,top,listed=>(!top||Region.ready .any ops listed==i::r.KD)&&(t.fit ops true (listed.setIfInBounds i true)&&r.fit ops false listed)
def OT.fits (tr:OT) (pre:List Nat) (ops:List Oper):Bool:=Nat.ble tr.depth ops.length&&tr.fit (cr pre 0 ops).toArray true (Array.replicate ops.length false)
structure KE (ops:List Oper):Prop where
 ok:gW ops.toArray (cM ops []) 0 ops=true
def lK (o:Oper) (sl:List (Nat×AV)) (ij:List aB) (x:Nat) (K:AV→aB→Prop):Prop:=
 ∃f args ats i as args' sz n es,o.op=.call {callee:=.value f,args:=args,argTypes:=ats}∧lJ (cm G sl f).aX (args.toList.map fun x=>(cm G sl x).aX)=some (i,as)∧
  ((cm G sl f).ok∧dG (fR G sl args.toList))∧eX ij as=some args'∧AV.shut.mI args'=true∧FC i args' [] (.ret (.ow 0 sz n)) [.row sz es]∧
  ((∀r∈es,∀x∈r,x.flat=true)∨eX [] as=some args')∧ij[x]?=some .bC∧K (.ow x sz n) (.row sz es)
def ny (ops:List Oper) (b:List Nat) (base:Nat):List aB→Nat→Nat→List Oper→(Ex→St→Prop)→St→Prop
 |_,_,_,[],Q,s=>Q .normal s
 |ij,k,i,o::rest,Q,s=>bif gZ N o.dst then
  bif barrier b i then match o.guard with
   |none=>pF FC T G o s (fun v bx=>ny ops b base bx k (i+1) rest Q ⟨eH o.dst v s.sl,bx⟩) Q
   |some (j,want)=>match guardOf s.sl ops j want with
    |some g=>stepG FC T G g o s (fun v=>ny ops b base s.bx k (i+1) rest Q ⟨eH o.dst (.cond g v) s.sl,s.bx⟩)
    |none=>False
  else match iz T G s.sl o with
   |some cs=>match ij[base+k]? with
    |some .bC=>ny ops b base ij (k+1) (i+1) rest Q ⟨eH o.dst (.ptr (base+k) 0) s.sl,s.bx.set (base+k) (.var cs)⟩
    |_=>False
   |none=>match o.guard with
    |none=>stepG FC T G true o ⟨s.sl,ij⟩ (fun v=>ny ops b base ij k (i+1) rest Q ⟨eH o.dst v s.sl,s.bx⟩)∨
     lK FC G o s.sl ij (base+k) (fun v B=>ny ops b base ij (k+1) (i+1) rest Q ⟨eH o.dst v s.sl,s.bx.set (base+k) B⟩)
    |some (j,want)=>match guardOf s.sl ops j want with
     |some g=>stepG FC T G g o ⟨s.sl,ij⟩ (fun v=>ny ops b base ij k (i+1) rest Q ⟨eH o.dst (.cond g v) s.sl,s.bx⟩)
     |none=>False
  else False
def wR (ops:List Oper) (i:Nat) (K:St→Prop) (Q:Ex→St→Prop) (s:St):Prop:=match ops[i]? with
 |some o=>bif gZ N o.dst then match o.guard with
  |none=>pF FC T G o s (fun v bx=>K ⟨eH o.dst v s.sl,bx⟩) Q
  |some (j,want)=>match guardOf s.sl ops j want with
   |some g=>vE (.d (.bool g)) (fun _=>pF FC T G o s (fun v bx=>K ⟨eH o.dst (.cond true v) s.sl,bx⟩) Q) (fun _=>K ⟨eH o.dst (.cond false .any) s.sl,s.bx⟩)
   |none=>False
  else False
 |none=>False
def L2 (ops:List Oper) (Q:Ex→St→Prop) (R:St→Prop):OT→St→Prop
 |.done,s=>R s
 |.one i o,s=>wR FC T G N ops i (L2 ops Q R o) Q s
 |.more i o r,s=>wR FC T G N ops i (L2 ops Q R o) Q s∧L2 ops Q R r s
def Tx (ops:List Oper) (Q:Ex→St→Prop) (s:St):Prop:=
 ∃(pre:List Nat) (tr:OT) (s1:St),(iV ops.toArray [] pre=true∧mK ops.toArray=true∧B8 G N ops pre s.sl=true)∧tr.fits pre ops=true∧L2 FC T G N ops Q (fun s=>(⟨BF s.sl,s.bx⟩:St)=s1) tr s∧Q .normal s1
def E1 (ops:List Oper) (Q:Ex→St→Prop) (S:List St) (s:St):List (Nat×Nat)→Prop
 |[]=>True
 |(p,i)::r=>(match S[p]? with|some s0=>wR FC T G N ops i (fun s1=>(⟨BF s1.sl,s1.bx⟩:St)=s) Q s0|none=>False)∧E1 ops Q S s r
def allM (ops:List Oper) (Q:Ex→St→Prop) (S:List St):Nat→List Nd→Prop
 |_,[]=>True
 |k,nd::r=>(match S[k]? with|some s=>E1 FC T G N ops Q S s nd.ps|none=>False)∧allM ops Q S (k+1) r
def wS (ks:List Nat):List (Nat×AV)→List (Nat×AV)
 |[]=>[]
 |(u,v)::r=>bif ks.contains u then (u,v)::wS ks r else wS ks r
def Ty (ops:List Oper) (Q:Ex→St→Prop) (s:St):Prop:=
 ∃(pl:List Nd) (S:List St) (s1 s0:St),KB ops.toArray pl=true∧(S[0]?=some s0∧(s0=s∨∃ks,s0=⟨wS ks s.sl,s.bx⟩))∧S[pl.length]?=some s1∧allM FC T G N ops Q S 1 pl∧Q .normal s1
def N2 (ops:List Oper) (Q:Ex→St→Prop) (s:St):Prop:=Tx FC T G N ops Q s∨Ty FC T G N ops Q s∨
 ∃pre late:List Nat,((pre=[]∧late=[])∨(iV ops.toArray [] pre=true∧mK ops.toArray=true∧tP (cr pre 0 ops).toArray late=true∧B8 G N ops pre s.sl=true))∧KE (ig (cr pre 0 ops).toArray late 0 (cr pre 0 ops))∧
  ny FC T G N ops (cM (ig (cr pre 0 ops).toArray late 0 (cr pre 0 ops)) []) s.bx.length (s.bx++List.replicate (oc ops) .bC) 0 0 ops Q ⟨s.sl,s.bx++List.replicate (oc ops) .bC⟩
end
def BG (T:Nat→Option TI) (sl:List (Nat×AV)) (bx:List aB):List ResultVar→Option (Prop×List AV)
 |[]=>some (True,[])
 |.tmp t::r=>match BG T sl bx r with
  |some (c,vs)=>some ((gG t sl).ok∧c,(gG t sl).aX::vs)
  |none=>none
 |.cell t ty::r=>match T ty,BG T sl bx r with
  |some ti,some (c,vs)=>match gG t sl with
   |.ptr b o=>match oX ti (.ptr b o) bx with
    |some ⟨c',v,_⟩=>some (c'∧c,v::vs)
    |none=>none
   |_=>none
  |_,_=>none
def B9:List AV→AV
 |[v]=>v
 |vs=>.dX vs
def Ig (bx:List aB):AV→Option AV
 |.dX vs=>(eX bx vs).map .dX
 |v=>pu bx v
def tQ (bx:List aB):AV→List aB
 |.dX vs=>fy bx vs
 |v=>lI bx v
def AV.within (n:Nat):AV→Bool
 |.any|.d _|.k _|.ep _|.cl _=>true
 |.agg cs|.dX cs|.fn _ cs=>qZ n cs
 |.rN _ x|.cond _ x=>x.within n
 |.ptr b _|.rp b _ _ _|.ow b _ _|.vw b _ _ _ _ _|.Bx b=>Nat.blt b n
where
 qZ (n:Nat):List AV→Bool
  |[]=>true
  |x::xs=>x.within n&&qZ n xs
def cw (n:Nat):List aB→Bool
 |[]=>true
 |.var cs::r=>AV.within.qZ n cs&&cw n r
 |_::r=>cw n r
def kill:List Bool→List aB→List aB
 |[],bs=>bs
 |_,[]=>[]
 |k::ks,b::bs=>(bif k&&b.born then .dead else b)::kill ks bs
structure Tz (n:Nat) (c:Prop) (v:AV) (bx:List aB) (res:jN) (aZ:List aB):Prop where
 ok:c∧((res=.ret v∧aZ=bx)∨
  (∃ks u,Ig bx v=some u∧u.within n=true∧aZ=(kill ks (tQ bx v)).take n∧cw n aZ=true∧res=.ret u)∨
  (∃k sz m es,v=.ow k sz m∧bx[k]?=some (.row sz es)∧n≤k∧n≤bx.length∧cw n (bx.take n)=true∧res=.ret (.ow n sz m)∧aZ=bx.take n++[.row sz es])∨
  (∃sz,v=.cl []∧n≤bx.length∧cw n (bx.take n)=true∧res=.ret (.ow n sz 0)∧aZ=bx.take n++[.row sz []]))
structure TA (v:AV) (bx:List aB) (res:jN) (aZ:List aB):Prop where
 ok:res=.LZ v∧aZ=bx
def KF (T:Nat→Option TI) (results:List ResultVar) (n:Nat) (res:jN) (aZ:List aB):Ex→St→Prop
 |.exit _,_=>False
 |.panic v,s=>TA v s.bx res aZ
 |_,s=>match BG T s.sl s.bx results with
  |some (c,vs)=>Tz n c (B9 vs) s.bx res aZ
  |none=>False
def pG:Nat→List AV→List (Nat×AV)
 |_,[]=>[]
 |i,x::xs=>(i,x)::pG (i+1) xs
end Dem
