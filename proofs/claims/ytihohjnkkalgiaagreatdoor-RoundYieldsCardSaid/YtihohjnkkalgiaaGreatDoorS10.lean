/- Parts of a proof, joined. -/
import Derived.Test.YtihohjnkkalgiaaGreatDoorS09
set_option linter.all false
set_option maxRecDepth 100000
set_option maxHeartbeats 4000000
open Go
namespace Dem
abbrev Th:=(α:Type)→(Unit→α)→α
def t0:Th:=fun _ f=>f ()
section
variable (t:Th)
def AV.Se (bx:List aA):AV→Option (Prop×D)
 |.d x=>some (True,x)
 |.cl es=>some (True,.sl es)
 |.fn f []=>some (True,.fn f)
 |.ow b sz n=>match bx[b]? with
  |some (.row s es)=>bif Nat.beq s sz then some (t Prop (fun _=>n=es.length),.sl es) else none
  |some (.kI s es)=>bif Nat.beq s sz then some (t Prop (fun _=>n=es.length),.sl es) else none
  |_=>none
 |_=>none
def Am (bx:List aA):List AV→Option (Prop×List D)
 |[]=>some (True,[])
 |x::xs=>match x.Se t bx,Am bx xs with
  |some (c,y),some (d,ys)=>some (c∧d,y::ys)
  |_,_=>none
def AV.xQ (bx:List aA):AV→Option (Prop×List (List D))
 |.d (.sl es)=>some (True,es)
 |.cl es=>some (True,es)
 |.ow b sz n=>match bx[b]? with
  |some (.row s es)=>bif Nat.beq s sz then some (t Prop (fun _=>n=es.length),es) else none
  |some (.kI s es)=>bif Nat.beq s sz then some (t Prop (fun _=>n=es.length),es) else none
  |_=>none
 |.vw b sz off n _ _=>match bx[b]? with
  |some (.row s es)=>bif Nat.beq s sz then some (t Prop (fun _=>off+n≤es.length),t _ fun _=>(es.drop off).take n) else none
  |some (.kI s es)=>bif Nat.beq s sz then some (t Prop (fun _=>off+n≤es.length),t _ fun _=>(es.drop off).take n) else none
  |_=>none
 |_=>none
def loadT (ti:TI) (a:AV) (bx:List aA):Option R:=
 match a with
 |.ptr b off=>match bx[b]? with
  |some (.var cs)=>match cR ti.kd.isAgg ti.size (cs.drop off) with
   |some v=>R.pure v
   |none=>none
  |_=>none
 |.ep ds=>match cR ti.kd.isAgg ti.size (ds.map .d) with
  |some v=>R.pure v
  |none=>none
 |_=>none
def rowAt (a:AV) (bx:List aA):Option (Prop×List D×Nat):=
 match a with
 |.rp b sz i j=>match bx[b]? with
  |some (.row s es)=>bif Nat.beq s sz then some (t Prop (fun _=>i<es.length),t _ (fun _=>es.getD i []),j) else none
  |some (.kI s es)=>bif Nat.beq s sz then some (t Prop (fun _=>i<es.length),t _ (fun _=>es.getD i []),j) else none
  |_=>none
 |_=>none
def storeT (ti:TI) (a v:AV) (bx:List aA):Option R:=
 match v.cells? with
 |none=>none
 |some vs=>bif Nat.beq vs.length ti.size then
  match a with
  |.ptr b off=>match bx[b]? with
   |some (.var cs)=>bif Nat.ble (off+vs.length) cs.length then some ⟨True,.any,some (bx.set b (.var (eN cs off vs)))⟩ else none
   |_=>none
  |.rp b sz i j=>match Am t bx vs with
   |some (c,ds)=>match (eE bx vs)[b]? with
    |some (.row s es)=>bif Nat.beq s sz then some ⟨c∧t Prop (fun _=>i<es.length∧j+ds.length≤(es.getD i []).length),.any,
     some ((eE bx vs).set b (.row s (t _ (fun _=>es.set i (be (es.getD i []) j ds)))))⟩ else none
    |_=>none
   |none=>none
  |_=>none
  else none
def T8 (op:BinOp) (k:IntKind) (x y:Int):Option (Prop×D):=
 match op with
 |.add=>some (True,.int k (t _ fun _=>k.wrap (x+y)))
 |.sub=>some (True,.int k (t _ fun _=>k.wrap (x-y)))
 |.mul=>some (True,.int k (t _ fun _=>k.wrap (x*y)))
 |.quo=>some (t Prop fun _=>y≠0,.int k (t _ fun _=>k.wrap (x.tdiv y)))
 |.rem=>some (t Prop fun _=>y≠0,.int k (t _ fun _=>x.tmod y))
 |.and=>some (True,.int k (t _ fun _=>k.wrap (BitVec.ofInt k.bits x &&& BitVec.ofInt k.bits y).toNat))
 |.or=>some (True,.int k (t _ fun _=>k.wrap (BitVec.ofInt k.bits x ||| BitVec.ofInt k.bits y).toNat))
 |.xor=>some (True,.int k (t _ fun _=>k.wrap (BitVec.ofInt k.bits x ^^^ BitVec.ofInt k.bits y).toNat))
 |.andNot=>some (True,.int k (t _ fun _=>k.wrap (BitVec.ofInt k.bits x &&& ~~~(BitVec.ofInt k.bits y)).toNat))
 |.eql=>some (True,.bool (t _ fun _=>decide (x=y)))
 |.neq=>some (True,.bool (t _ fun _=>!decide (x=y)))
 |.lss=>some (True,.bool (t _ fun _=>decide (x<y)))
 |.leq=>some (True,.bool (t _ fun _=>decide (x≤y)))
 |.gtr=>some (True,.bool (t _ fun _=>decide (y<x)))
 |.geq=>some (True,.bool (t _ fun _=>decide (y≤x)))
 |_=>none
def T9 (op:BinOp) (x y:List UInt8):Option (Prop×D):=
 match op with
 |.add=>some (t Prop fun _=>x.length+y.length≤9223372036854775807,.str (t _ fun _=>x++y))
 |.eql=>some (True,.bool (t _ fun _=>decide (x=y)))
 |.neq=>some (True,.bool (t _ fun _=>!decide (x=y)))
 |.lss=>some (True,.bool (t _ fun _=>Op.bytesLess x y))
 |.leq=>some (True,.bool (t _ fun _=>Op.bytesLess x y||decide (x=y)))
 |.gtr=>some (True,.bool (t _ fun _=>!(Op.bytesLess x y||decide (x=y))))
 |.geq=>some (True,.bool (t _ fun _=>!Op.bytesLess x y))
 |_=>none
def O1 (op:BinOp) (x y:AV):Option (Prop×D):=
 match op,x,y with
 |.shl,.d (.int k x),.d (.int _ y)=>some (t Prop fun _=>0≤y,.int k (t _ fun _=>k.wrap (x*2^(min y.toNat k.bits))))
 |.shr,.d (.int k x),.d (.int _ y)=>some (t Prop fun _=>0≤y,.int k (t _ fun _=>x.fdiv (2^(min y.toNat k.bits))))
 |op,.d (.int k x),.d (.int k' y)=>bif k==k' then T8 t op k x y else none
 |op,.d (.str x),.d (.str y)=>T9 t op x y
 |_,_,_=>none
def I7 (T:Nat→Option TI):Nat→Nat→AV→AV→Option Bool
 |0,_,_,_=>none
 |n+1,ty,x,y=>match T ty with
  |none=>none
  |some ti=>match ti.kd,x,y with
   |.int _,.d (.int j a),.d (.int k b)=>bif j==k then some (t _ fun _=>decide (a=b)) else none
   |.bool,.d (.bool a),.d (.bool b)=>some (t _ fun _=>a==b)
   |.str,.d (.str a),.d (.str b)=>some (t _ fun _=>decide (a=b))
   |.array len e,.agg xs,.agg ys=>match T e with
    |some te=>bif Nat.beq len 0 then none else (List.range len).foldr (fun i acc=>match cR te.kd.isAgg te.size (xs.drop (i*te.size)),cR te.kd.isAgg te.size (ys.drop (i*te.size)) with
     |some a,some b=>match I7 T n e a b,acc with
      |some p,some q=>some (t _ fun _=>p&&q)
      |_,_=>none
     |_,_=>none) (some true)
    |none=>none
   |.struct fs,.agg xs,.agg ys=>bif ti.eq then fs.foldr (fun f acc=>match T f.2 with
    |some tf=>match cR tf.kd.isAgg tf.size (xs.drop f.1),cR tf.kd.isAgg tf.size (ys.drop f.1) with
     |some a,some b=>match I7 T n f.2 a b,acc with
      |some p,some q=>some (t _ fun _=>p&&q)
      |_,_=>none
     |_,_=>none
    |none=>none) (some true) else none
   |_,_,_=>none
def Ea (p:Bool):AV→AV→AV
 |.d (.bool x),.d (.bool y)=>.d (.bool (t _ fun _=>bif p then x else y))
 |.any,.d (.bool y)=>bif p then .any else .d (.bool y)
 |_,_=>.any
def UU (op:UnOp) (x:AV):Option D:=
 match op,x with
 |.not,.d (.bool b)=>some (.bool (t _ fun _=>!b))
 |.neg,.d (.int k n)=>some (.int k (t _ fun _=>k.wrap (0-n)))
 |.xor,.d (.int k n)=>some (.int k (t _ fun _=>k.wrap (BitVec.ofInt k.bits (if k.signed then -1 else k.max) ^^^ BitVec.ofInt k.bits n).toNat))
 |_,_=>none
def I8 (T:Nat→Option TI) (ty:Nat) (x:AV) (lo hi mx:Option Int) (bx:List aA):Option R:=
 match T ty with
 |some ti=>match ti.kd,x,mx with
  |.str,.d (.str s),none=>some ⟨t Prop fun _=>bS s.length lo hi,.d (.str (t _ fun _=>iD s lo hi)),none⟩
  |.slice e,x,none=>match x.xQ t bx,T e with
   |some (c,es),some te=>some ⟨c∧t Prop (fun _=>bS es.length lo hi∧∀r∈es,r.length=te.size),.d (.sl (t _ fun _=>iD es lo hi)),bif cM [x] then none else some (x.cC bx)⟩
   |_,_=>none
  |.slice e,x,some m=>match x.xQ t bx,hi,T e with
   |some (c,es),some h,some te=>some ⟨c∧t Prop (fun _=>(bS es.length lo (some h)∧m=h)∧∀r∈es,r.length=te.size),.cl (t _ fun _=>iD es lo (some h)),bif cM [x] then none else some (x.cC bx)⟩
   |_,_,_=>none
  |.array n e,.ep ds,none=>match lo,hi,T e with
   |none,none,some te=>bif Nat.ble (n*te.size) ds.length then some ⟨True,.d (.sl (chunk te.size n ds)),none⟩ else none
   |_,_,_=>none
  |.array n e,.ptr b 0,none=>match lo,hi,T e,bx[b]? with
   |none,none,some te,some (.var cs)=>match iV [] cs with
    |some ds=>bif Nat.ble (n*te.size) ds.length then some ⟨True,.d (.sl (chunk te.size n ds)),some (bx.set b .dead)⟩ else none
    |none=>none
   |_,_,_,_=>none
  |_,_,_=>none
 |none=>none
def uS (bx:List aA) (size:Nat):List (Nat×AV)→Option (Prop×List (List D))
 |[]=>some (True,[])
 |(_,v)::r=>match v.cells? with
  |some vs=>match Am t bx vs,uS bx size r with
   |some (c,ds),some (d,rs)=>bif Nat.beq ds.length size then some (c∧d,ds::rs) else none
   |_,_=>none
  |none=>none
def qj (T:Nat→Option TI) (ty n:Nat) (parts:List (Nat×AV)) (bx:List aA):Option R:=
 match T ty with
 |some ti=>match ti.kd with
  |.slice e=>match T e with
   |some te=>bif Nat.beq parts.length n&&mS 0 parts&&Nat.ble (n*te.size) 16777216&&te.zero.cells?.isSome then
    match uS t bx te.size parts with
    |some (c,rs)=>some ⟨c,.cl rs,bif Fh parts then none else some (dR bx parts)⟩
    |none=>none
    else none
   |none=>none
  |_=>none
 |none=>none
def An (size:Nat) (x:AV) (bx:List aA):Option (Prop×List (List D)):=
 match x with
 |.d (.str b)=>bif Nat.beq size 1 then some (True,t _ fun _=>b.map rq) else none
 |x=>x.xQ t bx
def yX (T:Nat→Option TI) (ty:Nat) (s x:AV) (bx:List aA):Option R:=
 match T ty with
 |some ti=>match ti.kd with
  |.slice e=>match T e with
   |some te=>bif eO te then
    match An t te.size x bx with
    |some (c,xs)=>match s with
     |.cl es=>some ⟨c∧t Prop (fun _=>(es=[]∨xs≠[])∧(es.length+xs.length)*te.bytes≤140737488355328∧(∀r∈es++xs,r.length=te.size)),
      .ow bx.length te.size (t _ fun _=>es.length+xs.length),some (bx++[.row te.size (t _ fun _=>es++xs)])⟩
     |.ow b sz n=>match bx[b]? with
      |some (.row s2 es)=>bif sameBox b x||!(Nat.beq s2 sz&&Nat.beq sz te.size) then none else
       some ⟨c∧t Prop (fun _=>n=es.length∧(es.length+xs.length)*te.bytes≤140737488355328∧(∀r∈es++xs,r.length=te.size)),
       .ow bx.length te.size (t _ fun _=>es.length+xs.length),some ((bx.set b .dead)++[.row te.size (t _ fun _=>es++xs)])⟩
      |_=>none
     |_=>none
    |none=>none
    else none
   |none=>none
  |_=>none
 |none=>none
def O2 (T:Nat→Option TI) (src dst:Nat) (x:AV) (bx:List aA):Option R:=
 match T src,T dst with
 |some ts,some td=>match ts.kd,td.kd,x with
  |_,.int k,.d (.int _ n)=>R.pure (.d (.int k (t _ fun _=>k.wrap n)))
  |.slice e,.str,x=>match T e,x.xQ t bx with
   |some te,some (c,es)=>match te.kd with
    |.int .u8=>some ⟨c∧t Prop (fun _=>∀r∈es,ry r),.d (.str (t _ fun _=>es.map ru)),none⟩
    |_=>none
   |_,_=>none
  |.str,.str,.d (.str s)=>R.pure (.d (.str s))
  |_,_,_=>none
 |_,_=>none
def Ao (T:Nat→Option TI) (b:Builtin) (args:List AV) (ats:List Nat) (bx:List aA):Option R:=
 match b,args,ats with
 |.len,[x],[ty]=>match T ty with
  |some ti=>match ti.kd,x with
   |.array n _,_=>R.pure (.d (.int .i64 n))
   |.str,.d (.str s)=>R.pure (.d (.int .i64 (t _ fun _=>s.length)))
   |.slice _,x=>match x.xQ t bx with
    |some (c,es)=>some ⟨c,.d (.int .i64 (t _ fun _=>es.length)),none⟩
    |none=>none
   |_,_=>none
  |none=>none
 |.min,[.d (.int k x),.d (.int _ y)],_=>R.pure (.d (.int k (t _ fun _=>min x y)))
 |.max,[.d (.int k x),.d (.int _ y)],_=>R.pure (.d (.int k (t _ fun _=>max x y)))
 |.append,[s,x],[ty,u]=>match T u with
  |some tu=>match tu.kd with
   |.int _=>none
   |_=>yX t T ty s x bx
  |none=>none
 |_,_,_=>none
def Ap (size:Nat) (y:AV) (n:Nat) (bx:List aA):Option (Prop×Nat×List (List D)):=
 match y with
 |.vw b sz off n2 _ _=>match bx[b]? with
  |some (.row s es)=>bif Nat.beq s sz then some (t Prop (fun _=>off+min n2 n≤es.length),t _ (fun _=>min n2 n),t _ fun _=>(es.drop off).take (min n2 n)) else none
  |some (.kI s es)=>bif Nat.beq s sz then some (t Prop (fun _=>off+min n2 n≤es.length),t _ (fun _=>min n2 n),t _ fun _=>(es.drop off).take (min n2 n)) else none
  |_=>none
 |y=>match An t size y bx with
  |some (c,xs)=>some (c,t _ (fun _=>min xs.length n),t _ fun _=>xs.take (min xs.length n))
  |none=>none
def O3 (te:TI) (x y:AV) (bx:List aA):Option R:=
 match viewAt x with
 |some (b,sz,off,n,_,_)=>match bx[b]?,Ap t te.size y n bx with
  |some (.row s es),some (cy,m,xs)=>bif Nat.beq s sz&&Nat.beq sz te.size then
   some ⟨cy∧t Prop (fun _=>eP es off m∧∀r∈xs,r.length=te.size),.d (.int .i64 (t _ fun _=>(m:Int))),
    some (bx.set b (.row sz (t _ fun _=>wrote es off xs)))⟩ else none
  |_,_=>none
 |none=>none
def UW (te:TI) (x:AV) (bx:List aA):Option R:=
 match viewAt x with
 |some (b,sz,off,n,_,_)=>match bx[b]?,mT te with
  |some (.row s es),some z=>bif Nat.beq s sz&&Nat.beq sz te.size&&eO te then
   some ⟨t Prop (fun _=>eP es off n),.eA [],some (bx.set b (.row sz (t _ fun _=>wrote es off (List.replicate n z))))⟩ else none
  |_,_=>none
 |none=>none
def W9 (te:TI) (b sz off n c:Nat) (ex:Bool) (m:Int) (bx:List aA):Option R:=
 match bx[b]?,mT te with
 |some (.row s es),some z=>bif Nat.beq s sz&&Nat.beq sz te.size&&eO te&&ex then
  some ⟨t Prop (fun _=>0≤m∧c<n+m.toNat∧off+n≤es.length∧(n+m.toNat)*te.bytes≤140737488355328),
   .vw bx.length sz 0 (t _ fun _=>n+m.toNat) (t _ fun _=>n+m.toNat) false,some (bx++[.row sz (t _ fun _=>(es.drop off).take n++List.replicate m.toNat z)])⟩ else none
 |_,_=>none
def Eb (te:TI) (b sz off n c:Nat) (ex:Bool) (y:AV) (bx:List aA):Option R:=
 match bx[b]?,An t te.size y bx with
 |some (.row s es),some (cy,xs)=>bif Nat.beq s sz&&Nat.beq sz te.size then
  some ⟨cy∧t Prop (fun _=>eP es (off+n) xs.length∧n+xs.length≤c∧∀r∈xs,r.length=te.size),.vw b sz off (t _ fun _=>n+xs.length) c ex,
   some (bx.set b (.row sz (t _ fun _=>wrote es (off+n) xs)))⟩ else none
 |_,_=>none
def Xa (te:TI) (n m:Int) (bx:List aA):Option R:=
 match mT te with
 |some z=>bif eO te then some ⟨t Prop (fun _=>0≤n∧n=m∧n.toNat*te.bytes≤140737488355328),.ow bx.length te.size (t _ fun _=>n.toNat),some (bx++[.row te.size (t _ fun _=>List.replicate n.toNat z)])⟩ else none
 |none=>none
def O4 (T:Nat→Option TI) (ev:Operand→AV) (o:Op) (bx:List aA):Option R:=
 match o with
 |.slice ty x lo hi mx=>match ev x,elemOf T ty,BM ev lo,BM ev hi,BM ev mx with
  |.vw b sz off n c ex,some te,some l,some h,some none=>bif Nat.beq te.size sz then
   some ⟨t Prop (fun _=>dS n c l h),.vw b sz (t _ fun _=>off+aW l) (t _ fun _=>aS n h-aW l) (t _ fun _=>c-aW l) ex,none⟩ else none
  |.vw b sz off n c ex,some te,some l,some (some h),some (some m)=>bif Nat.beq te.size sz then
   some ⟨t Prop (fun _=>bS c l (some h)∧h≤m∧m≤c),.vw b sz (t _ fun _=>off+aW l) (t _ fun _=>h.toNat-aW l) (t _ fun _=>m.toNat-aW l) true,none⟩ else none
  |_,_,_,_,_=>none
 |.indexAddr ty x i=>match ev x,elemOf T ty,ev i with
  |.vw b sz off n _ _,some te,.d (.int _ z)=>bif Nat.beq te.size sz then some ⟨t Prop (fun _=>0≤z∧z<n),.rp b sz (t _ fun _=>off+z.toNat) 0,none⟩ else none
  |_,_,_=>none
 |.makeSlice ty a b=>match elemOf T ty,ev a,ev b with
  |some te,.d (.int .i64 n),.d (.int .i64 m)=>Xa t te n m bx
  |_,_,_=>none
 |.call {callee:=.builtin b,args,argTypes}=>match b,args.toList.map ev,argTypes.toList with
  |.len,[.vw _ _ _ n _ _],[ty]=>match elemOf T ty with
   |some _=>R.pure (.d (.int .i64 (t _ fun _=>n)))
   |none=>none
  |.cap,[.vw _ _ _ _ c true],[ty]=>match elemOf T ty with
   |some _=>R.pure (.d (.int .i64 (t _ fun _=>c)))
   |none=>none
  |.copy,[x,y],ty::_=>match elemOf T ty with
   |some te=>O3 t te x y bx
   |none=>none
  |.clear,[x],ty::_=>match elemOf T ty with
   |some te=>UW t te x bx
   |none=>none
  |.append,[.vw b sz off n c ex,y],[ty,u]=>match elemOf T ty,DN T u with
   |some te,some true=>match y with
    |.d (.int .i64 m)=>W9 t te b sz off n c ex m bx
    |_=>none
   |some te,some false=>bif sameBox b y then Eb t te b sz off n c ex y bx else
    match bx[b]?,yX t T ty (.ow b sz n) y bx with
    |some (.row _ es),some ⟨c1,v,aU⟩=>some ⟨c1∧t Prop (fun _=>whole es off n c ex),v,aU⟩
    |_,_=>none
   |_,_=>none
  |_,_,_=>none
 |_=>none
def BY (T:Nat→Option TI) (ev:Operand→AV) (o:Op) (bx:List aA):Option R:=
 match o with
 |.move x=>R.pure (ev x)
 |.assign x=>R.pure (ev x)
 |.alloc ty=>match T ty with
  |some ti=>match ti.zero.cells? with
   |some cs=>some ⟨True,.ptr bx.length 0,some (bx++[.var cs])⟩
   |none=>none
  |none=>none
 |.box _ x=>match (ev x).cells? with
  |some cs=>some ⟨True,.ptr bx.length 0,some (bx++[.var cs])⟩
  |none=>none
 |.load ty a=>match T ty with
  |some ti=>loadT ti (ev a) bx
  |none=>none
 |.store ty a x=>match T ty with
  |some ti=>storeT t ti (ev a) (ev x) bx
  |none=>none
 |.build ty parts=>DM T ty (parts.toList.map fun p=>(p.1,ev p.2))
 |.buildSlice ty n parts=>qj t T ty n (parts.toList.map fun p=>(p.1,ev p.2)) bx
 |.fieldAddr ty x f=>match T ty with
  |some ti=>match zo ti.kd f with
   |some (o,ft)=>match T ft with
    |some tf=>bif Nat.beq tf.size 0 then none else
     match ev x with
     |.ptr b off=>R.pure (.ptr b (off+o))
     |.rp b sz i j=>R.pure (.rp b sz i (j+o))
     |.ep ds=>bif Nat.ble o ds.length then R.pure (.ep (ds.drop o)) else none
     |_=>none
    |none=>none
   |none=>none
  |none=>none
 |.indexAddr ty x i=>match T ty with
  |some ti=>match ti.kd,ev i with
   |.array n e,.d (.int _ z)=>match T e with
    |some te=>match ev x with
     |.ptr b off=>some ⟨t Prop fun _=>0≤z∧z<n,.ptr b (off+z.toNat*te.size),none⟩
     |.rp b sz a j=>some ⟨t Prop fun _=>0≤z∧z<n,.rp b sz a (j+z.toNat*te.size),none⟩
     |.ep ds=>some ⟨t Prop fun _=>0≤z∧z<n∧z.toNat*te.size≤ds.length,.ep (ds.drop (z.toNat*te.size)),none⟩
     |_=>none
    |none=>none
   |.slice e,.d (.int _ z)=>match T e,ev x with
    |some te,.ow b sz n=>bif Nat.beq te.size sz then some ⟨t Prop fun _=>0≤z∧z<n,.rp b sz (t _ fun _=>z.toNat) 0,none⟩ else none
    |_,_=>none
   |_,_=>none
  |none=>none
 |.field ty x f=>match T ty with
  |some ti=>match zo ti.kd f with
   |some (o,ft)=>match T ft,ev x with
    |some tf,.agg cs=>match cR tf.kd.isAgg tf.size (cs.drop o) with
     |some v=>R.pure v
     |none=>none
    |_,_=>none
   |none=>none
  |none=>none
 |.index ty x i=>match T ty with
  |some ti=>match ti.kd,ev x,ev i with
   |.str,.d (.str s),.d (.int _ z)=>some ⟨t Prop fun _=>0≤z∧z<s.length,.d (.int .u8 (t _ fun _=>(s.getD z.toNat 0).toNat)),none⟩
   |.array n e,.agg cs,.d (.int _ z)=>match T e with
    |some te=>match cR te.kd.isAgg te.size (cs.drop (z.toNat*te.size)) with
     |some v=>some ⟨t Prop fun _=>0≤z∧z<n,v,none⟩
     |none=>none
    |none=>none
   |_,_,_=>none
  |none=>none
 |.extract x i=>match ev x with
  |.eA vs=>match vs[i]? with
   |some v=>R.pure v
   |none=>none
  |_=>none
 |.binOp op ty x y _=>match ev x,ev y with
  |.agg xs,.agg ys=>match op with
   |.eql=>(I7 t T 8 ty (.agg xs) (.agg ys)).bind fun d=>R.pure (.d (.bool d))
   |.neq=>(I7 t T 8 ty (.agg xs) (.agg ys)).bind fun d=>R.pure (.d (.bool (t _ fun _=>!d)))
   |_=>none
  |.d (.bool p),.d (.bool q)=>match T ty,op with
   |some ti,.eql=>match ti.kd with
    |.bool=>R.pure (.d (.bool (t _ fun _=>p==q)))
    |_=>none
   |some ti,.neq=>match ti.kd with
    |.bool=>R.pure (.d (.bool (t _ fun _=>!(p==q))))
    |_=>none
   |_,_=>none
  |.rY _ _,.k .nilIface=>match T ty,op with
   |some ti,.eql=>match ti.kd with
    |.iface=>R.pure (.d (.bool false))
    |_=>none
   |some ti,.neq=>match ti.kd with
    |.iface=>R.pure (.d (.bool true))
    |_=>none
   |_,_=>none
  |.k .nilIface,.k .nilIface=>match y with
   |.const _=>match T ty,op with
    |some ti,.eql=>match ti.kd with
     |.iface=>R.pure (.d (.bool true))
     |_=>none
    |some ti,.neq=>match ti.kd with
     |.iface=>R.pure (.d (.bool false))
     |_=>none
    |_,_=>none
   |_=>none
  |x,y=>match O1 t op x y with
   |some (c,d)=>some ⟨c,.d d,none⟩
   |none=>none
 |.unOp op _ x=>(UU t op (ev x)).bind fun d=>R.pure (.d d)
 |.convert s d x=>O2 t T s d (ev x) bx
 |.slice ty x lo hi mx=>match BM ev lo,BM ev hi,BM ev mx with
  |some l,some h,some m=>I8 t T ty (ev x) l h m bx
  |_,_,_=>none
 |.makeFunc (.func f) first jV=>bif first.toList.isEmpty then (bif j9 (jV.toList.map ev) then R.pure (.fn f (jV.toList.map ev)) else none) else R.pure (.fn f (.eA (first.toList.map ev)::jV.toList.map ev))
 |.makeInterface t x=>match T t with
  |some ti=>bif ti.kd.plain then R.pure (.rY t (ev x)) else none
  |none=>none
 |.typeAssert x _ u ok=>match T u with
  |some tu=>bif tu.kd.plain&&tu.zero.cells?.isSome then
   match ev x with
   |.rY t v=>bif Nat.beq t u then R.pure (bif ok then .eA [v,.d (.bool true)] else v) else bif ok then R.pure (.eA [tu.zero,.d (.bool false)]) else none
   |.k .nilIface=>bif ok then R.pure (.eA [tu.zero,.d (.bool false)]) else none
   |_=>none
   else none
  |none=>none
 |.nilCheck x=>match ev x with
  |.ptr b o=>R.pure (.ptr b o)
  |.rp b s i j=>R.pure (.rp b s i j)
  |.ep ds=>R.pure (.ep ds)
  |.fn f cs=>R.pure (.fn f cs)
  |_=>none
 |.call {callee:=.builtin b,args,argTypes}=>Ao t T b (args.toList.map ev) argTypes.toList bx
 |_=>none
def Ws (T:Nat→Option TI) (ev:Operand→AV) (o:Op) (bx:List aA):Option R:=
 bif iZ ev o then O4 t T ev o bx else BY t T ev o bx
end
section
variable {bx:List aA}
theorem O5 {x:AV} {c:Prop} {y:D} (h:x.Se t0 bx=some (c,y)) (hc:c):x.rm bx=some y:=by
 unfold AV.Se at h
 split at h
 ·simp only [osI,Prod.mk.injEq] at h;obtain ⟨rfl,rfl⟩:=h;rfl
 ·simp only [osI,Prod.mk.injEq] at h;obtain ⟨rfl,rfl⟩:=h;rfl
 ·simp only [osI,Prod.mk.injEq] at h;obtain ⟨rfl,rfl⟩:=h;rfl
 ·rename_i b sz n
  split at h
  ·rename_i s es hb
   cases hs:Nat.beq s sz with
   |false=>simp [hs] at h
   |true=>
   simp only [hs,cond_true,osI,Prod.mk.injEq] at h
   obtain ⟨rfl,rfl⟩:=h
   have hn:n=es.length:=hc
   simp [AV.rm,hb,hs,hn]
  ·rename_i s es hb
   cases hs:Nat.beq s sz with
   |false=>simp [hs] at h
   |true=>
   simp only [hs,cond_true,osI,Prod.mk.injEq] at h
   obtain ⟨rfl,rfl⟩:=h
   have hn:n=es.length:=hc
   simp [AV.rm,hb,hs,hn]
  simp at h
 simp at h
theorem uT:∀{xs:List AV} {c:Prop} {ys:List D},Am t0 bx xs=some (c,ys)→c→iV bx xs=some ys
 |[],c,ys,h,_=>by simp [Am] at h;simp [iV,h.2]
 |x::xs,c,ys,h,hc=>by
  simp only [Am] at h
  split at h
  ·rename_i c1 y d ys' h1 h2
   simp only [osI,Prod.mk.injEq] at h
   obtain ⟨rfl,rfl⟩:=h
   simp [iV,O5 h1 hc.1,uT h2 hc.2]
  simp at h
theorem ko {x:AV} {c:Prop} {es:List (List D)} (h:x.xQ t0 bx=some (c,es)) (hc:c):x.rows bx=some es:=by
 unfold AV.xQ at h
 split at h
 ·simp only [osI,Prod.mk.injEq] at h;obtain ⟨rfl,rfl⟩:=h;rfl
 ·simp only [osI,Prod.mk.injEq] at h;obtain ⟨rfl,rfl⟩:=h;rfl
 ·rename_i b sz n
  split at h
  ·rename_i s es' hb
   cases hs:Nat.beq s sz with
   |false=>simp [hs] at h
   |true=>
   simp only [hs,cond_true,osI,Prod.mk.injEq] at h
   obtain ⟨rfl,rfl⟩:=h
   have hn:n=es'.length:=hc
   simp [AV.rows,hb,hs,hn]
  ·rename_i s es' hb
   cases hs:Nat.beq s sz with
   |false=>simp [hs] at h
   |true=>
   simp only [hs,cond_true,osI,Prod.mk.injEq] at h
   obtain ⟨rfl,rfl⟩:=h
   have hn:n=es'.length:=hc
   simp [AV.rows,hb,hs,hn]
  simp at h
 ·rename_i b sz off n _ _
  split at h
  ·rename_i s es' hb
   cases hs:Nat.beq s sz with
   |false=>simp [hs] at h
   |true=>
   simp only [hs,cond_true,osI,Prod.mk.injEq] at h
   obtain ⟨rfl,rfl⟩:=h
   have hn:Nat.ble (off+n) es'.length=true:=Nat.ble_eq_true_of_le hc
   simp [AV.rows,hb,hs,hn,t0]
  ·rename_i s es' hb
   cases hs:Nat.beq s sz with
   |false=>simp [hs] at h
   |true=>
   simp only [hs,cond_true,osI,Prod.mk.injEq] at h
   obtain ⟨rfl,rfl⟩:=h
   have hn:Nat.ble (off+n) es'.length=true:=Nat.ble_eq_true_of_le hc
   simp [AV.rows,hb,hs,hn,t0]
  simp at h
 simp at h
theorem Gn {T:Nat→Option TI}:∀(n ty:Nat) (x y:AV),I7 t0 T n ty x y=BK T n ty x y
 |0,_,_,_=>rfl
 |n+1,ty,x,y=>by
  have ih:∀e a b,I7 t0 T n e a b=BK T n e a b:=fun e a b=>Gn n e a b
  simp only [I7,BK,ih]
  rfl
def nS (r:Option R) (v:AV) (b:Option (List aA)):Prop:=∃c',r=some ⟨c',v,b⟩∧c'
theorem Sf {ti:TI} {a:AV} {c:Prop} {v:AV} {b:Option (List aA)} (h:loadT ti a bx=some ⟨c,v,b⟩) (hc:c):nS (o9 ti a bx) v b:=by
 cases a with
 |rp=>simp [loadT] at h
 |_=>exact ⟨c,h,hc⟩
theorem O6 {ti:TI} {a x:AV} {c:Prop} {v:AV} {b:Option (List aA)} (h:storeT t0 ti a x bx=some ⟨c,v,b⟩) (hc:c):nS (sR ti a x bx) v b:=by
 unfold storeT at h
 unfold sR
 split at h
 ·simp at h
 rename_i vs hvs
 simp only [hvs]
 cases hl:Nat.beq vs.length ti.size with
 |false=>simp [hl] at h
 |true=>
 simp only [hl,cond_true] at h ⊢
 split at h
 ·exact ⟨c,h,hc⟩
 ·rename_i b' sz i j
  split at h
  ·rename_i c1 ds hds
   split at h
   ·rename_i s es hb
    cases hs:Nat.beq s sz with
    |false=>simp [hs] at h
    |true=>
    simp only [hs,cond_true,osI,R.mk.injEq] at h
    obtain ⟨rfl,rfl,rfl⟩:=h
    have hs':s=sz:=Nat.eq_of_beq_eq_true hs
    simp only [uT hds hc.1,hb]
    exact ⟨_,rfl,hs',hc.2.1,hc.2.2⟩
   simp at h
  simp at h
 simp at h
theorem Sg (op:BinOp) (k:IntKind) (x y:Int):T8 t0 op k x y=RD op k x y:=by cases op<;>rfl
theorem Sh (op:BinOp) (x y:List UInt8):T9 t0 op x y=RE op x y:=by cases op<;>rfl
theorem Si (op:BinOp) (x y:AV):O1 t0 op x y=N9 op x y:=by
 unfold O1 N9;simp only [Sg,Sh];rfl
theorem UX (op:UnOp) (x:AV):UU t0 op x=Wg op x:=by
 unfold UU Wg;rfl
theorem Gp (p:Bool) (x y:AV):Ea t0 p x y=zq p x y:=by
 unfold Ea zq;rfl
theorem O7 {T:Nat→Option TI} {ty:Nat} {x:AV} {lo hi mx:Option Int} {c:Prop} {v:AV} {b:Option (List aA)} (h:I8 t0 T ty x lo hi mx bx=some ⟨c,v,b⟩) (hc:c):nS (pL T ty x lo hi mx bx) v b:=by
 unfold I8 at h
 unfold pL
 split at h
 ·rename_i ti ht
  simp only [ht]
  split at h
  ·rename_i s hk
   simp only [hk]
   exact ⟨c,h,hc⟩
  ·rename_i e hk
   simp only [hk]
   split at h
   ·rename_i c1 es te h1 h2
    simp only [osI,R.mk.injEq] at h
    obtain ⟨rfl,rfl,rfl⟩:=h
    simp only [ko h1 hc.1,h2]
    exact ⟨_,rfl,hc.2⟩
   simp at h
  ·rename_i e m hk
   simp only [hk]
   split at h
   ·rename_i c1 es h' te h1 h2
    simp only [osI,R.mk.injEq] at h
    obtain ⟨rfl,rfl,rfl⟩:=h
    simp only [ko h1 hc.1,h2]
    exact ⟨_,rfl,hc.2⟩
   simp at h
  ·rename_i n e ds hk
   simp only [hk]
   split at h
   ·rename_i te hte
    cases hb:Nat.ble (n*te.size) ds.length with
    |false=>simp [hb] at h
    |true=>
    simp only [hb,cond_true,osI,R.mk.injEq] at h
    obtain ⟨rfl,rfl,rfl⟩:=h
    simp only [hte]
    exact ⟨_,rfl,Nat.le_of_ble_eq_true hb⟩
   simp at h
  ·rename_i n e b hk
   simp only [hk]
   split at h
   ·rename_i te cs hte rG
    split at h
    ·rename_i ds hd
     cases hb:Nat.ble (n*te.size) ds.length with
     |false=>simp [hb] at h
     |true=>
     simp only [hb,cond_true,osI,R.mk.injEq] at h
     obtain ⟨rfl,rfl,rfl⟩:=h
     simp only [hte,rG,hd]
     exact ⟨_,rfl,Nat.le_of_ble_eq_true hb⟩
    simp at h
   simp at h
  simp at h
 simp at h
theorem CN {size:Nat}:∀{parts:List (Nat×AV)} {c:Prop} {rs:List (List D)},uS t0 bx size parts=some (c,rs)→c→rowsOf bx size parts=some rs
 |[],c,rs,h,_=>by simp [uS] at h;simp [rowsOf,h.2]
 |(i,v)::r,c,rs,h,hc=>by
  simp only [uS] at h
  split at h
  ·rename_i vs hvs
   split at h
   ·rename_i c1 ds d WI h1 h2
    cases hl:Nat.beq ds.length size with
    |false=>simp [hl] at h
    |true=>
    simp only [hl,cond_true,osI,Prod.mk.injEq] at h
    obtain ⟨rfl,rfl⟩:=h
    simp only [rowsOf,hvs,uT h1 hc.1,CN h2 hc.2,hl,cond_true]
   simp at h
  simp at h
theorem BZ {T:Nat→Option TI} {ty n:Nat} {parts:List (Nat×AV)} {c:Prop} {v:AV} {b:Option (List aA)} (h:qj t0 T ty n parts bx=some ⟨c,v,b⟩) (hc:c):nS (fY T ty n parts bx) v b:=by
 unfold qj at h
 unfold fY
 split at h
 ·rename_i ti ht
  simp only [ht]
  split at h
  ·rename_i e hk
   simp only [hk]
   split at h
   ·rename_i te hte
    simp only [hte]
    cases hb:(Nat.beq parts.length n&&mS 0 parts&&Nat.ble (n*te.size) 16777216&&te.zero.cells?.isSome) with
    |false=>simp only [hb,cond_false] at h;simp at h
    |true=>
    simp only [hb,cond_true] at h ⊢
    split at h
    ·rename_i c1 rs h1
     simp only [osI,R.mk.injEq] at h
     obtain ⟨rfl,rfl,rfl⟩:=h
     simp only [CN h1 hc]
     exact ⟨_,rfl,trv⟩
    simp at h
   simp at h
  simp at h
 simp at h
theorem uU {size:Nat} {x:AV} {c:Prop} {xs:List (List D)} (h:An t0 size x bx=some (c,xs)) (hc:c):kJ size x bx=some xs:=by
 unfold An at h
 split at h
 ·rename_i b
  simp only [kJ]
  cases hs:Nat.beq size 1 with
  |false=>simp [hs] at h
  |true=>
   simp only [hs,cond_true,osI,Prod.mk.injEq] at h ⊢
   exact h.2
 rename_i hx
 unfold kJ
 split
 ·rename_i b;exact absurd rfl (hx b)
 exact ko h hc
theorem CO {T:Nat→Option TI} {ty:Nat} {s x:AV} {c:Prop} {v:AV} {b:Option (List aA)} (h:yX t0 T ty s x bx=some ⟨c,v,b⟩) (hc:c):nS (lz T ty s x bx) v b:=by
 unfold yX at h
 unfold lz
 split at h
 ·rename_i ti ht
  simp only [ht]
  split at h
  ·rename_i e hk
   simp only [hk]
   split at h
   ·rename_i te hte
    simp only [hte]
    cases hz:eO te with
    |false=>simp [hz] at h
    |true=>
    simp only [hz,cond_true] at h ⊢
    split at h
    ·rename_i c1 xs h1
     split at h
     ·rename_i es
      simp only [osI,R.mk.injEq] at h
      obtain ⟨rfl,rfl,rfl⟩:=h
      obtain ⟨BO,hne,hl,hr⟩:=hc
      simp only [uU h1 BO]
      cases es with
      |nil=>
       refine ⟨_,by simp only [t0,List.length_nil,Nat.zero_add,List.nil_append];rfl,?_⟩
       exact ⟨by simpa using hl,by simpa using hr⟩
      |cons e0 er=>
       cases xs with
       |nil=>simp at hne
       |cons x0 xr=>exact ⟨_,rfl,hl,hr⟩
     ·rename_i b' sz n
      split at h
      ·rename_i s2 es hb
       cases IE:sameBox b' x with
       |true=>simp [IE] at h
       |false=>
       cases h2:Nat.beq s2 sz with
       |false=>simp [IE,h2] at h
       |true=>
       cases h3:Nat.beq sz te.size with
       |false=>simp [IE,h2,h3] at h
       |true=>
       simp only [IE,h2,h3,Bool.and_self,Bool.not_true,Bool.or_self,cond_false,osI,R.mk.injEq] at h
       obtain ⟨rfl,rfl,rfl⟩:=h
       obtain ⟨BO,hn,hl,hr⟩:=hc
       simp only [uU h1 BO,hb,IE,cond_false]
       exact ⟨_,rfl,Nat.eq_of_beq_eq_true h2,Nat.eq_of_beq_eq_true h3,hn,hl,hr⟩
      simp at h
     simp at h
    simp at h
   simp at h
  simp at h
 simp at h
theorem Sj {T:Nat→Option TI} {src dst:Nat} {x:AV} {c:Prop} {v:AV} {b:Option (List aA)} (h:O2 t0 T src dst x bx=some ⟨c,v,b⟩) (hc:c):nS (xj T src dst x bx) v b:=by
 unfold O2 at h
 unfold xj
 split at h
 ·rename_i ts td h1 h2
  simp only [h1,h2]
  generalize ts.kd=ks at h ⊢
  generalize td.kd=kd at h ⊢
  cases kd with
  |int k=>
   cases x with
   |d y=>cases y with
    |int k' n=>exact ⟨c,h,hc⟩
    |_=>cases ks<;>simp at h
   |_=>cases ks<;>simp at h
  |str=>
   cases ks with
   |slice e=>
    simp only at h ⊢
    split at h
    ·rename_i te c1 es h3 h4
     simp only [h3]
     split at h
     ·rename_i hk
      simp only [osI,R.mk.injEq] at h
      obtain ⟨rfl,rfl,rfl⟩:=h
      simp only [ko h4 hc.1,hk]
      exact ⟨_,rfl,hc.2⟩
     simp at h
    simp at h
   |str=>
    cases x with
    |d y=>cases y with
     |str s=>exact ⟨c,h,hc⟩
     |_=>simp at h
    |_=>simp at h
   |_=>simp at h
  |_=>cases ks<;>simp at h
 simp at h
theorem Sk {x:AV} {es:List (List D)} (hr:x.rows bx=some es):zu x bx=some (.d (.int .i64 es.length)):=by
 unfold AV.rows at hr
 split at hr
 ·simp only [osI] at hr;subst hr;rfl
 ·simp only [osI] at hr;subst hr;rfl
 ·simp only [zu,AV.rows,hr]
 ·simp only [zu,AV.rows,hr]
 simp at hr
theorem I9 {T:Nat→Option TI} {bi:Builtin} {args:List AV} {ats:List Nat} {c:Prop} {v:AV} {b:Option (List aA)} (h:Ao t0 T bi args ats bx=some ⟨c,v,b⟩) (hc:c):nS (iY T bi args ats bx) v b:=by
 unfold Ao at h
 split at h
 ·rename_i x ty
  simp only [iY]
  split at h
  ·rename_i ti ht
   simp only [ht]
   split at h
   ·rename_i n e hk;simp only [hk];exact ⟨c,h,hc⟩
   ·rename_i s hk;simp only [hk];exact ⟨c,h,hc⟩
   ·rename_i e hk
    simp only [hk]
    split at h
    ·rename_i c1 es h1
     simp only [osI,R.mk.injEq] at h
     obtain ⟨rfl,rfl,rfl⟩:=h
     have hr:=ko h1 hc
     simp only [Sk hr]
     exact ⟨_,rfl,trv⟩
    simp at h
   simp at h
  simp at h
 ·exact ⟨c,h,hc⟩
 ·exact ⟨c,h,hc⟩
 ·rename_i s x ty u
  simp only [iY]
  split at h
  ·rename_i tu hu
   simp only [hu]
   split at h
   ·simp at h
   rename_i hk
   split
   ·rename_i k hk';exact absurd hk' (hk k)
   exact CO h hc
  simp at h
 simp at h
theorem Ja {size n m:Nat} {y:AV} {c:Prop} {xs:List (List D)} (h:Ap t0 size y n bx=some (c,m,xs)) (hc:c):∃c',uh size y n bx=some (c',m,xs)∧c':=by
 unfold Ap at h
 unfold uh
 split at h
 ·exact ⟨c,h,hc⟩
 split at h
 ·rename_i c1 zs hz
  simp only [osI,Prod.mk.injEq] at h
  obtain ⟨rfl,rfl,rfl⟩:=h
  simp only [uU hz hc]
  exact ⟨_,rfl,trv⟩
 simp at h
theorem Sl {te:TI} {x y:AV} {c:Prop} {v:AV} {b:Option (List aA)} (h:O3 t0 te x y bx=some ⟨c,v,b⟩) (hc:c):nS (Cp te x y bx) v b:=by
 unfold O3 at h
 unfold Cp
 split at h
 ·rename_i bb sz off n c0 sg hv
  simp only [hv]
  split at h
  ·rename_i s es cy m xs hb hxs
   simp only [hb]
   cases hq:(Nat.beq s sz&&Nat.beq sz te.size) with
   |false=>simp only [hq,cond_false] at h;simp at h
   |true=>
   simp only [hq,cond_true,osI,R.mk.injEq] at h ⊢
   obtain ⟨rfl,rfl,rfl⟩:=h
   obtain ⟨c2,k1,k2⟩:=Ja hxs hc.1
   simp only [k1,hq,cond_true]
   exact ⟨_,rfl,k2,hc.2⟩
  simp at h
 simp at h
theorem Mz {te:TI} {bb sz off n c0:Nat} {ex:Bool} {y:AV} {c:Prop} {v:AV} {b:Option (List aA)} (h:Eb t0 te bb sz off n c0 ex y bx=some ⟨c,v,b⟩) (hc:c):nS (rA te bb sz off n c0 ex y bx) v b:=by
 unfold Eb at h
 unfold rA
 split at h
 ·rename_i s es cy xs hb hxs
  simp only [hb]
  cases hq:(Nat.beq s sz&&Nat.beq sz te.size) with
  |false=>simp only [hq,cond_false] at h;simp at h
  |true=>
  simp only [hq,cond_true,osI,R.mk.injEq] at h ⊢
  obtain ⟨rfl,rfl,rfl⟩:=h
  simp only [uU hxs hc.1,hq,cond_true]
  exact ⟨_,rfl,hc.2⟩
 simp at h
theorem Sm {T:Nat→Option TI} {ev:Operand→AV} {o:Op} {c:Prop} {v:AV} {b:Option (List aA)} (h:O4 t0 T ev o bx=some ⟨c,v,b⟩) (hc:c):nS (mU T ev o bx) v b:=by
 unfold O4 at h
 unfold mU
 split at h
 ·exact ⟨c,h,hc⟩
 ·exact ⟨c,h,hc⟩
 ·exact ⟨c,h,hc⟩
 ·rename_i bn args ats
  simp only
  generalize args.toList.map ev=as at h ⊢
  generalize ats.toList=al at h ⊢
  split at h
  ·exact ⟨c,h,hc⟩
  ·exact ⟨c,h,hc⟩
  ·split at h
   ·rename_i te hte;simp only [hte];exact Sl h hc
   simp at h
  ·split at h
   ·rename_i te hte;simp only [hte];exact ⟨c,h,hc⟩
   simp at h
  ·split at h
   ·rename_i te hte hi
    simp only [hte,hi]
    split at h
    ·exact ⟨c,h,hc⟩
    simp at h
   ·rename_i te hte hi
    simp only [hte,hi]
    cases hs:sameBox _ _ with
    |true=>simp only [hs,cond_true] at h ⊢;exact Mz h hc
    |false=>
     simp only [hs,cond_false] at h ⊢
     split at h
     ·rename_i s es c1 v1 pO hb hap
      simp only [osI,R.mk.injEq] at h
      obtain ⟨rfl,rfl,rfl⟩:=h
      obtain ⟨c2,k1,k2⟩:=CO hap hc.1
      simp only [hb,k1]
      exact ⟨_,rfl,k2,hc.2⟩
     simp at h
   simp at h
  simp at h
 simp at h
theorem UY {T:Nat→Option TI} {ev:Operand→AV} {o:Op} {c:Prop} {v:AV} {b:Option (List aA)} (h:BY t0 T ev o bx=some ⟨c,v,b⟩) (hc:c):nS (lA T ev o bx) v b:=by
 cases o with
 |load ty a=>
  simp only [BY,lA] at h ⊢
  split at h
  ·rename_i ti ht;simp only [ht];exact Sf h hc
  simp at h
 |store ty a x=>
  simp only [BY,lA] at h ⊢
  split at h
  ·rename_i ti ht;simp only [ht];exact O6 h hc
  simp at h
 |buildSlice ty n parts=>exact BZ h hc
 |fieldAddr ty x f=>
  simp only [BY,lA] at h ⊢
  split at h
  ·rename_i ti ht
   simp only [ht]
   split at h
   ·rename_i o ft hf
    simp only [hf]
    split at h
    ·rename_i tf RO
     simp only [RO]
     cases hs:Nat.beq tf.size 0 with
     |true=>simp [hs] at h
     |false=>
     simp only [hs,cond_false] at h ⊢
     split at h
     ·rename_i hx;simp only [hx];exact ⟨c,h,hc⟩
     ·rename_i hx;simp only [hx];exact ⟨c,h,hc⟩
     ·rename_i ds hx
      simp only [hx]
      cases hb:Nat.ble o ds.length with
      |false=>simp [hb] at h
      |true=>
      simp only [hb,cond_true,R.pure,osI,R.mk.injEq] at h
      obtain ⟨rfl,rfl,rfl⟩:=h
      exact ⟨_,rfl,Nat.le_of_ble_eq_true hb⟩
     simp at h
    simp at h
   simp at h
  simp at h
 |binOp op ty x y yt=>
  simp only [BY,lA] at h ⊢
  split at h
  ·rename_i xs ys h1 h2
   simp only [h1,h2]
   cases op<;>simp only [Gn] at h ⊢<;>first|exact ⟨c,h,hc⟩|simp at h
  ·rename_i p q h1 h2
   simp only [h1,h2]
   exact ⟨c,h,hc⟩
  ·rename_i t0 v0 h1 h2
   simp only [h1,h2]
   exact ⟨c,h,hc⟩
  ·rename_i h1 h2
   simp only [h1,h2]
   exact ⟨c,h,hc⟩
  rename_i hne Zw Zx Zy
  split
  ·rename_i xs ys h1 h2;exact absurd h2 (hne _ _ h1)
  ·rename_i p q h1 h2;exact absurd h2 (Zw _ _ h1)
  ·rename_i h1 h2;exact absurd h2 (Zx _ _ h1)
  ·rename_i h1 h2;exact absurd h2 (Zy h1)
  rw [Si] at h
  split at h
  ·rename_i c' d hb;simp only [hb];exact ⟨c,h,hc⟩
  simp at h
 |unOp op ty x=>
  simp only [BY,lA,UX] at h ⊢
  exact ⟨c,h,hc⟩
 |convert s d x=>exact Sj h hc
 |slice ty x lo hi mx=>
  simp only [BY,lA] at h ⊢
  split at h
  ·rename_i l h' m h1 h2 h3
   simp only [h1,h2,h3]
   exact O7 h hc
  simp at h
 |call cl=>
  obtain ⟨callee,args,ats⟩:=cl
  cases callee with
  |builtin b=>exact I9 h hc
  |_=>simp [BY] at h
 |makeFunc fn first jV=>cases fn<;>first|exact ⟨c,h,hc⟩|simp [BY] at h
 |_=>exact ⟨c,h,hc⟩
theorem Lj {T:Nat→Option TI} {ev:Operand→AV} {o:Op} {c:Prop} {v:AV} {b:Option (List aA)} (h:Ws t0 T ev o bx=some ⟨c,v,b⟩) (hc:c):nS (Fb T ev o bx) v b:=by
 unfold Ws at h
 unfold Fb
 cases hv:iZ ev o with
 |true=>rw [hv,cond_true] at h;rw [cond_true];exact Sm h hc
 |false=>rw [hv,cond_false] at h;rw [cond_false];exact UY h hc
end
end Dem
