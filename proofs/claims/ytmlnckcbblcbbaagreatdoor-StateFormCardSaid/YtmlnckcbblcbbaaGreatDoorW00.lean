/- Parts of a proof, joined. -/
import Derived.Orders
import Derived.Laws.Append
import Derived.RowKit3
import Derived.Laws.Externs
import Derived.Lib.Strings
set_option linter.all false
set_option maxRecDepth 100000
set_option maxHeartbeats 4000000
section
open Go
namespace Dem
def vaa:=@List.length_append
def vab:=@Prod.mk.injEq
def vac:=@congrArg
def vad:=@Nat.le_refl
def vae:=@Bool.and_eq_true
def vaf:=@Nat.eq_of_beq_eq_true
def vag:=@List.mem_of_getElem?
def vah:=@List.drop_eq_nil_of_le
def vai:=@decide_eq_true_eq
def vaj:=@List.getElem?_eq_getElem
def vak:=@Int.toNat_natCast
def vam:=@List.getD_eq_getElem?_getD
def van:=@List.mem_of_mem_take
def vao:=@List.take_of_length_le
def vap:=@decide_eq_false_iff_not
def vaq:=@List.getElem?_cons_succ
def vas:=@List.append_assoc
def vau:=@Option.map_some
def vav:=@List.length_take
def vaw:=@List.length_drop
def vax:=@List.mem_cons
def vay:=@List.getElem?_eq_none
def vaz:=@List.getElem?_append_left
def vaA:=@List.getElem?_map
def vaB:=@Bool.or_eq_true
def vaC:=@beq_iff_eq
def vaD:=@List.mem_append
def vaE:=@List.all_eq_true
def vaF:=@List.getElem?_append_right
def vaG:=@List.map_map
def vaH:=@List.length_replicate
def vaI:=@List.mem_map
def vaJ:=@Nat.lt_of_lt_of_le
def vaK:=@List.mem_filter
def vaL:=@List.mem_singleton
def vaM:=@List.any_eq_true
end Dem
end
section
open Go
namespace Dem
theorem hY:True:=trivial
theorem osI{α:Type _}{a b:α}:(some a=some b)=(a=b):=Option.some.injEq a b
theorem lgM{α β:Type _}{as:List α}(f:α->β):(as.map f).length=as.length:=List.length_map f
inductive D where
 |bool (b:Bool)|int (k:IntKind) (n:Int)|str (s:List UInt8)|sl (es:List (List D))|fn (f:Nat)|mp (ag:Bool) (es:List (List D))
inductive KC where
 |qN|nilIface|nilFunc|F1
def KC.val:KC->Value
 |.qN=>.pointer none|.nilIface=>.nilIface|.nilFunc=>.nilFunc|.F1=>.map none
inductive AV where
 |any|d (x:D)|k (c:KC)|agg (cs:List AV)|c5 (vs:List AV)|ptr (b off:Nat)|rp (b sz i j:Nat)|ep (ds:List D)|ow (b sz n:Nat)|cl (es:List (List D))|fn (f:Nat) (cV:List AV)|sG (t:Nat) (v:AV)|cond (p:Bool) (v:AV)|vw (b sz off n c:Nat) (ex:Bool)|BS (b:Nat)
inductive av where
 |var (cs:List AV)|row (sz:Nat) (es:List (List D))|mr (sz:Nat) (es:List (List D))|it (s:List UInt8) (pos:Nat)|mp (ag:Bool) (es:List (List D))|dead|bJ
def av.live:av->Bool
 |.var _=>true|.row _ []=>false|.row _ (_::_)=>true|.it _ _=>true|.mp _ _=>true|_=>false
def av.born:av->Bool
 |.bJ=>false|_=>true
def cr(bx:List av)(i:Nat):Prop:=∃b,bx[i]?=some b/\b.born=true
structure St where
 sl:List (Nat×AV)
 bx:List av
inductive Ex where
 |normal|exit (id:Nat)|ret|panic (v:AV)
inductive eP where
 |ret (v:AV)|zh (v:AV)
def fK(t:Nat):List (Nat×AV)->AV
 |[]=>.any|(u,v)::r=>bif Nat.beq t u then v else fK t r
def put(t:Nat)(v:AV):List (Nat×AV)->List (Nat×AV)
 |[]=>[(t,v)]|(u,x)::r=>bif Nat.beq t u then(t,v)::r else(u,x)::put t v r
def eJ(dst:Option Nat)(v:AV)(sl:List (Nat×AV)):List (Nat×AV):=
 match dst with
 |some t=>put t v sl|none=>sl
def UO(n:Nat):Nat:=n%1048576
def F2(n:Nat):Nat:=n / 1048576
def gq(l n:Nat):Bool:=Nat.ble l n&&Nat.blt n 1048576
theorem sH{l n:Nat}(h:gq l n=true):l<=n/\UO n=n/\F2 n=0:=by simp only[gq,vae,Nat.ble_eq,Nat.blt_eq]at h;exact⟨h.1,Nat.mod_eq_of_lt h.2,Nat.div_eq_of_lt h.2⟩
def gr(n:Nat)(dst:Option Nat):Bool:=
 match dst with
 |some t=>Nat.blt t (UO n)&&Nat.ble (F2 n) t|none=>true
def Lt(n:Nat)(ops:List Oper):Bool:=Nat.beq (F2 n) 0||ops.all λo=>match o.dst with
 |some t=>Nat.ble (F2 n) t|none=>true
theorem HV{n:Nat}{ops:List Oper}(h:Lt n ops=true){o:Oper}(ho:o∈ops){t:Nat}(ht:o.dst=some t):F2 n<=t:=by
 simp only[Lt,vaB]at h;rcases h with h|h
 .have:=vaf h;omega
 have:=List.all_eq_true.1 h o ho;rw[ht]at this;exact Nat.le_of_ble_eq_true this
inductive Kd where
 |int (k:IntKind)|bool|str|slice (e:Nat)|array (n e:Nat)|struct (agm:List (Nat×Nat))|map (k e:Nat)|iface|other
def Kd.plain:Kd->Bool
 |.other=>false|.iface=>false|_=>true
def Kd.isAgg:Kd->Bool
 |.array _ _=>true|.struct _=>true|_=>false
structure TI where
 size:Nat
 bytes:Nat
 kd:Kd
 zero:AV
 eq:Bool
 inv:Option (String×Nat):=none
def Lu:Value->AV
 |.bool b=>.d (.bool b)|.int k n=>.d (.int k n)|.string s=>.d (.str s.data.toList)|.slice none 0 0=>.cl []|.pointer none=>.k .qN|.nilIface=>.k .nilIface|.nilFunc=>.k .nilFunc|.map none=>.k .F1|_=>.any
def UW:Value->AV
 |.agg cs=>.agg (cs.toList.map Lu)|v=>Lu v
def cX:TypeDesc->Kd
 |.int k=>.int k|.bool=>.bool|.string=>.str|.slice e=>.slice e|.array n e=>.array n e|.struct fs=>.struct (fs.toList.map λf=>(f.offset,f.type))|.map k e=>.map k e|.interface _=>.iface|_=>.other
def Rn(P:Program)(t:Nat):TypeDesc->Bool
 |.struct fs=>!P.stoodInHeld t&&fs.toList.all λf=>f.name != "_"|_=>true
def Ro:List String:=["demesne/sel.holds","demesne/act.kind"]
def Xn(i:TypeInfo):Option (String×Nat):=Ro.findSome? λnm=>match i.methods.toList.find? (λm=>m.name==nm)with
 |some ⟨_,_,path,some (f,false)⟩=>bif path.toList.isEmpty then some (nm,f)else none|_=>none
def sy(P:Program)(t:Nat):Option TI:=
 match P.info? t,P.underlying t with
 |some i,some d=>some {size:=i.size,bytes:=i.bytes,kd:=cX d,zero:=match i.zero with|some z=>UW z|none=>.any,eq:=Rn P t d,inv:=bif (cX d).plain then Xn i else none}|_,_=>none
def AV.aU:AV->AV
 |.cond _ v=>v|v=>v
def AV.ok:AV->Prop
 |.cond p _=>p=true|_=>True
def AV.sc:AV->Bool
 |.d _|.k _|.ptr _ _|.rp _ _ _ _|.ep _|.ow _ _ _|.cl _|.fn _ _|.sG _ _|.BS _=>true|_=>false
def wU:List AV->Bool
 |[]=>true|x::xs=>bif x.sc then wU xs else false
def AV.cells?:AV->Option (List AV)
 |.agg cs=>bif wU cs then some cs else none|.any|.c5 _|.cond _ _|.vw _ _ _ _ _ _=>none|v=>some [v]
def ct(G:Nat->Option (List D))(sl:List (Nat×AV)):Operand->AV
 |.tmp t=>fK t sl|.const v=>Lu v|.global g=>match G g with
  |some ds=>.ep ds|none=>.any
 |.func f=>.fn f []
def AV.um (bx:List av):AV->Option D
 |.d x=>some x|.cl es=>some (.sl es)|.fn f []=>some (.fn f)|.ow b sz n=>match n,bx[b]? with
  |_,some (.row s es)=>bif Nat.beq s sz&&Nat.beq n es.length then some (.sl es)else none|_,some (.mr s es)=>bif Nat.beq s sz&&Nat.beq n es.length then some (.sl es)else none|_,_=>none
 |_=>none
def AV.cE (bx:List av):AV->List av
 |.ow b _ _=>match bx[b]? with
  |some (.row s es)=>bx.set b (.mr s es)|_=>bx
 |.vw b _ _ _ _ _=>match bx[b]? with
  |some (.row s es)=>bx.set b (.mr s es)|_=>bx
 |_=>bx
def jV(bx:List av):List AV->Option (List D)
 |[]=>some []|x::xs=>match x.um bx,jV bx xs with
  |some y,some ys=>some (y::ys)|_,_=>none
def eW(bx:List av):List AV->List av
 |[]=>bx|x::xs=>eW (x.cE bx) xs
def AV.rows (bx:List av):AV->Option (List (List D))
 |.d (.sl es)=>some es|.cl es=>some es|.ow b sz n=>match bx[b]? with
  |some (.row s es)=>bif Nat.beq s sz&&Nat.beq n es.length then some es else none|some (.mr s es)=>bif Nat.beq s sz&&Nat.beq n es.length then some es else none|_=>none
 |.vw b sz off n _ _=>match bx[b]? with
  |some (.row s es)=>bif Nat.beq s sz&&Nat.ble (off+n) es.length then some ((es.drop off).take n)else none|some (.mr s es)=>bif Nat.beq s sz&&Nat.ble (off+n) es.length then some ((es.drop off).take n)else none|_=>none
 |_=>none
def cN:List AV->Bool
 |[]=>true|.ow _ _ _::_=>false|.vw _ _ _ _ _ _::_=>false|_::r=>cN r
def fm:List AV->Nat->List AV->List AV
 |cs,_,[]=>cs|[],_,_::_=>[]|_::cs,0,v::vs=>v::fm cs 0 vs|c::cs,n+1,v::vs=>c::fm cs n (v::vs)
def bP:List D->Nat->List D->List D
 |cs,_,[]=>cs|[],_,_::_=>[]|_::cs,0,v::vs=>v::bP cs 0 vs|c::cs,n+1,v::vs=>c::bP cs n (v::vs)
structure R where
 c:Prop
 v:AV
 bx:Option (List av)
def dU(bx:List av):Option (List av)->List av
 |some b=>b|none=>bx
def R.pure (v:AV):Option R:=some ⟨True,v,none⟩
def R.when (c:Prop) (v:AV):Option R:=some ⟨c,v,none⟩
def cQ(agg:Bool)(size:Nat)(cs:List AV):Option AV:=
 bif agg then(bif Nat.ble size cs.length then some (.agg (cs.take size))else none)else cs.head?
def rX(ti:TI)(a:AV)(bx:List av):Option R:=
 match a with
 |.ptr b off=>match bx[b]? with
  |some (.var cs)=>match cQ ti.kd.isAgg ti.size (cs.drop off)with
   |some v=>R.pure v|none=>none
  |_=>none
 |.ep ds=>match cQ ti.kd.isAgg ti.size (ds.map .d)with
  |some v=>R.pure v|none=>none
 |.rp b sz i j=>match bx[b]? with
  |some (.row s es)=>match cQ ti.kd.isAgg ti.size (((es.getD i []).drop j).map .d)with
   |some v=>some ⟨s=sz/\i<es.length,v,none⟩|none=>none
  |some (.mr s es)=>match cQ ti.kd.isAgg ti.size (((es.getD i []).drop j).map .d)with
   |some v=>some ⟨s=sz/\i<es.length,v,none⟩|none=>none
  |_=>none
 |_=>none
def vP(ti:TI)(a v:AV)(bx:List av):Option R:=
 match v.cells? with
 |none=>none|some vs=>bif Nat.beq vs.length ti.size then
  match a with
  |.ptr b off=>match bx[b]? with
   |some (.var cs)=>bif Nat.ble (off+vs.length) cs.length then some ⟨True,.any,some (bx.set b (.var (fm cs off vs)))⟩else none|_=>none
  |.rp b sz i j=>match jV bx vs with
   |some ds=>match(eW bx vs)[b]? with
    |some (.row s es)=>some ⟨s=sz/\i<es.length/\j+ds.length<=(es.getD i []).length,.any,
     some ((eW bx vs).set b (.row s (es.set i (bP (es.getD i []) j ds))))⟩
    |_=>none
   |none=>none
  |_=>none
  else none
def BT:Kd->Nat->Option (Nat×Nat)
 |.struct fs,i=>fs[i]?|_,_=>none
def UX(op:BinOp)(k:IntKind)(x y:Int):Option (Prop×D):=
 match op with
 |.add=>some (True,.int k (k.wrap (x+y)))|.sub=>some (True,.int k (k.wrap (x-y)))|.mul=>some (True,.int k (k.wrap (x*y)))|.quo=>some (y≠0,.int k (k.wrap (x.tdiv y)))|.rem=>some (y≠0,.int k (x.tmod y))|.and=>some (True,.int k (k.wrap (BitVec.ofInt k.bits x &&& BitVec.ofInt k.bits y).toNat))|.or=>some (True,.int k (k.wrap (BitVec.ofInt k.bits x ||| BitVec.ofInt k.bits y).toNat))|.xor=>some (True,.int k (k.wrap (BitVec.ofInt k.bits x ^^^ BitVec.ofInt k.bits y).toNat))|.andNot=>some (True,.int k (k.wrap (BitVec.ofInt k.bits x &&& ~~~(BitVec.ofInt k.bits y)).toNat))|.eql=>some (True,.bool (decide (x=y)))|.neq=>some (True,.bool (!decide (x=y)))|.lss=>some (True,.bool (decide (x<y)))|.leq=>some (True,.bool (decide (x<=y)))|.gtr=>some (True,.bool (decide (y<x)))|.geq=>some (True,.bool (decide (y<=x)))|_=>none
def UY(op:BinOp)(x y:List UInt8):Option (Prop×D):=
 match op with
 |.add=>some (x.length+y.length<=9223372036854775807,.str (x++y))|.eql=>some (True,.bool (decide (x=y)))|.neq=>some (True,.bool (!decide (x=y)))|.lss=>some (True,.bool (Op.bytesLess x y))|.leq=>some (True,.bool (Op.bytesLess x y||decide (x=y)))|.gtr=>some (True,.bool (!(Op.bytesLess x y||decide (x=y))))|.geq=>some (True,.bool (!Op.bytesLess x y))|_=>none
def Rp(op:BinOp)(x y:AV):Option (Prop×D):=
 match op,x,y with
 |.shl,.d (.int k x),.d (.int _ y)=>some (0<=y,.int k (k.wrap (x*2^(min y.toNat k.bits))))|.shr,.d (.int k x),.d (.int _ y)=>some (0<=y,.int k (x.fdiv (2^(min y.toNat k.bits))))|op,.d (.int k x),.d (.int k' y)=>bif k==k' then UX op k x y else none|op,.d (.str x),.d (.str y)=>UY op x y|_,_,_=>none
def D8(T:Nat->Option TI):Nat->Nat->AV->AV->Option Bool
 |0,_,_,_=>none|n+1,t,x,y=>match T t with
  |none=>none|some ti=>match ti.kd,x,y with
   |.int _,.d (.int j a),.d (.int k b)=>bif j==k then some (decide (a=b))else none|.bool,.d (.bool a),.d (.bool b)=>some (a==b)|.str,.d (.str a),.d (.str b)=>some (decide (a=b))|.array len e,.agg xs,.agg ys=>match T e with
    |some te=>bif Nat.beq len 0 then none else(List.range len).foldr (λi acc=>match cQ te.kd.isAgg te.size (xs.drop (i*te.size)),cQ te.kd.isAgg te.size (ys.drop (i*te.size))with
     |some a,some b=>match D8 T n e a b,acc with
      |some p,some q=>some (p&&q)|_,_=>none
     |_,_=>none) (some true)
    |none=>none
   |.struct fs,.agg xs,.agg ys=>bif ti.eq then fs.foldr (λf acc=>match T f.2 with
    |some tf=>match cQ tf.kd.isAgg tf.size (xs.drop f.1),cQ tf.kd.isAgg tf.size (ys.drop f.1)with
     |some a,some b=>match D8 T n f.2 a b,acc with
      |some p,some q=>some (p&&q)|_,_=>none
     |_,_=>none
    |none=>none) (some true)else none
   |_,_,_=>none
def BU(p:Bool):AV->AV->AV
 |.d (.bool x),.d (.bool y)=>.d (.bool (bif p then x else y))|.any,.d (.bool y)=>bif p then .any else .d (.bool y)|_,_=>.any
def Z7(op:UnOp)(x:AV):Option D:=
 match op,x with
 |.not,.d (.bool b)=>some (.bool (!b))|.neg,.d (.int k n)=>some (.int k (k.wrap (0-n)))|.xor,.d (.int k n)=>some (.int k (k.wrap (BitVec.ofInt k.bits (if k.signed then -1 else k.max) ^^^ BitVec.ofInt k.bits n).toNat))|_,_=>none
def uo(b:UInt8):List D:=[.int .u8 b.toNat]
def jY:List D->UInt8
 |[.int _ n]=>UInt8.ofNat n.toNat|_=>0
def nF(r:List D):Prop:=∃n:Int,r=[.int .u8 n]
def chunk(sz:Nat):Nat->List D->List (List D)
 |0,_=>[]|n+1,ds=>ds.take sz::chunk sz n (ds.drop sz)
def D9(ev:Operand->AV):Option Operand->Option (Option Int)
 |none=>some none|some x=>match ev x with
  |.d (.int _ n)=>some (some n)|_=>none
def gZ{α:Type}(l:List α):Option Int->Option Int->List α
 |none,none=>l|some a,none=>l.drop a.toNat|none,some b=>l.take b.toNat|some a,some b=>(l.drop a.toNat).take (b.toNat-a.toNat)
def b9(n:Nat):Option Int->Option Int->Prop
 |none,none=>True|some a,none=>0<=a/\a<=n|none,some b=>0<=b/\b<=n|some a,some b=>0<=a/\a<=b/\b<=n
def sI(T:Nat->Option TI)(t:Nat)(x:AV)(lo hi mx:Option Int)(bx:List av):Option R:=
 match T t with
 |some ti=>match ti.kd,x,mx with
  |.str,.d (.str s),none=>R.when (b9 s.length lo hi) (.d (.str (gZ s lo hi)))|.slice e,x,none=>match x.rows bx,T e with
   |some es,some te=>some ⟨b9 es.length lo hi/\∀r∈es,r.length=te.size,.d (.sl (gZ es lo hi)),bif cN [x]then none else some (x.cE bx)⟩|_,_=>none
  |.slice e,x,some m=>match x.rows bx,hi,T e with
   |some es,some h,some te=>some ⟨(b9 es.length lo (some h)/\m=h)/\∀r∈es,r.length=te.size,.cl (gZ es lo (some h)),bif cN [x]then none else some (x.cE bx)⟩|_,_,_=>none
  |.array n e,.ep ds,none=>match lo,hi,T e with
   |none,none,some te=>R.when (n*te.size<=ds.length) (.d (.sl (chunk te.size n ds)))|_,_,_=>none
  |.array n e,.ptr b 0,none=>match lo,hi,T e,bx[b]? with
   |none,none,some te,some (.var cs)=>match jV [] cs with
    |some ds=>some ⟨n*te.size<=ds.length,.d (.sl (chunk te.size n ds)),some (bx.set b .dead)⟩|none=>none
   |_,_,_,_=>none
  |_,_,_=>none
 |none=>none
def Es(sizes:Nat->Option (Nat×Nat)):List AV->List (Nat×AV)->Option (List AV)
 |cells,[]=>some cells|cells,(i,v)::rest=>match sizes i,v.cells? with
  |some (off,size),some vs=>bif Nat.beq vs.length size&&Nat.ble (off+vs.length) cells.length then
   Es sizes (fm cells off vs) rest else none
  |_,_=>none
def F3(T:Nat->Option TI)(t:Nat)(parts:List (Nat×AV)):Option R:=
 match T t with
 |some ti=>match ti.zero.cells? with
  |some z=>match ti.kd with
   |.struct fs=>match Es (λi=>match fs[i]? with|some (o,ft)=>(T ft).map λx=>(o,x.size)|none=>none) z parts with
    |some cs=>R.pure (.agg cs)|none=>none
   |.array _ e=>match T e with
    |some te=>match Es (λi=>some (i*te.size,te.size)) z parts with
     |some cs=>R.pure (.agg cs)|none=>none
    |none=>none
   |_=>none
  |none=>none
 |none=>none
def ek(bx:List av):List (Nat×AV)->List av
 |[]=>bx|(_,v)::rest=>match v.cells? with
  |some vs=>ek (eW bx vs) rest|none=>bx
def oF:Nat->List (Nat×AV)->Bool
 |_,[]=>true|i,(j,_)::r=>Nat.beq i j&&oF (i+1) r
def rowsOf(bx:List av)(size:Nat):List (Nat×AV)->Option (List (List D))
 |[]=>some []|(_,v)::r=>match v.cells? with
  |some vs=>match jV bx vs,rowsOf bx size r with
   |some ds,some rs=>bif Nat.beq ds.length size then some (ds::rs)else none|_,_=>none
  |none=>none
def HW:List (Nat×AV)->Bool
 |[]=>true|(_,v)::r=>match v.cells? with
  |some vs=>cN vs&&HW r|none=>false
def gF(T:Nat->Option TI)(t n:Nat)(parts:List (Nat×AV))(bx:List av):Option R:=
 match T t with
 |some ti=>match ti.kd with
  |.slice e=>match T e with
   |some te=>bif Nat.beq parts.length n&&oF 0 parts&&Nat.ble (n*te.size) 16777216&&te.zero.cells?.isSome then
    match rowsOf bx te.size parts with
    |some rs=>some ⟨True,.cl rs,bif HW parts then none else some (ek bx parts)⟩|none=>none
    else none
   |none=>none
  |_=>none
 |none=>none
def mu(size:Nat)(x:AV)(bx:List av):Option (List (List D)):=
 match x with
 |.d (.str b)=>bif Nat.beq size 1 then some (b.map uo)else none|x=>x.rows bx
def sameBox(b:Nat):AV->Bool
 |.ow b2 _ _=>Nat.beq b b2|.vw b2 _ _ _ _ _=>Nat.beq b b2|_=>false
def fo(te:TI):Bool:=
 match te.zero.cells? with
 |some z=>Nat.beq z.length te.size&&Nat.blt 0 te.bytes&&Nat.blt 0 te.size|none=>false
def m7(T:Nat->Option TI)(t:Nat)(s x:AV)(bx:List av):Option R:=
 match T t with
 |some ti=>match ti.kd with
  |.slice e=>match T e with
   |some te=>bif fo te then
    match mu te.size x bx with
    |some xs=>match s with
     |.cl []=>some ⟨xs.length*te.bytes<=140737488355328/\(∀r∈xs,r.length=te.size),.ow bx.length te.size xs.length,some (bx++[.row te.size xs])⟩|.cl (e0::er)=>match xs with
      |[]=>none|x0::xr=>some ⟨((e0::er).length+(x0::xr).length)*te.bytes<=140737488355328/\(∀r∈(e0::er)++(x0::xr),r.length=te.size),
       .ow bx.length te.size ((e0::er).length+(x0::xr).length),some (bx++[.row te.size ((e0::er)++(x0::xr))])⟩
     |.ow b sz n=>match bx[b]? with
      |some (.row s2 es)=>bif sameBox b x then none else
       some ⟨s2=sz/\sz=te.size/\n=es.length/\(es.length+xs.length)*te.bytes<=140737488355328/\(∀r∈es++xs,r.length=te.size),
       .ow bx.length te.size (es.length+xs.length),some ((bx.set b .dead)++[.row te.size (es++xs)])⟩
      |_=>none
     |_=>none
    |none=>none
    else none
   |none=>none
  |_=>none
 |none=>none
def Ec(T:Nat->Option TI)(ev:Operand->AV):Op->Option (Prop×List (List D))
 |.call {callee:=.builtin b,args,argTypes}=>match b,args.toList,argTypes.toList with
  |.append,[x,y],[t,u]=>match T t,T u with
   |some ti,some tu=>match ti.kd,tu.kd with
    |.slice e,.slice _=>match T e with
     |some te=>bif fo te then match ev x,ev y with
      |.cl es,.cl (x0::xr)=>some ((es.length+(x0::xr).length)*te.bytes<=140737488355328/\(∀r∈es++(x0::xr),r.length=te.size),es++(x0::xr))|_,_=>none
      else none
     |none=>none
    |_,_=>none
   |_,_=>none
  |_,_,_=>none
 |_=>none
def Ak(T:Nat->Option TI)(src dst:Nat)(x:AV)(bx:List av):Option R:=
 match T src,T dst with
 |some ts,some td=>match ts.kd,td.kd,x with
  |_,.int k,.d (.int _ n)=>R.pure (.d (.int k (k.wrap n)))|.slice e,.str,x=>match T e,x.rows bx with
   |some te,some es=>match te.kd with
    |.int .u8=>R.when (∀r∈es,nF r) (.d (.str (es.map jY)))|_=>none
   |_,_=>none
  |.str,.str,.d (.str s)=>R.pure (.d (.str s))|_,_,_=>none
 |_,_=>none
def BW(x:AV)(bx:List av):Option AV:=
 match x with
 |.d (.sl es)=>some (.d (.int .i64 es.length))|.cl es=>some (.d (.int .i64 es.length))|.ow b sz n=>match(AV.ow b sz n).rows bx with
  |some es=>some (.d (.int .i64 es.length))|none=>none
 |.vw b sz off n c ex=>match(AV.vw b sz off n c ex).rows bx with
  |some es=>some (.d (.int .i64 es.length))|none=>none
 |_=>none
def jZ(T:Nat->Option TI)(b:Builtin)(args:List AV)(ats:List Nat)(bx:List av):Option R:=
 match b,args,ats with
 |.len,[x],[t]=>match T t with
  |some ti=>match ti.kd,x with
   |.array n _,_=>R.pure (.d (.int .i64 n))|.str,.d (.str s)=>R.pure (.d (.int .i64 s.length))|.slice _,x=>match BW x bx with
    |some v=>R.pure v|none=>none
   |_,_=>none
  |none=>none
 |.min,[.d (.int k x),.d (.int _ y)],_=>R.pure (.d (.int k (min x y)))|.max,[.d (.int k x),.d (.int _ y)],_=>R.pure (.d (.int k (max x y)))|.append,[s,x],[t,u]=>match T u with
  |some tu=>match tu.kd with
   |.int _=>none|_=>m7 T t s x bx
  |none=>none
 |_,_,_=>none
def bc(lo:Option Int):Nat:=(lo.getD 0).toNat
def aY(len:Nat):Option Int->Nat
 |none=>len|some h=>h.toNat
def AV.wV:AV->Bool
 |.vw _ _ _ _ _ _=>true|_=>false
def ke(ev:Operand->AV):Op->Bool
 |.slice _ x _ _ _=>(ev x).wV|.indexAddr _ x _=>(ev x).wV|.makeSlice _ _ _=>true|.call {callee:=.builtin b,args,..}=>match b,args.toList with
  |.copy,_=>true|.clear,_=>true|.cap,_=>true|.len,[x]=>(ev x).wV|.append,[x,_]=>(ev x).wV|_,_=>false
 |_=>false
def eX(n c:Nat)(lo hi:Option Int):Prop:=
 match hi with
 |none=>b9 n lo none|some h=>b9 c lo (some h)
def viewAt:AV->Option (Nat×Nat×Nat×Nat×Nat×Bool)
 |.vw b sz off n c ex=>some (b,sz,off,n,c,ex)|.ow b sz n=>some (b,sz,0,n,n,false)|_=>none
def oG(te:TI):Option (List D):=
 match te.zero.cells? with
 |some z=>jV [] z|none=>none
def elemOf(T:Nat->Option TI)(t:Nat):Option TI:=
 match T t with
 |some ti=>match ti.kd with
  |.slice e=>T e|_=>none
 |none=>none
def F4(T:Nat->Option TI)(t:Nat):Option Bool:=
 match T t with
 |some ti=>match ti.kd with
  |.int _=>some true|_=>some false
 |none=>none
def wrote(es:List (List D))(off:Nat)(xs:List (List D)):List (List D):=es.take off++xs++es.drop (off+xs.length)
def gj(es:List (List D))(off k:Nat):Prop:=off<=es.length/\(es=[]->k=0)
def wW(size:Nat)(y:AV)(n:Nat)(bx:List av):Option (Prop×Nat×List (List D)):=
 match y with
 |.vw b sz off n2 _ _=>match bx[b]? with
  |some (.row s es)=>bif Nat.beq s sz then some (off+min n2 n<=es.length,min n2 n,(es.drop off).take (min n2 n))else none|some (.mr s es)=>bif Nat.beq s sz then some (off+min n2 n<=es.length,min n2 n,(es.drop off).take (min n2 n))else none|_=>none
 |y=>match mu size y bx with
  |some xs=>some (True,min xs.length n,xs.take (min xs.length n))|none=>none
def Et(te:TI)(x y:AV)(bx:List av):Option R:=
 match viewAt x with
 |some (b,sz,off,n,_,_)=>match bx[b]?,wW te.size y n bx with
  |some (.row s es),some (cy,m,xs)=>bif Nat.beq s sz&&Nat.beq sz te.size then
   some ⟨cy/\gj es off m/\∀r∈xs,r.length=te.size,.d (.int .i64 m),
    some (bx.set b (.row sz (wrote es off xs)))⟩else none
  |_,_=>none
 |none=>none
def F5(te:TI)(x:AV)(bx:List av):Option R:=
 match viewAt x with
 |some (b,sz,off,n,_,_)=>match bx[b]?,oG te with
  |some (.row s es),some z=>bif Nat.beq s sz&&Nat.beq sz te.size&&fo te then
   some ⟨gj es off n,.c5 [],some (bx.set b (.row sz (wrote es off (List.replicate n z))))⟩else none
  |_,_=>none
 |none=>none
def NT(te:TI)(b sz off n c:Nat)(ex:Bool)(m:Int)(bx:List av):Option R:=
 match bx[b]?,oG te with
 |some (.row s es),some z=>bif Nat.beq s sz&&Nat.beq sz te.size&&fo te&&ex then
  some ⟨0<=m/\c<n+m.toNat/\off+n<=es.length/\(n+m.toNat)*te.bytes<=140737488355328,
   .vw bx.length sz 0 (n+m.toNat) (n+m.toNat) false,some (bx++[.row sz ((es.drop off).take n++List.replicate m.toNat z)])⟩else none
 |_,_=>none
def uq(te:TI)(b sz off n c:Nat)(ex:Bool)(y:AV)(bx:List av):Option R:=
 match bx[b]?,mu te.size y bx with
 |some (.row s es),some xs=>bif Nat.beq s sz&&Nat.beq sz te.size then
  some ⟨gj es (off+n) xs.length/\n+xs.length<=c/\∀r∈xs,r.length=te.size,.vw b sz off (n+xs.length) c ex,
   some (bx.set b (.row sz (wrote es (off+n) xs)))⟩else none
 |_,_=>none
def whole(es:List (List D))(off n c:Nat)(ex:Bool):Prop:=off=0/\n=es.length/\(es=[]->c=0/\ex=true)
def HX(te:TI)(n m:Int)(bx:List av):Option R:=
 match oG te with
 |some z=>bif fo te then some ⟨0<=n/\n=m/\n.toNat*te.bytes<=140737488355328,.ow bx.length te.size n.toNat,some (bx++[.row te.size (List.replicate n.toNat z)])⟩else none|none=>none
def oH(T:Nat->Option TI)(ev:Operand->AV)(o:Op)(bx:List av):Option R:=
 match o with
 |.slice ty x lo hi mx=>match ev x,elemOf T ty,D9 ev lo,D9 ev hi,D9 ev mx with
  |.vw b sz off n c ex,some te,some l,some h,some none=>bif Nat.beq te.size sz then
   some ⟨eX n c l h,.vw b sz (off+bc l) (aY n h-bc l) (c-bc l) ex,none⟩else none
  |.vw b sz off n c ex,some te,some l,some (some h),some (some m)=>bif Nat.beq te.size sz then
   some ⟨b9 c l (some h)/\h<=m/\m<=c,.vw b sz (off+bc l) (h.toNat-bc l) (m.toNat-bc l) true,none⟩else none
  |_,_,_,_,_=>none
 |.indexAddr ty x i=>match ev x,elemOf T ty,ev i with
  |.vw b sz off n _ _,some te,.d (.int _ z)=>bif Nat.beq te.size sz then some ⟨0<=z/\z<n,.rp b sz (off+z.toNat) 0,none⟩else none|_,_,_=>none
 |.makeSlice ty a b=>match elemOf T ty,ev a,ev b with
  |some te,.d (.int .i64 n),.d (.int .i64 m)=>HX te n m bx|_,_,_=>none
 |.call {callee:=.builtin b,args,argTypes}=>match b,args.toList.map ev,argTypes.toList with
  |.len,[.vw _ _ _ n _ _],[ty]=>match elemOf T ty with
   |some _=>R.pure (.d (.int .i64 n))|none=>none
  |.cap,[.vw _ _ _ _ c true],[ty]=>match elemOf T ty with
   |some _=>R.pure (.d (.int .i64 c))|none=>none
  |.copy,[x,y],ty::_=>match elemOf T ty with
   |some te=>Et te x y bx|none=>none
  |.clear,[x],ty::_=>match elemOf T ty with
   |some te=>F5 te x bx|none=>none
  |.append,[.vw b sz off n c ex,y],[ty,u]=>match elemOf T ty,F4 T u with
   |some te,some true=>match y with
    |.d (.int .i64 m)=>NT te b sz off n c ex m bx|_=>none
   |some te,some false=>bif sameBox b y then uq te b sz off n c ex y bx else
    match bx[b]?,m7 T ty (.ow b sz n) y bx with
    |some (.row _ es),some ⟨c1,v,aE⟩=>some ⟨c1/\whole es off n c ex,v,aE⟩|_,_=>none
   |_,_=>none
  |_,_,_=>none
 |_=>none
def AV.isAgg:AV->Bool
 |.agg _=>true|_=>false
def dH:List AV->Bool
 |[]=>true|x::_=>x.sc||x.isAgg
def m8(T:Nat->Option TI)(ev:Operand->AV)(o:Op)(bx:List av):Option R:=
 match o with
 |.move x=>R.pure (ev x)|.assign x=>R.pure (ev x)|.alloc t=>match T t with
  |some ti=>match ti.zero.cells? with
   |some cs=>some ⟨True,.ptr bx.length 0,some (bx++[.var cs])⟩|none=>none
  |none=>none
 |.box _ x=>match(ev x).cells? with
  |some cs=>some ⟨True,.ptr bx.length 0,some (bx++[.var cs])⟩|none=>none
 |.load t a=>match T t with
  |some ti=>rX ti (ev a) bx|none=>none
 |.store t a x=>match T t with
  |some ti=>vP ti (ev a) (ev x) bx|none=>none
 |.build t parts=>F3 T t (parts.toList.map λp=>(p.1,ev p.2))|.buildSlice t n parts=>gF T t n (parts.toList.map λp=>(p.1,ev p.2)) bx|.fieldAddr t x f=>match T t with
  |some ti=>match BT ti.kd f with
   |some (o,ft)=>match T ft with
    |some tf=>bif Nat.beq tf.size 0 then none else
     match ev x with
     |.ptr b off=>R.pure (.ptr b (off+o))|.rp b sz i j=>R.pure (.rp b sz i (j+o))|.ep ds=>R.when (o<=ds.length) (.ep (ds.drop o))|_=>none
    |none=>none
   |none=>none
  |none=>none
 |.indexAddr t x i=>match T t with
  |some ti=>match ti.kd,ev i with
   |.array n e,.d (.int _ z)=>match T e with
    |some te=>match ev x with
     |.ptr b off=>R.when (0<=z/\z<n) (.ptr b (off+z.toNat*te.size))|.rp b sz a j=>R.when (0<=z/\z<n) (.rp b sz a (j+z.toNat*te.size))|.ep ds=>R.when (0<=z/\z<n/\z.toNat*te.size<=ds.length) (.ep (ds.drop (z.toNat*te.size)))|_=>none
    |none=>none
   |.slice e,.d (.int _ z)=>match T e,ev x with
    |some te,.ow b sz n=>bif Nat.beq te.size sz then R.when (0<=z/\z<n) (.rp b sz z.toNat 0)else none|_,_=>none
   |_,_=>none
  |none=>none
 |.field t x f=>match T t with
  |some ti=>match BT ti.kd f with
   |some (o,ft)=>match T ft,ev x with
    |some tf,.agg cs=>match cQ tf.kd.isAgg tf.size (cs.drop o)with
     |some v=>R.pure v|none=>none
    |_,_=>none
   |none=>none
  |none=>none
 |.index t x i=>match T t with
  |some ti=>match ti.kd,ev x,ev i with
   |.str,.d (.str s),.d (.int _ z)=>R.when (0<=z/\z<s.length) (.d (.int .u8 (s.getD z.toNat 0).toNat))|.array n e,.agg cs,.d (.int _ z)=>match T e with
    |some te=>match cQ te.kd.isAgg te.size (cs.drop (z.toNat*te.size))with
     |some v=>R.when (0<=z/\z<n) v|none=>none
    |none=>none
   |_,_,_=>none
  |none=>none
 |.extract x i=>match ev x with
  |.c5 vs=>match vs[i]? with
   |some v=>R.pure v|none=>none
  |_=>none
 |.binOp op t x y _=>match ev x,ev y with
  |.agg xs,.agg ys=>match op with
   |.eql=>(D8 T 8 t (.agg xs) (.agg ys)).bind λd=>R.pure (.d (.bool d))|.neq=>(D8 T 8 t (.agg xs) (.agg ys)).bind λd=>R.pure (.d (.bool (!d)))|_=>none
  |.d (.bool p),.d (.bool q)=>match T t,op with
   |some ti,.eql=>match ti.kd with
    |.bool=>R.pure (.d (.bool (p==q)))|_=>none
   |some ti,.neq=>match ti.kd with
    |.bool=>R.pure (.d (.bool (!(p==q))))|_=>none
   |_,_=>none
  |.sG _ _,.k .nilIface=>match T t,op with
   |some ti,.eql=>match ti.kd with
    |.iface=>R.pure (.d (.bool false))|_=>none
   |some ti,.neq=>match ti.kd with
    |.iface=>R.pure (.d (.bool true))|_=>none
   |_,_=>none
  |.k .nilIface,.k .nilIface=>match y with
   |.const _=>match T t,op with
    |some ti,.eql=>match ti.kd with
     |.iface=>R.pure (.d (.bool true))|_=>none
    |some ti,.neq=>match ti.kd with
     |.iface=>R.pure (.d (.bool false))|_=>none
    |_,_=>none
   |_=>none
  |x,y=>match Rp op x y with
   |some (c,d)=>R.when c (.d d)|none=>none
 |.unOp op _ x=>(Z7 op (ev x)).bind λd=>R.pure (.d d)|.convert s d x=>Ak T s d (ev x) bx|.slice t x lo hi mx=>match D9 ev lo,D9 ev hi,D9 ev mx with
  |some l,some h,some m=>sI T t (ev x) l h m bx|_,_,_=>none
 |.makeFunc (.func f) first cV=>bif first.toList.isEmpty then(bif dH (cV.toList.map ev)then R.pure (.fn f (cV.toList.map ev))else none)else R.pure (.fn f (.c5 (first.toList.map ev)::cV.toList.map ev))
 |.makeInterface t x=>match T t with
  |some ti=>bif ti.kd.plain then R.pure (.sG t (ev x))else none|none=>none
 |.typeAssert x _ u ok=>match T u with
  |some tu=>bif tu.kd.plain&&tu.zero.cells?.isSome then
   match ev x with
   |.sG t v=>bif Nat.beq t u then R.pure (bif ok then .c5 [v,.d (.bool true)]else v)else bif ok then R.pure (.c5 [tu.zero,.d (.bool false)])else none|.k .nilIface=>bif ok then R.pure (.c5 [tu.zero,.d (.bool false)])else none|_=>none
   else none
  |none=>none
 |.nilCheck x=>match ev x with
  |.ptr b o=>R.pure (.ptr b o)|.rp b s i j=>R.pure (.rp b s i j)|.ep ds=>R.pure (.ep ds)|.fn f cs=>R.pure (.fn f cs)|_=>none
 |.call {callee:=.builtin b,args,argTypes}=>jZ T b (args.toList.map ev) argTypes.toList bx|_=>none
def HM(T:Nat->Option TI)(ev:Operand->AV)(o:Op)(bx:List av):Option R:=
 bif ke ev o then oH T ev o bx else m8 T ev o bx
def fz(bx:List av):AV->Option AV
 |.cl es=>some (.d (.sl es))|.ow b sz n=>(AV.um bx (.ow b sz n)).map AV.d|.vw b sz off n c ex=>((AV.vw b sz off n c ex).rows bx).map λes=>.d (.sl es)|v=>some v
def Lm(bx:List av):List AV->Option (List AV)
 |[]=>some []|x::xs=>match fz bx x,Lm bx xs with
  |some y,some ys=>some (y::ys)|_,_=>none
def sJ(bx:List av):AV->Option AV
 |.agg cs=>(Lm bx cs).map .agg|v=>fz bx v
def nL(bx:List av):AV->List av
 |.agg cs=>eW bx cs|v=>v.cE bx
def fq(bx:List av):List AV->Option (List AV)
 |[]=>some []|x::xs=>match sJ bx x,fq bx xs with
  |some y,some ys=>some (y::ys)|_,_=>none
def fI(bx:List av):List AV->List av
 |[]=>bx|x::xs=>fI (nL bx x) xs
def AV.flat:AV->Bool
 |.d (.bool _)|.d (.int _ _)|.d (.str _)|.k _=>true|.agg cs=>BX cs|.c5 cs=>sK cs|_=>false
where
 BX:List AV->Bool
  |[]=>true|.d (.bool _)::r|.d (.int _ _)::r|.d (.str _)::r|.k _::r=>BX r|_=>false
 sK:List AV->Bool
  |[]=>true|.d (.bool _)::r|.d (.int _ _)::r|.d (.str _)::r|.k _::r=>sK r|.agg cs::r=>BX cs&&sK r|_=>false
def dK:List AV->Prop
 |[]=>True|x::xs=>x.ok/\dK xs
def gE(G:Nat->Option (List D))(sl:List (Nat×AV))(xs:List Operand):List AV:=xs.map (ct G sl)
def nM:AV->List AV->Option (Nat×List AV)
 |.fn f (.c5 fs::cV),args=>some (f,fs++args++cV)|.fn f cV,args=>bif dH cV then some (f,args++cV)else none|.d (.fn f),args=>some (f,args)|_,_=>none
def AV.shut:AV->Bool
 |.any|.d _|.k _|.ep _|.cl _=>true|.agg cs|.c5 cs|.fn _ cs=>mZ cs|.sG _ x|.cond _ x=>x.shut|.ptr _ _|.rp _ _ _ _|.ow _ _ _|.vw _ _ _ _ _ _|.BS _=>false
where
 mZ:List AV->Bool
  |[]=>true|x::xs=>x.shut&&mZ xs
def D.flat:D->Bool
 |.sl _=>false|.mp _ _=>false|_=>true
structure NU(FC:Nat->List AV->List av->eP->List av->Prop)(f:Nat)(args:List AV)(bx:List av)
 (K:AV->List av->Prop) (Kp:AV->List av->Prop):Prop where
 ok:∃args' sL res gY,(args'=args/\sL=bx∨fq bx args=some args'/\sL=fI bx args)/\FC f args' sL res gY/\
  (match res with|.ret v=>K v gY|.zh v=>Kp v gY)
structure HY(FC:Nat->List AV->List av->eP->List av->Prop)(f:Nat)(args:List AV)(bx:List av)
 (K:AV->List av->Prop):Prop where
 ok:∃args',fq bx args=some args'/\AV.shut.mZ args'=true/\
  (
   (∃v,FC f args' [] (.ret v) []/\(v.flat=true∨fq [] args=some args'/\v.shut=true)/\K v bx)∨
   (∃sz n es,FC f args' [] (.ret (.ow 0 sz n)) [.row sz es]/\((∀r∈es,∀x∈r,x.flat=true)∨fq [] args=some args')/\K (.ow bx.length sz n) (bx++[.row sz es])))
structure Rq(FC:Nat->List AV->List av->eP->List av->Prop)(kX:Prop)(f:Nat)(args:List AV)(bx:List av)
 (K:AV->List av->Prop) (Kp:AV->List av->Prop):Prop where
 ok:kX/\(HY FC f args bx K∨NU FC f args bx K Kp)
mutual
def AV.loose (dt:Bool):AV->Bool
 |.any=>true|.d (.bool _)|.d (.int _ _)|.d (.str _)|.k _=>true|.d _=>dt|.ptr _ _=>true|.rp _ _ _ _=>true|.agg cs=>AV.oY dt cs|.fn _ cs=>AV.oY dt cs|.sG _ x=>AV.loose dt x|_=>false
def AV.oY (dt:Bool):List AV->Bool
 |[]=>true|x::xs=>bif AV.loose dt x then AV.oY dt xs else false
end
def Rr(bx:List av)(i:Nat):Bool:=
 match bx[i]? with
 |some b=>b.born|none=>false
def AV.bV (bx:List av):AV->Bool
 |.any|.d _|.k _|.ep _|.cl _=>true|.agg cs|.c5 cs|.fn _ cs=>c6 bx cs|.sG _ x|.cond _ x=>x.bV bx|.ptr b _|.rp b _ _ _|.ow b _ _|.vw b _ _ _ _ _|.BS b=>Rr bx b
where
 c6 (bx:List av):List AV->Bool
  |[]=>true|x::xs=>x.bV bx&&c6 bx xs
def eA(dt:Bool)(bx:List av):List av->Bool
 |[]=>true|.var cs::r=>bif AV.oY dt cs&&AV.bV.c6 bx cs then eA dt bx r else false|.dead::r=>eA dt bx r|.bJ::r=>eA dt bx r|_::_=>false
structure oI(FC:Nat->List AV->List av->eP->List av->Prop)(f:Nat)(args:List AV)(bx:List av)(v:AV):Prop where
 ok:∃args' kY,fq bx args=some args'/\AV.bV.c6 kY args'=true/\(∃dt,eA dt kY kY=true/\(dt=true->fq [] args=some args'))/\
  (∀(i:Nat) (b:av),kY[i]?=some b->b.born=true->∃b',bx[i]?=some b'/\b'.born=true/\(b.live=true->b'=b))/\FC f args' kY (.ret v) kY/\
  (v.flat=true∨fq [] args=some args'/\v.shut=true)
structure Xo(FC:Nat->List AV->List av->eP->List av->Prop)(g:Bool)(kX:Prop)(f:Nat)(args:List AV)(bx:List av)
 (K:AV->Prop):Prop where
 ok:∃v,(g=true->kX/\oI FC f args bx v)/\K v
structure pN(g:Bool)(c:Prop)(ds:List D)(K:List D->Prop):Prop where
 ok:∃ds',(g=true->c/\ds=ds')/\K ds'
structure zj(v:AV)(A B:Unit->Prop):Prop where
 ok:match v with
 |.d (.bool p)=>(p=true->A ())/\(p=false->B ())|_=>False
structure NV(Ln:Prop)(K:Bool->Prop):Prop where
 ok:∀b:Bool,(b=true->Ln)->K b
def Ph:AV->Option Prop
 |.d (.sl es)=>some (es=[])|.cl es=>some (es=[])|.ow _ _ n=>some (n=0)|_=>none
structure Rs(str:List UInt8)(pos:Nat)(A:Nat->Nat->Prop)(B:Unit->Prop):Prop where
 ok:(pos<str.length->A (Utf8.decode ⟨str.toArray⟩ pos).1 (Utf8.decode ⟨str.toArray⟩ pos).2)/\(¬pos<str.length->B ())
def mv(K:St->Prop)(Q:Ex->St->Prop)(e:Ex)(s:St):Prop:=
 match e with
 |.normal=>K s|e=>Q e s
def BY(T:Nat->Option TI)(t:Nat)(x i:AV):Option (Prop×List D):=
 match T t with
 |some ti=>match ti.kd,x,i with
  |.slice e,.d (.sl es),.d (.int _ z)=>match T e with
   |some te=>some (0<=z/\z<es.length/\(∀r∈es,r.length=te.size),es.getD z.toNat [])|none=>none
  |.slice e,.cl es,.d (.int _ z)=>match T e with
   |some te=>some (0<=z/\z<es.length/\(∀r∈es,r.length=te.size),es.getD z.toNat [])|none=>none
  |_,_,_=>none
 |none=>none
def pO:Kd->D->Bool
 |.int k,.int j _=>j==k|.str,.str _=>true|_,_=>false
def rY:D->D->Bool
 |.int j a,.int k b=>j==k&&decide (a=b)|.str a,.str b=>decide (a=b)|_,_=>false
def rowIs(kd:Kd)(n:Nat)(r:List D):Prop:=∃x ds,r=x::ds/\pO kd x=true/\ds.length=n
def zk:List (List D)->D->Option (List D)
 |[],_=>none|(x::ds)::r,k=>bif rY k x then some ds else zk r k|[]::r,k=>zk r k
def vn:List (List D)->D->List D->List (List D)
 |[],k,v=>[k::v]|(x::ds)::r,k,v=>bif rY k x then(k::v)::r else(x::ds)::vn r k v|[]::r,k,v=>[]::vn r k v
def BZ(T:Nat->Option TI)(t:Nat)(m:AV)(bx:List av):Option (TI×TI×Bool×List (List D)):=
 match T t with
 |some ti=>match ti.kd with
  |.map k e=>match T k,T e,m with
   |some tk,some te,.d (.mp ag es)=>some (tk,te,ag,es)|some tk,some te,.k .F1=>some (tk,te,te.kd.isAgg,[])|some tk,some te,.BS b=>match bx[b]? with
    |some (.mp ag es)=>some (tk,te,ag,es)|_=>none
   |_,_,_=>none
  |_=>none
 |none=>none
def zl(tk te:TI)(ag:Bool)(es:List (List D))(k:D):Prop:=ag=te.kd.isAgg/\pO tk.kd k=true/\∀r∈es,rowIs tk.kd te.size r
structure Lv(g:Bool)(c:Prop)(o:Option (List D))(K:Option (List D)->Prop):Prop where
 ok:∃o',(g=true->c/\o=o')/\K o'
def qO(te:TI)(Ea:Bool)(K:AV->Prop):Option (List D)->Prop
 |none=>match te.zero.cells? with
  |some _=>K (bif Ea then .c5 [te.zero,.d (.bool false)]else te.zero)|none=>False
 |some ds=>match cQ te.kd.isAgg te.size (ds.map .d)with
  |some v=>K (bif Ea then .c5 [v,.d (.bool true)]else v)|none=>False
def F6(T:Nat->Option TI)(t:Nat)(m:AV)(bx:List av):Option (Nat×TI×TI×Bool×List (List D)):=
 match m,BZ T t m bx with
 |.BS b,some (tk,te,ag,es)=>some (b,tk,te,ag,es)|_,_=>none
section
variable (FC:Nat->List AV->List av->eP->List av->Prop)(T:Nat->Option TI)(G:Nat->Option (List D))(N:Nat)
def sM(o:Oper)(s:St)(K:AV->List av->Prop)(Q:Ex->St->Prop):Prop:=
 match o.op with
 |.pick c a b=>match(ct G s.sl c).aU with
  |.d (.bool p)=>((ct G s.sl c).ok/\(p=true->(ct G s.sl a).ok)/\(p=false->(ct G s.sl b).ok))/\K (BU p (ct G s.sl a).aU (ct G s.sl b).aU) s.bx|_=>False
 |.call {callee:=.value f,args,..}=>match nM (ct G s.sl f).aU (args.toList.map λx=>(ct G s.sl x).aU)with
  |some (i,iz)=>Rq FC ((ct G s.sl f).ok/\dK (gE G s.sl args.toList)) i iz s.bx (λv bx=>K v bx) (λv bx=>Q (.panic v) ⟨[],bx⟩)|none=>False
 |.panic x=>match(ct G s.sl x).aU with
  |.sG t v=>(ct G s.sl x).ok/\Q (.panic (.sG t v)) ⟨[],s.bx⟩|_=>False
 |.range t x=>match T t with
  |some ti=>match ti.kd,(ct G s.sl x).aU with
   |.str,.d (.str str)=>(ct G s.sl x).ok/\K (.ptr s.bx.length 0) (s.bx++[.it str 0])|_,_=>False
  |none=>False
 |.next it true=>match(ct G s.sl it).aU with
  |.ptr b 0=>match s.bx[b]? with
   |some (.it str pos)=>(ct G s.sl it).ok/\Rs str pos (λc wd=>K (.c5 [.d (.bool true),.d (.int .i64 pos),.d (.int .i32 c)]) (s.bx.set b (.it str (pos+wd)))) (λ_=>K (.c5 [.d (.bool false)]) s.bx)|_=>False
  |_=>False
 |.binOp .eql t x (.const (.slice none 0 0)) _=>match T t,Ph (ct G s.sl x).aU with
  |some ti,some Ln=>match ti.kd with
   |.slice _=>(ct G s.sl x).ok/\NV Ln (λb=>K (.d (.bool b)) s.bx)|_=>False
  |_,_=>False
 |.binOp .neq t x (.const (.slice none 0 0)) _=>match T t,Ph (ct G s.sl x).aU with
  |some ti,some Ln=>match ti.kd with
   |.slice _=>(ct G s.sl x).ok/\NV Ln (λb=>K (.d (.bool (!b))) s.bx)|_=>False
  |_,_=>False
 |.makeMap ty none=>match T ty with
  |some ti=>match ti.kd with
   |.map _ e=>match T e with
    |some te=>K (.BS s.bx.length) (s.bx++[.mp te.kd.isAgg []])|none=>False
   |_=>False
  |none=>False
 |.lookup ty m k Ea=>match BZ T ty (ct G s.sl m).aU s.bx,(ct G s.sl k).aU with
  |some (tk,te,ag,es),.d kd=>Lv true (((ct G s.sl m).ok/\(ct G s.sl k).ok)/\zl tk te ag es kd) (zk es kd) (qO te Ea (λv=>K v s.bx))|_,_=>False
 |.mapUpdate ty m k x=>match F6 T ty (ct G s.sl m).aU s.bx,(ct G s.sl k).aU,(ct G s.sl x).aU.cells? with
  |some (b,tk,te,ag,es),.d kd,some vs=>match cN vs,jV s.bx vs with
   |true,some ds=>(((ct G s.sl m).ok/\(ct G s.sl k).ok/\(ct G s.sl x).ok)/\zl tk te ag es kd/\ds.length=te.size/\(ct G s.sl x).aU.isAgg=ag)/\K .any (s.bx.set b (.mp ag (vn es kd ds)))|_,_=>False
  |_,_,_=>False
 |op=>
  match(match op with|.indexAddr t x i=>BY T t (ct G s.sl x).aU (ct G s.sl i).aU|_=>none)with
  |some (c,ds)=>pN true (dK (gE G s.sl op.operands.toList)/\c) ds (λds=>K (.ep ds) s.bx)|none=>match HM T (λx=>(ct G s.sl x).aU) op s.bx with
   |some ⟨c,v,b⟩=>(dK (gE G s.sl op.operands.toList)/\c)/\K v (dU s.bx b)|none=>False
def Eu(T:Nat->Option TI)(x:AV)(nm:String)(iz:List AV):Option (Nat×List AV):=
 match x with
 |.sG t v=>match T t with
  |some ti=>match ti.inv with
   |some (n,i)=>if n=nm then some (i,v::iz)else none|none=>none
  |none=>none
 |_=>none
def zm(g:Bool)(o:Oper)(s:St)(K:AV->Prop):Prop:=
 match o.op with
 |.pick c a b=>match(ct G s.sl c).aU with
  |.d (.bool p)=>(g=true->((ct G s.sl c).ok/\(p=true->(ct G s.sl a).ok)/\(p=false->(ct G s.sl b).ok)))/\K (BU p (ct G s.sl a).aU (ct G s.sl b).aU)|_=>False
 |.call {callee:=.value f,args,..}=>match nM (ct G s.sl f).aU (args.toList.map λx=>(ct G s.sl x).aU)with
  |some (i,iz)=>Xo FC g ((ct G s.sl f).ok/\dK (gE G s.sl args.toList)) i iz s.bx (λv=>K v)|none=>False
 |.call {callee:=.invoke r nm,args,..}=>match Eu T (ct G s.sl r).aU nm (args.toList.map λx=>(ct G s.sl x).aU)with
  |some (i,iz)=>Xo FC g ((ct G s.sl r).ok/\dK (gE G s.sl args.toList)) i iz s.bx (λv=>K v)|none=>False
 |op=>
  match(match op with|.indexAddr t x i=>BY T t (ct G s.sl x).aU (ct G s.sl i).aU|_=>none)with
  |some (c,ds)=>pN g (dK (gE G s.sl op.operands.toList)/\c) ds (λds=>K (.ep ds))|none=>match HM T (λx=>(ct G s.sl x).aU) op s.bx with
   |some ⟨c,v,none⟩=>(g=true->dK (gE G s.sl op.operands.toList)/\c)/\K v|_=>False
def stepG(g:Bool)(o:Oper)(s:St)(K:AV->Prop):Prop:=(g=false/\∃v,K v)∨zm FC T G g o s K∨
 ∃c es,Ec T (λx=>(ct G s.sl x).aU) o.op=some (c,es)/\(g=true->dK (gE G s.sl o.op.operands.toList)/\c)/\K (.d (.sl es))
def guardOf(sl:List (Nat×AV))(ops:List Oper)(j:Nat)(want:Bool):Option Bool:=
 match ops[j]? with
 |some o=>match o.dst with
  |some t=>match fK t sl with
   |.d (.bool q)=>some (bif want then q else !q)|.cond g (.d (.bool q))=>some (g&&(bif want then q else !q))|_=>none
  |none=>none
 |none=>none
def vQ(g:Bool)(o:Oper)(s:St)(K:AV->Prop):Prop:=
 match o.op with
 |.call {callee:=.value f,args,..}=>match nM (ct G s.sl f).aU (args.toList.map λx=>(ct G s.sl x).aU)with
  |some (i,iz)=>∃v,(g=true->((ct G s.sl f).ok/\dK (gE G s.sl args.toList))/\FC i iz s.bx (.ret v) s.bx)/\K v|none=>False
 |_=>False
def HZ(ops:List Oper):List Oper->(Ex->St->Prop)->St->Prop
 |[],Q,s=>Q .normal s|o::rest,Q,s=>bif gr N o.dst then
  match o.guard with
  |none=>sM FC T G o s (λv bx=>HZ ops rest Q ⟨eJ o.dst v s.sl,bx⟩) Q|some (j,want)=>match guardOf s.sl ops j want with
   |some g=>stepG FC T G g o s (λv=>HZ ops rest Q ⟨eJ o.dst (.cond g v) s.sl,s.bx⟩)∨
    vQ FC G g o s (λv=>HZ ops rest Q ⟨eJ o.dst (.cond g v) s.sl,s.bx⟩)
   |none=>False
  else False
def ur(acc:List Nat)(o:Oper):Nat:=
 o.after.toList.foldl (λs e=>bif Region.binds .any e then s ||| 2^e.on ||| acc.getD e.on 0 else s) 0
def cD:List Oper->List Nat->List Nat
 |[],acc=>acc|o::r,acc=>cD r (acc++[ur acc o])
def barrier(b:List Nat)(i:Nat):Bool:=
 Nat.beq (b.getD i 0) (2^i-1)&&(b.drop (i+1)).all (λx=>x.testBit i)
def qP:List Oper->Nat
 |[]=>0|o::r=>(match o.op with|.alloc _=>1|.box _ _=>1|.call _=>1|_=>0)+qP r
def jh(T:Nat->Option TI)(G:Nat->Option (List D))(sl:List (Nat×AV))(o:Oper):Option (List AV):=
 match o.guard with
 |some _=>none|none=>match o.op with
  |.alloc t=>match T t with
   |some ti=>ti.zero.cells?|none=>none
  |.box _ x=>(ct G sl x).cells?|_=>none
def gP(ops:Array Oper)(b:List Nat):Nat->List Oper->Bool
 |_,[]=>true|i,o::r=>(o.after.toList.all λe=>!Region.binds .any e||Nat.blt e.on i)&&uv ops (b.getD i 0) o i&&gP ops b (i+1) r
where
 uv (ops:Array Oper) (m:Nat) (o:Oper):Nat->Bool
  |0=>true|j+1=>(m.testBit j||(match ops[j]? with|some p=>p.apart ops o|none=>false))&&uv ops m o j
def fN(pre:List Nat)(i:Nat)(o:Oper):Oper:=
 bif pre.contains i then o else{o with after:=o.after++((pre.filter (λp=>Nat.blt p i)).map (λp=>({on:=p,ground:=.data}:Edge))).toArray}
def bQ(pre:List Nat):Nat->List Oper->List Oper
 |_,[]=>[]|i,o::r=>fN pre i o::bQ pre (i+1) r
def iM(ops:Array Oper):List Nat->List Nat->Bool
 |_,[]=>true|done,p::r=>match ops[p]? with
  |some o=>!done.contains p&&o.guard.isNone&&(o.after.all λe=>!Region.binds .any e||done.contains e.on)&&
   ((List.range ops.size).all λj=>Nat.beq j p||done.contains j||(match ops[j]? with|some q=>(q.after.any λe=>Region.binds .any e&&Nat.beq e.on p)||o.apart ops q|none=>true))&&iM ops (p::done) r
  |none=>false
def m0(ops:Array Oper):Bool:=ops.all λo=>match o.op with|.select _ _=>false|_=>true
def UZ(G:Nat->Option (List D))(sl:List (Nat×AV))(o:Oper):Option AV:=
 match o.op with
 |.move x=>some (ct G sl x)|.binOp .add _ x y _=>match ct G sl x,ct G sl y with
  |.d (.int k a),.d (.int k' b)=>bif k==k' then some (.d (.int k (k.wrap (a+b))))else none|_,_=>none
 |.binOp .sub _ x y _=>match ct G sl x,ct G sl y with
  |.d (.int k a),.d (.int k' b)=>bif k==k' then some (.d (.int k (k.wrap (a-b))))else none|_,_=>none
 |_=>none
def Ev(G:Nat->Option (List D))(N:Nat)(ops:List Oper):List Nat->List (Nat×AV)->Bool
 |[],_=>true|p::r,sl=>match ops[p]? with
  |some o=>match UZ G sl o with
   |some v=>gr N o.dst&&Ev G N ops r (eJ o.dst v sl)|none=>false
  |none=>false
def B4:Op->Bool
 |.move _=>true|.extract _ _=>true|_=>false
def F7(ops:Array Oper)(p:Nat)(o:Oper):Bool:=
 match ops[p]? with
 |some q=>q.after.all λe=>!Region.binds .any e||o.after.any λe'=>Region.binds .any e'&&Nat.beq e'.on e.on|none=>false
def mc(ops:Array Oper)(late:List Nat)(i:Nat)(o:Oper):Oper:=
 bif late.contains i then o else{o with after:=o.after++((late.filter (λp=>Nat.blt p i&&F7 ops p o)).map (λp=>({on:=p,ground:=.data}:Edge))).toArray}
def gU(ops:Array Oper)(late:List Nat):Nat->List Oper->List Oper
 |_,[]=>[]|i,o::r=>mc ops late i o::gU ops late (i+1) r
def uw(ops:Array Oper)(late:List Nat):Bool:=
 late.all λp=>match ops[p]? with
  |some o=>B4 o.op&&o.guard.isNone&&((List.range ops.size).all λj=>Nat.beq j p||(o.after.any λe=>Region.binds .any e&&Nat.beq e.on j)||(match ops[j]? with|some q=>(q.after.any λe=>Region.binds .any e&&Nat.beq e.on p)||o.apart ops q|none=>true))|none=>false
def U0(u:Nat)(v:AV):List (Nat×AV)->List (Nat×AV)
 |[]=>[(u,v)]|(s,x)::r=>bif Nat.beq u s then(u,v)::r else bif Nat.blt u s then(u,v)::(s,x)::r else(s,x)::U0 u v r
def F8:List (Nat×AV)->List (Nat×AV)
 |[]=>[]|(u,v)::r=>U0 u v (F8 r)
structure Nd where
 ls:List Bool
 ps:List (Nat×Nat)
def Rt(k i:Nat):List (Nat×Nat)->Bool
 |[]=>false|(p,j)::r=>(Nat.beq p k&&Nat.beq j i)||Rt k i r
def Z8:List Bool->List Bool->Bool
 |[],[]=>true|a::l,b::m=>(a==b)&&Z8 l m|_,_=>false
def Ru(ops:Array Oper)(pl:List Nd)(z:Nat):Nat->List Nd->Bool
 |_,[]=>true|k,nd::r=>(match Region.ready .any ops nd.ls.toArray with
  |[]=>Nat.beq k z|rs=>rs.all λi=>Nat.blt i nd.ls.length&&(nd.ls.getD i true==false)&&pl.any λe=>Z8 e.ls (nd.ls.set i true)&&Rt k i e.ps)&&Ru ops pl z (k+1) r
def H6(ops:Array Oper)(pl:List Nd):Bool:=Ru ops pl pl.length 0 (⟨List.replicate ops.size false,[]⟩::pl)
def aZ(n m:Nat)(ps:List (Nat×Nat)):Nd:=⟨(List.range n).map λi=>m.testBit i,ps⟩
inductive OT where
 |done|one (i:Nat) (t:OT)|more (i:Nat) (t r:OT)
def OT.NW:OT->List Nat
 |.done=>[]|.one i _=>[i]|.more i _ r=>i::r.NW
def OT.depth:OT->Nat
 |.done=>0|.one _ t=>t.depth+1|.more _ t r=>max (t.depth+1) r.depth
def OT.fit (ops:Array Oper):OT->Bool->Array Bool->Bool
 |.done,top,listed=>!top||(Region.ready .any ops listed).isEmpty|.one i t,top,listed=>(!top||Region.ready .any ops listed==[i])&&t.fit ops true (listed.setIfInBounds i true)|.more i t r,top,listed=>(!top||Region.ready .any ops listed==i::r.NW)&&(t.fit ops true (listed.setIfInBounds i true)&&r.fit ops false listed)
def OT.fits (tr:OT) (pre:List Nat) (ops:List Oper):Bool:=Nat.ble tr.depth ops.length&&tr.fit (bQ pre 0 ops).toArray true (Array.replicate ops.length false)
structure NY(ops:List Oper):Prop where
 ok:gP ops.toArray (cD ops []) 0 ops=true
def nN(o:Oper)(sl:List (Nat×AV))(iT:List av)(x:Nat)(K:AV->av->Prop):Prop:=
 ∃f args ats i iz args' sz n es,o.op=.call {callee:=.value f,args:=args,argTypes:=ats}/\nM (ct G sl f).aU (args.toList.map λx=>(ct G sl x).aU)=some (i,iz)/\
  ((ct G sl f).ok/\dK (gE G sl args.toList))/\fq iT iz=some args'/\AV.shut.mZ args'=true/\FC i args' [] (.ret (.ow 0 sz n)) [.row sz es]/\
  ((∀r∈es,∀x∈r,x.flat=true)∨fq [] iz=some args')/\iT[x]?=some .bJ/\K (.ow x sz n) (.row sz es)
def pP(ops:List Oper)(b:List Nat)(base:Nat):List av->Nat->Nat->List Oper->(Ex->St->Prop)->St->Prop
 |_,_,_,[],Q,s=>Q .normal s|iT,k,i,o::rest,Q,s=>bif gr N o.dst then
  bif barrier b i then match o.guard with
   |none=>sM FC T G o s (λv bx=>pP ops b base bx k (i+1) rest Q ⟨eJ o.dst v s.sl,bx⟩) Q|some (j,want)=>match guardOf s.sl ops j want with
    |some g=>stepG FC T G g o s (λv=>pP ops b base s.bx k (i+1) rest Q ⟨eJ o.dst (.cond g v) s.sl,s.bx⟩)|none=>False
  else match jh T G s.sl o with
   |some cs=>match iT[base+k]? with
    |some .bJ=>pP ops b base iT (k+1) (i+1) rest Q ⟨eJ o.dst (.ptr (base+k) 0) s.sl,s.bx.set (base+k) (.var cs)⟩|_=>False
   |none=>match o.guard with
    |none=>stepG FC T G true o ⟨s.sl,iT⟩ (λv=>pP ops b base iT k (i+1) rest Q ⟨eJ o.dst v s.sl,s.bx⟩)∨
     nN FC G o s.sl iT (base+k) (λv B=>pP ops b base iT (k+1) (i+1) rest Q ⟨eJ o.dst v s.sl,s.bx.set (base+k) B⟩)
    |some (j,want)=>match guardOf s.sl ops j want with
     |some g=>stepG FC T G g o ⟨s.sl,iT⟩ (λv=>pP ops b base iT k (i+1) rest Q ⟨eJ o.dst (.cond g v) s.sl,s.bx⟩)|none=>False
  else False
def Al(ops:List Oper)(i:Nat)(K:St->Prop)(Q:Ex->St->Prop)(s:St):Prop:=match ops[i]? with
 |some o=>bif gr N o.dst then match o.guard with
  |none=>sM FC T G o s (λv bx=>K ⟨eJ o.dst v s.sl,bx⟩) Q|some (j,want)=>match guardOf s.sl ops j want with
   |some g=>zj (.d (.bool g)) (λ_=>sM FC T G o s (λv bx=>K ⟨eJ o.dst (.cond true v) s.sl,bx⟩) Q) (λ_=>K ⟨eJ o.dst (.cond false .any) s.sl,s.bx⟩)|none=>False
  else False
 |none=>False
def Pj(ops:List Oper)(Q:Ex->St->Prop)(R:St->Prop):OT->St->Prop
 |.done,s=>R s|.one i o,s=>Al FC T G N ops i (Pj ops Q R o) Q s|.more i o r,s=>Al FC T G N ops i (Pj ops Q R o) Q s/\Pj ops Q R r s
def atEnd(o:Option St)(s:St):Prop:=match o with
 |some s1=>(⟨F8 s.sl,s.bx⟩:St)=s1|none=>False
def aap(Q:Ex->St->Prop):Option St->Prop
 |some s1=>Q .normal s1|none=>True
def Xp(ops:List Oper)(Q:Ex->St->Prop)(s:St):Prop:=
 ∃(pre:List Nat) (tr:OT) (s1:Option St),(iM ops.toArray [] pre=true/\m0 ops.toArray=true/\Ev G N ops pre s.sl=true)/\tr.fits pre ops=true/\Pj FC T G N ops Q (atEnd s1) tr s/\aap Q s1
def H7(ops:List Oper)(Q:Ex->St->Prop)(S:List St)(s:St):List (Nat×Nat)->Prop
 |[]=>True|(p,i)::r=>(match S[p]? with|some s0=>Al FC T G N ops i (λs1=>(⟨F8 s1.sl,s1.bx⟩:St)=s) Q s0|none=>False)/\H7 ops Q S s r
def allM(ops:List Oper)(Q:Ex->St->Prop)(S:List St):Nat->List Nd->Prop
 |_,[]=>True|k,nd::r=>(match S[k]? with|some s=>H7 FC T G N ops Q S s nd.ps|none=>False)/\allM ops Q S (k+1) r
def Am(ks:List Nat):List (Nat×AV)->List (Nat×AV)
 |[]=>[]|(u,v)::r=>bif ks.contains u then(u,v)::Am ks r else Am ks r
def Xq(ops:List Oper)(Q:Ex->St->Prop)(s:St):Prop:=
 ∃(pl:List Nd) (S:List St) (s1 s0:St),H6 ops.toArray pl=true/\(S[0]?=some s0/\(s0=s∨∃ks,s0=⟨Am ks s.sl,s.bx⟩))/\S[pl.length]?=some s1/\allM FC T G N ops Q S 1 pl/\Q .normal s1
def Rv(ops:List Oper)(Q:Ex->St->Prop)(s:St):Prop:=Xp FC T G N ops Q s∨Xq FC T G N ops Q s∨
 ∃pre late:List Nat,((pre=[]/\late=[])∨(iM ops.toArray [] pre=true/\m0 ops.toArray=true/\uw (bQ pre 0 ops).toArray late=true/\Ev G N ops pre s.sl=true))/\NY (gU (bQ pre 0 ops).toArray late 0 (bQ pre 0 ops))/\
  pP FC T G N ops (cD (gU (bQ pre 0 ops).toArray late 0 (bQ pre 0 ops)) []) s.bx.length (s.bx++List.replicate (qP ops) .bJ) 0 0 ops Q ⟨s.sl,s.bx++List.replicate (qP ops) .bJ⟩
end
def vR(T:Nat->Option TI)(sl:List (Nat×AV))(bx:List av):List ResultVar->Option (Prop×List AV)
 |[]=>some (True,[])|.tmp t::r=>match vR T sl bx r with
  |some (c,vs)=>some ((fK t sl).ok/\c,(fK t sl).aU::vs)|none=>none
 |.cell t ty::r=>match T ty,vR T sl bx r with
  |some ti,some (c,vs)=>match fK t sl with
   |.ptr b o=>match rX ti (.ptr b o) bx with
    |some ⟨c',v,_⟩=>some (c'/\c,v::vs)|none=>none
   |_=>none
  |_,_=>none
def nO:List AV->AV
 |[v]=>v|vs=>.c5 vs
def Lw(bx:List av):AV->Option AV
 |.c5 vs=>(fq bx vs).map .c5|v=>sJ bx v
def rZ(bx:List av):AV->List av
 |.c5 vs=>fI bx vs|v=>nL bx v
def AV.within (n:Nat):AV->Bool
 |.any|.d _|.k _|.ep _|.cl _=>true|.agg cs|.c5 cs|.fn _ cs=>uz n cs|.sG _ x|.cond _ x=>x.within n|.ptr b _|.rp b _ _ _|.ow b _ _|.vw b _ _ _ _ _|.BS b=>Nat.blt b n
where
 uz (n:Nat):List AV->Bool
  |[]=>true|x::xs=>x.within n&&uz n xs
def bY(n:Nat):List av->Bool
 |[]=>true|.var cs::r=>AV.within.uz n cs&&bY n r|_::r=>bY n r
def kill:List Bool->List av->List av
 |[],bs=>bs|_,[]=>[]|k::ks,b::bs=>(bif k&&b.born then .dead else b)::kill ks bs
structure Rw(n:Nat)(c:Prop)(v:AV)(bx:List av)(res:eP)(aE:List av):Prop where
 ok:c/\((res=.ret v/\aE=bx)∨
  (∃ks u,Lw bx v=some u/\u.within n=true/\aE=(kill ks (rZ bx v)).take n/\bY n aE=true/\res=.ret u)∨
  (∃k sz m es,v=.ow k sz m/\bx[k]?=some (.row sz es)/\n<=k/\n<=bx.length/\bY n (bx.take n)=true/\res=.ret (.ow n sz m)/\aE=bx.take n++[.row sz es])∨
  (∃sz,v=.cl []/\n<=bx.length/\bY n (bx.take n)=true/\res=.ret (.ow n sz 0)/\aE=bx.take n++[.row sz []]))
structure NZ(v:AV)(bx:List av)(res:eP)(aE:List av):Prop where
 ok:res=.zh v/\aE=bx
def B5(T:Nat->Option TI)(results:List ResultVar)(n:Nat)(res:eP)(aE:List av):Ex->St->Prop
 |.exit _,_=>False|.panic v,s=>NZ v s.bx res aE|_,s=>match vR T s.sl s.bx results with
  |some (c,vs)=>Rw n c (nO vs) s.bx res aE|none=>False
def fH:Nat->List AV->List (Nat×AV)
 |_,[]=>[]|i,x::xs=>(i,x)::fH (i+1) xs
end Dem
end
section
open Go
namespace Dem
def nP(es:Array MapEntry)(clock:Nat):Prop:=es.all (·.born<clock)=true/\(es.toList.map (·.born)).Nodup
mutual
def aP(w:World)(ok:Nat->Prop):D->Value->Prop
 |.bool b,v=>v=.bool b|.int k n,v=>v=.int k n|.str s,v=>v=.string ⟨s.toArray⟩|.sl es,v=>∃base cap,v=.slice base es.length cap/\es.length<=cap/\
  (es=[]∨∃blk off sz,base=some ⟨blk,off,none⟩/\ok blk/\ax w ok blk sz es off)
 |.fn f,v=>v=.func (.func f) #[] #[]|.mp ag es,v=>∃blk ms clock,v=.map (some blk)/\ok blk/\w.heap[blk]?=some (.map ms clock)/\nP ms clock/\bB w ok ag es ms.toList
def bg(w:World)(ok:Nat->Prop)(blk:Nat):List D->Nat->Prop
 |[],_=>True|x::xs,off=>(∃u,w.cell? ⟨blk,off,none⟩=some u/\aP w ok x u)/\bg w ok blk xs (off+1)
def ax(w:World)(ok:Nat->Prop)(blk sz:Nat):List (List D)->Nat->Prop
 |[],_=>True|r::rs,off=>r.length=sz/\bg w ok blk r off/\ax w ok blk sz rs (off+sz)
def bB(w:World)(ok:Nat->Prop)(ag:Bool):List (List D)->List MapEntry->Prop
 |[],ms=>ms=[]|r::rs,ms=>∃m HN,ms=m::HN/\iN w ok ag r m/\bB w ok ag rs HN
def iN(w:World)(ok:Nat->Prop)(ag:Bool):List D->MapEntry->Prop
 |[],_=>False|k::ds,m=>aP w ok k m.key/\∃cs,m.val=(bif ag then .agg ⟨cs⟩else cs.headD undef)/\(ag=false->cs.length=1)/\cJ w ok ds cs
def cJ(w:World)(ok:Nat->Prop):List D->List Value->Prop
 |[],vs=>vs=[]|d::ds,vs=>∃v r,vs=v::r/\aP w ok d v/\cJ w ok ds r
end
def kZ(w w':World)(ok ok':Nat->Prop):Prop:=∀blk,ok blk->ok' blk/\w'.heap[blk]?=w.heap[blk]?
theorem oZ{w w':World}{blk:Nat}(h:w'.heap[blk]?=w.heap[blk]?)(off:Nat)(sp:Option Nat):w'.cell? ⟨blk,off,sp⟩=w.cell? ⟨blk,off,sp⟩:=by simp only[World.cell?,h]
theorem kZ.cell {w w':World} {ok ok':Nat->Prop} (h:kZ w w' ok ok') {blk:Nat} (hb:ok blk) (off:Nat):w'.cell? ⟨blk,off,none⟩=w.cell? ⟨blk,off,none⟩:=oZ (h blk hb).2 off _
mutual
theorem aP.mono {w w':World} {ok ok':Nat->Prop} (h:kZ w w' ok ok'):∀(x:D) (v:Value),aP w ok x v->aP w' ok' x v
 |.bool b,v,hv=>by simpa[aP]using hv|.int k n,v,hv=>by simpa[aP]using hv|.str s,v,hv=>by simpa[aP]using hv|.sl es,v,hv=>by simp only[aP]at hv ⊢;obtain⟨base,cap,h1,h2,h3⟩:=hv;refine⟨base,cap,h1,h2,h3.imp id ?_⟩;rintro⟨blk,off,sz,e1,e2,e3⟩;exact⟨blk,off,sz,e1,(h blk e2).1,ax.mono h blk sz (h.cell e2) es off e3⟩
 |.fn f,v,hv=>by simpa[aP]using hv|.mp ag es,v,hv=>by simp only[aP]at hv ⊢;obtain⟨blk,ms,clock,h1,h2,h3,h4,h5⟩:=hv;exact⟨blk,ms,clock,h1,(h blk h2).1,by rw[(h blk h2).2];exact h3,h4,bB.mono h ag es _ h5⟩
theorem bg.mono {w w':World} {ok ok':Nat->Prop} (h:kZ w w' ok ok') (blk:Nat) (hb:∀off,w'.cell? ⟨blk,off,none⟩=w.cell? ⟨blk,off,none⟩):∀(xs:List D) (off:Nat),bg w ok blk xs off->bg w' ok' blk xs off
 |[],_,_=>by simp[bg]|x::xs,off,hv=>by simp only[bg]at hv ⊢;obtain⟨⟨u,h1,h2⟩,h3⟩:=hv;exact⟨⟨u,by rw[hb];exact h1,aP.mono h x u h2⟩,bg.mono h blk hb xs _ h3⟩
theorem ax.mono {w w':World} {ok ok':Nat->Prop} (h:kZ w w' ok ok') (blk sz:Nat) (hb:∀off,w'.cell? ⟨blk,off,none⟩=w.cell? ⟨blk,off,none⟩):∀(rs:List (List D)) (off:Nat),ax w ok blk sz rs off->ax w' ok' blk sz rs off
 |[],_,_=>by simp[ax]|r::rs,off,hv=>by simp only[ax]at hv ⊢;exact⟨hv.1,bg.mono h blk hb r _ hv.2.1,ax.mono h blk sz hb rs _ hv.2.2⟩
theorem bB.mono {w w':World} {ok ok':Nat->Prop} (h:kZ w w' ok ok') (ag:Bool):∀(rs:List (List D)) (ms:List MapEntry),bB w ok ag rs ms->bB w' ok' ag rs ms
 |[],_,hv=>by simpa[bB]using hv|r::rs,ms,hv=>by simp only[bB]at hv ⊢;obtain⟨m,HN,h1,h2,h3⟩:=hv;exact⟨m,HN,h1,iN.mono h ag r m h2,bB.mono h ag rs HN h3⟩
theorem iN.mono {w w':World} {ok ok':Nat->Prop} (h:kZ w w' ok ok') (ag:Bool):∀(r:List D) (m:MapEntry),iN w ok ag r m->iN w' ok' ag r m
 |[],_,hv=>by simp[iN]at hv|k::ds,m,hv=>by simp only[iN]at hv ⊢;obtain⟨h1,cs,h2,h3,h4⟩:=hv;exact⟨aP.mono h k _ h1,cs,h2,h3,cJ.mono h ds cs h4⟩
theorem cJ.mono {w w':World} {ok ok':Nat->Prop} (h:kZ w w' ok ok'):∀(ds:List D) (vs:List Value),cJ w ok ds vs->cJ w' ok' ds vs
 |[],_,hv=>by simpa[cJ]using hv|d::ds,vs,hv=>by simp only[cJ]at hv ⊢;obtain⟨v,r,h1,h2,h3⟩:=hv;exact⟨v,r,h1,aP.mono h d v h2,cJ.mono h ds r h3⟩
end
def bq(β:Nat->Nat)(bx:List av)(w:World)(X:Nat->Prop)(blk:Nat):Prop:=
 blk<w.heap.size/\¬X blk/\∀i b,bx[i]?=some b->b.live=true->β i≠blk
def B6(f:Nat):List Value->Value
 |.tuple fs::vs=>.func (.func f) fs ⟨vs⟩|vs=>.func (.func f) #[] ⟨vs⟩
theorem H8(f:Nat)(vs:List Value):∃a b,B6 f vs=.func (.func f) a b:=by unfold B6;split<;>exact⟨_,_,rfl⟩
mutual
def ai(β:Nat->Nat)(bx:List av)(w:World)(ok:Nat->Prop):AV->Value->Prop
 |.any,_=>True|.d x,v=>aP w ok x v|.k c,v=>v=c.val|.agg cs,v=>∃vs,v=.agg ⟨vs⟩/\an β bx w ok cs vs|.c5 cs,v=>∃vs,v=.tuple ⟨vs⟩/\an β bx w ok cs vs|.ptr b off,v=>v=.pointer (some ⟨β b,off,none⟩)/\cr bx b|.rp b sz i j,v=>v=.pointer (some ⟨β b,i*sz+j,none⟩)/\cr bx b|.ep ds,v=>∃blk off,v=.pointer (some ⟨blk,off,none⟩)/\ok blk/\bg w ok blk ds off|.ow b sz n,v=>cr bx b/\((n=0/\∃base,v=.slice base 0 0)∨
  (n≠0/\∃cap c e f,v=.slice (some ⟨β b,0,none⟩) n cap/\n<=cap/\w.heap[β b]?=some (.cells c e f)/\cap*sz<=c.size))
 |.cl es,v=>∃base,v=.slice base es.length es.length/\(es=[]∨∃blk off sz,base=some ⟨blk,off,none⟩/\ok blk/\ax w ok blk sz es off)|.fn f cV,v=>∃vs,v=B6 f vs/\an β bx w ok cV vs|.sG t x,v=>∃u,v=.iface t u/\ai β bx w ok x u|.cond p x,v=>(p=true->ai β bx w ok x v)/\(p=false->v=undef)|.vw b sz off n c ex,v=>cr bx b/\∃base cap cs e f,v=.slice base n cap/\n<=cap/\c<=cap/\(ex=true->cap=c)/\(cap=0∨base=some ⟨β b,off*sz,none⟩/\w.heap[β b]?=some (.cells cs e f)/\(off+cap)*sz<=cs.size)|.BS b,v=>v=.map (some (β b))/\cr bx b
def an(β:Nat->Nat)(bx:List av)(w:World)(ok:Nat->Prop):List AV->List Value->Prop
 |[],vs=>vs=[]|x::xs,vs=>∃u us,vs=u::us/\ai β bx w ok x u/\an β bx w ok xs us
end
def dV(β:Nat->Nat)(bx:List av)(w:World)(ok:Nat->Prop):av->Nat->Prop
 |.var cs,blk=>∃c e,w.heap[blk]?=some (.cells c e (0,0))/\an β bx w ok cs c.toList|.row sz es,blk=>es=[]∨∃c e,w.heap[blk]?=some (.cells c e (0,0))/\ax w ok blk sz es 0|.mr sz es,blk=>es=[]∨(ok blk/\ax w ok blk sz es 0)|.it s pos,blk=>w.heap[blk]?=some (.stringIter ⟨s.toArray⟩ pos)|.mp ag es,blk=>∃ms clock,w.heap[blk]?=some (.map ms clock)/\nP ms clock/\bB w ok ag es ms.toList|.dead,_=>True|.bJ,_=>True
structure cB(G:Nat->Option (List D))(β:Nat->Nat)(bx:List av)(w:World)(X:Nat->Prop):Prop where
 xs:∀blk,X blk->blk<w.heap.size
 B7:∀g ds,G g=some ds->bq β bx w X g/\bg w (bq β bx w X) g ds 0
 inj:∀i j bi bj,bx[i]?=some bi->bx[j]?=some bj->bi.live=true->bj.live=true->β i=β j->i=j
 box:∀i b,bx[i]?=some b->dV β bx w (bq β bx w X) b (β i)
 apart:∀i b,bx[i]?=some b->b.live=true->¬X (β i)
structure Ext(β:Nat->Nat)(bx:List av)(w:World)(β':Nat->Nat)(aE:List av)(w':World):Prop where
 os:w'.os=w.os
 tape:w'.tape=w.tape
 output:w'.output=w.output
 size:w.heap.size<=w'.heap.size
 block:∀k,k<w.heap.size->(∀i b,bx[i]?=some b->b.live=true->β i≠k)->w'.heap[k]?=w.heap[k]?
 shape:∀(k:Nat) (c:Array Value) (e:TypeId) (f:Nat×Nat),w.heap[k]?=some (.cells c e f)->∃c',w'.heap[k]?=some (.cells c' e f)/\c'.size=c.size
 born:∀i,cr bx i->β' i=β i/\cr aE i
 live:∀i b,aE[i]?=some b->b.live=true->w.heap.size<=β' i∨∃j b',bx[j]?=some b'/\b'.live=true/\β j=β' i
theorem Ext.refl (β:Nat->Nat) (bx:List av) (w:World):Ext β bx w β bx w:=
 ⟨rfl,rfl,rfl,Nat.le_refl _,λ_ _ _=>rfl,λ_ c _ _ h=>⟨c,h,rfl⟩,λ_ h=>⟨rfl,h⟩,λi b h1 h2=>.inr ⟨i,b,h1,h2,rfl⟩⟩
theorem uA{b:av}(h:b.live=true):b.born=true:=by cases b<;>simp_all[av.live,av.born]
theorem Ext.trans {β β' β'':Nat->Nat} {bx aE Rx:List av} {w w' w'':World} (h:Ext β bx w β' aE w') (g:Ext β' aE w' β'' Rx w''):Ext β bx w β'' Rx w'':=by
 refine⟨g.os.trans h.os,g.tape.trans h.tape,g.output.trans h.output,Nat.le_trans h.size g.size,?_,?_,?_,?_⟩
 .intro k hk hl;rw[g.block k (Nat.lt_of_lt_of_le hk h.size),h.block k hk hl];intro i b hb hlv he;rcases h.live i b hb hlv with h1|⟨j,b',h1,h2,h3⟩
  .omega
  exact hl j b' h1 h2 (h3.trans he)
 .intro k c e f hk;obtain⟨c',h1,h2⟩:=h.shape k c e f hk;obtain⟨c'',h3,h4⟩:=g.shape k c' e f h1;exact⟨c'',h3,h4.trans h2⟩
 .intro i hi;obtain⟨h1,h2⟩:=h.born i hi;obtain⟨h3,h4⟩:=g.born i h2;exact⟨h3.trans h1,h4⟩
 intro i b hb hlv;rcases g.live i b hb hlv with h1|⟨j,b',h1,h2,h3⟩
 .exact .inl (Nat.le_trans h.size h1)
 rcases h.live j b' h1 h2 with h4|⟨k,b'',h4,h5,h6⟩
 .exact .inl (by omega)
 exact .inr ⟨k,b'',h4,h5,h6.trans h3⟩
theorem Ext.keeps {β β':Nat->Nat} {bx aE:List av} {w w':World} (h:Ext β bx w β' aE w') (X:Nat->Prop):
 kZ w w' (bq β bx w X) (bq β' aE w' X):=by
 rintro blk ⟨h1,h2,h3⟩;refine⟨⟨Nat.lt_of_lt_of_le h1 h.size,h2,?_⟩,h.block blk h1 h3⟩;intro i b hb hlv he;rcases h.live i b hb hlv with h4|⟨j,b',h4,h5,h6⟩
 .omega
 exact h3 j b' h4 h5 (h6.trans he)
structure vB(β:Nat->Nat)(bx:List av)(w:World)(ok:Nat->Prop)(β':Nat->Nat)(aE:List av)(w':World)(ok':Nat->Prop):Prop where
 keeps:kZ w w' ok ok'
 born:∀i,cr bx i->β' i=β i/\cr aE i
 shape:∀(k:Nat) (c:Array Value) (e:TypeId) (f:Nat×Nat),w.heap[k]?=some (.cells c e f)->∃c',w'.heap[k]?=some (.cells c' e f)/\c'.size=c.size
theorem Ext.dL {β β':Nat->Nat} {bx aE:List av} {w w':World} (h:Ext β bx w β' aE w') (X:Nat->Prop):
 vB β bx w (bq β bx w X) β' aE w' (bq β' aE w' X):=⟨h.keeps X,h.born,h.shape⟩
mutual
theorem ai.mono {β β':Nat->Nat} {bx aE:List av} {w w':World} {ok ok':Nat->Prop} (h:vB β bx w ok β' aE w' ok'):
 ∀(x:AV) (v:Value),ai β bx w ok x v->ai β' aE w' ok' x v
 |.any,_,_=>by simp[ai]|.d x,v,hv=>by simp only[ai]at hv ⊢;exact aP.mono h.keeps x v hv|.k c,v,hv=>by simpa[ai]using hv|.agg cs,v,hv=>by simp only[ai]at hv ⊢;obtain⟨vs,e,g⟩:=hv;exact⟨vs,e,an.mono h cs vs g⟩
 |.c5 cs,v,hv=>by simp only[ai]at hv ⊢;obtain⟨vs,e,g⟩:=hv;exact⟨vs,e,an.mono h cs vs g⟩
 |.ptr b off,v,hv=>by simp only[ai]at hv ⊢;obtain⟨e,g⟩:=hv;exact⟨by rw[(h.born b g).1];exact e,(h.born b g).2⟩
 |.rp b sz i j,v,hv=>by simp only[ai]at hv ⊢;obtain⟨e,g⟩:=hv;exact⟨by rw[(h.born b g).1];exact e,(h.born b g).2⟩
 |.ep ds,v,hv=>by simp only[ai]at hv ⊢;obtain⟨blk,off,e,g1,g2⟩:=hv;exact⟨blk,off,e,(h.keeps blk g1).1,bg.mono h.keeps blk (h.keeps.cell g1) ds off g2⟩
 |.ow b sz n,v,hv=>by simp only[ai]at hv ⊢;obtain⟨g,hv⟩:=hv;refine⟨(h.born b g).2,hv.imp id ?_⟩;rintro⟨hn,cap,c,e,f,e1,e2,e3,e4⟩;obtain⟨c',e5,e6⟩:=h.shape _ _ _ _ e3;rw[(h.born b g).1];exact⟨hn,cap,c',e,f,e1,e2,e5,by rw[e6];exact e4⟩
 |.cl es,v,hv=>by simp only[ai]at hv ⊢;obtain⟨base,e,g⟩:=hv;refine⟨base,e,g.imp id ?_⟩;rintro⟨blk,off,sz,e1,e2,e3⟩;exact⟨blk,off,sz,e1,(h.keeps blk e2).1,ax.mono h.keeps blk sz (h.keeps.cell e2) es off e3⟩
 |.fn f cV,v,hv=>by simp only[ai]at hv ⊢;obtain⟨vs,e,g⟩:=hv;exact⟨vs,e,an.mono h cV vs g⟩
 |.sG t x,v,hv=>by simp only[ai]at hv ⊢;obtain⟨u,e,g⟩:=hv;exact⟨u,e,ai.mono h x u g⟩
 |.cond p x,v,hv=>by simp only[ai]at hv ⊢;exact⟨λhp=>ai.mono h x v (hv.1 hp),hv.2⟩|.vw b sz off n c ex,v,hv=>by
  simp only[ai]at hv ⊢;obtain⟨g,base,cap,cs,e,f,e1,e2,e3,e4,e5⟩:=hv;rcases e5 with e5|⟨e5,e6,e7⟩
  .exact⟨(h.born b g).2,base,cap,cs,e,f,e1,e2,e3,e4,.inl e5⟩
  obtain⟨c',k5,k6⟩:=h.shape _ _ _ _ e6;rw[(h.born b g).1];exact⟨(h.born b g).2,base,cap,c',e,f,e1,e2,e3,e4,.inr ⟨e5,k5,by rw[k6];exact e7⟩⟩
 |.BS b,v,hv=>by simp only[ai]at hv ⊢;obtain⟨e,g⟩:=hv;exact⟨by rw[(h.born b g).1];exact e,(h.born b g).2⟩
theorem an.mono {β β':Nat->Nat} {bx aE:List av} {w w':World} {ok ok':Nat->Prop} (h:vB β bx w ok β' aE w' ok'):
 ∀(xs:List AV) (vs:List Value),an β bx w ok xs vs->an β' aE w' ok' xs vs
 |[],vs,hv=>by simpa[an]using hv|x::xs,vs,hv=>by simp only[an]at hv ⊢;obtain⟨u,us,e,g1,g2⟩:=hv;exact⟨u,us,e,ai.mono h x u g1,an.mono h xs us g2⟩
end
theorem an.length {β:Nat->Nat} {bx:List av} {w:World} {ok:Nat->Prop}:∀{xs:List AV} {vs:List Value},an β bx w ok xs vs->vs.length=xs.length
 |[],vs,h=>by simp only[an]at h;simp[h]|x::xs,vs,h=>by simp only[an]at h;obtain⟨u,us,rfl,_,g⟩:=h;simp[an.length g]
theorem an.get {β:Nat->Nat} {bx:List av} {w:World} {ok:Nat->Prop}:∀{xs:List AV} {vs:List Value} (i:Nat) (x:AV),an β bx w ok xs vs->xs[i]?=some x->∃v,vs[i]?=some v/\ai β bx w ok x v
 |[],_,i,x,_,hx=>by simp at hx|y::ys,vs,i,x,h,hx=>by
  simp only[an]at h;obtain⟨u,us,rfl,g1,g2⟩:=h;cases i with
  |zero=>simp at hx;subst hx;exact⟨u,by simp,g1⟩|succ i=>simp at hx;obtain⟨v,h1,h2⟩:=an.get i x g2 hx;exact⟨v,by simpa using h1,h2⟩
theorem an.drop {β:Nat->Nat} {bx:List av} {w:World} {ok:Nat->Prop}:∀(n:Nat) {xs:List AV} {vs:List Value},an β bx w ok xs vs->an β bx w ok (xs.drop n) (vs.drop n)
 |0,xs,vs,h=>by simpa using h|n+1,[],vs,h=>by simp only[an]at h;subst h;simp[an]|n+1,x::xs,vs,h=>by simp only[an]at h;obtain⟨u,us,rfl,_,g2⟩:=h;simpa using an.drop n g2
theorem an.take {β:Nat->Nat} {bx:List av} {w:World} {ok:Nat->Prop}:∀(n:Nat) {xs:List AV} {vs:List Value},an β bx w ok xs vs->an β bx w ok (xs.take n) (vs.take n)
 |0,xs,vs,h=>by simp[an]|n+1,[],vs,h=>by simp only[an]at h;subst h;simp[an]|n+1,x::xs,vs,h=>by simp only[an]at h;obtain⟨u,us,rfl,g1,g2⟩:=h;simp only[List.take_succ_cons,an];exact⟨u,_,rfl,g1,an.take n g2⟩
theorem an.append {β:Nat->Nat} {bx:List av} {w:World} {ok:Nat->Prop}:∀{xs ys:List AV} {vs us:List Value},an β bx w ok xs vs->an β bx w ok ys us->an β bx w ok (xs++ys) (vs++us)
 |[],ys,vs,us,h,g=>by simp only[an]at h;subst h;simpa using g|x::xs,ys,vs,us,h,g=>by simp only[an]at h;obtain⟨u,Ry,rfl,g1,g2⟩:=h;simp only[List.cons_append,an];exact⟨u,_,rfl,g1,an.append g2 g⟩
def bu:List Value->Nat->List Value->List Value
 |cs,_,[]=>cs|[],_,_::_=>[]|_::cs,0,v::vs=>v::bu cs 0 vs|c::cs,n+1,v::vs=>c::bu cs n (v::vs)
theorem an.fm {β:Nat->Nat} {bx:List av} {w:World} {ok:Nat->Prop}:∀{xs:List AV} {vs:List Value} (n:Nat) {ys:List AV} {us:List Value},an β bx w ok xs vs->an β bx w ok ys us->
 an β bx w ok (Dem.fm xs n ys) (bu vs n us)
 |xs,vs,n,[],us,h,g=>by simp only[an]at g;subst g;cases xs<;>cases vs<;>simpa[Dem.fm,bu]using h
 |[],vs,n,y::ys,us,h,g=>by simp only[an]at h g;obtain⟨u,Ry,rfl,_,_⟩:=g;subst h;simp[Dem.fm,bu,an]
 |x::xs,vs,0,y::ys,us,h,g=>by simp only[an]at h g;obtain⟨u,Ry,rfl,g1,g2⟩:=g;obtain⟨v,vs',rfl,h1,h2⟩:=h;simp only[Dem.fm,bu,an];exact⟨u,_,rfl,g1,an.fm 0 h2 g2⟩
 |x::xs,vs,n+1,y::ys,us,h,g=>by
  simp only[an]at h;obtain⟨v,vs',rfl,h1,h2⟩:=h;have g0:=g
  simp only[an]at g;obtain⟨u,Ry,rfl,g1,g2⟩:=g;simp only[Dem.fm,bu,an];exact⟨v,_,rfl,h1,an.fm n h2 g0⟩
theorem dV.mono {β β':Nat->Nat} {bx aE:List av} {w w':World} {ok ok':Nat->Prop} (h:vB β bx w ok β' aE w' ok') {b:av} {blk:Nat}
 (hl:b.live=true->w'.heap[blk]?=w.heap[blk]?) (hb:dV β bx w ok b blk):dV β' aE w' ok' b blk:=by
 cases b with
 |var cs=>
  obtain⟨c,e,h1,h2⟩:=hb
  exact⟨c,e,by rw[hl rfl];exact h1,an.mono h _ _ h2⟩
 |row sz es=>
  cases es with
  |nil=>exact .inl rfl|cons r rs=>
   rcases hb with hb|⟨c,e,h1,h2⟩
   .exact .inl hb
   exact .inr ⟨c,e,by rw[hl rfl];exact h1,ax.mono h.keeps blk sz (λoff=>oZ (hl rfl) off _) _ _ h2⟩
 |mr sz es=>
  rcases hb with hb|⟨h1,h2⟩
  .exact .inl hb
  exact .inr ⟨(h.keeps blk h1).1,ax.mono h.keeps blk sz (h.keeps.cell h1) _ _ h2⟩
 |it s pos=>simp only[dV]at hb ⊢;rw[hl rfl];exact hb|mp ag es=>
  obtain⟨ms,clock,h1,h2,h3⟩:=hb
  exact⟨ms,clock,by rw[hl rfl];exact h1,h2,bB.mono h.keeps ag es _ h3⟩
 |dead=>trivial|bJ=>trivial
theorem cB.step {G:Nat->Option (List D)} {β β':Nat->Nat} {bx aE:List av} {w w':World} {X:Nat->Prop} (cx:cB G β bx w X) (ex:Ext β bx w β' aE w')
 (ac1:∀i b,aE[i]?=some b->(bx[i]?=some b/\(b.live=true->w'.heap[β i]?=w.heap[β i]?))∨dV β' aE w' (bq β' aE w' X) b (β' i))
 (hinj:∀i j bi bj,aE[i]?=some bi->aE[j]?=some bj->bi.live=true->bj.live=true->β' i=β' j->i=j):cB G β' aE w' X:=by
 refine⟨λblk hb=>Nat.lt_of_lt_of_le (cx.xs blk hb) ex.size,?_,hinj,?_,?_⟩
 .intro g ds hg;obtain⟨h1,h2⟩:=cx.B7 g ds hg;exact⟨(ex.keeps X g h1).1,bg.mono (ex.keeps X) g ((ex.keeps X).cell h1) _ _ h2⟩
 .intro i b hb;rcases ac1 i b hb with⟨h1,h2⟩|h
  .by_cases dM:b.born=true
   .rw[(ex.born i ⟨b,h1,dM⟩).1];exact dV.mono (ex.dL X) h2 (cx.box i b h1)
   cases b<;>simp_all[av.born,dV]
  exact h
 intro i b hb hl hX;rcases ex.live i b hb hl with h|⟨j,b',h1,h2,h3⟩
 .have:=cx.xs _ hX;omega
 exact cx.apart j b' h1 h2 (h3▸hX)
structure F9(w w':World):Prop where
 heap:w'.heap=w.heap
 os:w'.os=w.os
 tape:w'.tape=w.tape
 output:w'.output=w.output
theorem kg{β:Nat->Nat}{bx:List av}{w w':World}(h:F9 w w'):Ext β bx w β bx w':=
 ⟨h.os,h.tape,h.output,by rw[h.heap];exact Nat.le_refl _,λk _ _=>by rw[h.heap],λk c e f hk=>⟨c,by rw[h.heap];exact hk,rfl⟩,λi hi=>⟨rfl,hi⟩,λi b h1 h2=>.inr ⟨i,b,h1,h2,rfl⟩⟩
theorem sN{G:Nat->Option (List D)}{β:Nat->Nat}{bx:List av}{w w':World}{X:Nat->Prop}(cx:cB G β bx w X)(h:F9 w w'):cB G β bx w' X:=
 cx.step (kg h) (λi b hb=>.inl ⟨hb,λ_=>by rw[h.heap]⟩) cx.inj
theorem fY(w:World):F9 w {w with drawn:=w.drawn+1}:=⟨rfl,rfl,rfl,rfl⟩
theorem kj(w:World)(o:Obj)(k:Nat)(h:k<w.heap.size):({w with heap:=w.heap.push o}:World).heap[k]?=w.heap[k]?:=by show(w.heap.push o)[k]?=_;rw[Array.getElem?_push,if_neg (by omega)]
theorem ko(w:World)(o:Obj):({w with heap:=w.heap.push o}:World).heap[w.heap.size]?=some o:=by show(w.heap.push o)[w.heap.size]?=_;simp
theorem fE{w:World}{k:Nat}{o:Obj}(h:w.heap[k]?=some o):k<w.heap.size:=by
 rcases Nat.lt_or_ge k w.heap.size with h'|h'
 .exact h'
 simp[Array.getElem?_eq_none h']at h
theorem wX{β:Nat->Nat}{bx:List av}{w:World}(o:Obj):Ext β bx w β bx {w with heap:=w.heap.push o}:=by refine⟨rfl,rfl,rfl,by simp,λk hk _=>kj w o k hk,λk c e f hk=>⟨c,?_,rfl⟩,λi hi=>⟨rfl,hi⟩,λi b h1 h2=>.inr ⟨i,b,h1,h2,rfl⟩⟩;rw[kj w o k (fE hk)];exact hk
theorem dV.fF {β:Nat->Nat} {bx:List av} {w:World} {ok:Nat->Prop} {b:av} {blk:Nat} (h:dV β bx w ok b blk) (hl:b.live=true):blk<w.heap.size:=by
 cases b with
 |var cs=>obtain⟨c,e,h1,_⟩:=h;exact fE h1
 |row sz es=>
  cases es with
  |nil=>simp[av.live]at hl|cons r rs=>
   rcases h with h|⟨c,e,h1,_⟩;· simp at h
   exact fE h1
 |it s pos=>exact fE h|mp ag es=>obtain⟨ms,clock,h1,_⟩:=h;exact fE h1
 |mr _ _=>simp[av.live]at hl|dead=>simp[av.live]at hl|bJ=>simp[av.live]at hl
theorem H9{G:Nat->Option (List D)}{β:Nat->Nat}{bx:List av}{w:World}{X:Nat->Prop}(cx:cB G β bx w X)(o:Obj):cB G β bx {w with heap:=w.heap.push o} X:=
 cx.step (wX o) (λi b hb=>.inl ⟨hb,λhl=>kj w o _ ((cx.box i b hb).fF hl)⟩) cx.inj
def m5(β:Nat->Nat)(i blk:Nat):Nat->Nat:=λj=>if j=i then blk else β j
theorem bC(β:Nat->Nat)(i blk:Nat):m5 β i blk i=blk:=by simp[m5]
theorem de(β:Nat->Nat){i j:Nat}(blk:Nat)(h:j≠i):m5 β i blk j=β j:=by simp[m5,h]
theorem fh{bx:List av}{B:av}{i:Nat}{b:av}(h:bx[i]?=some b):(bx++[B])[i]?=some b:=by
 have:i<bx.length:=by
  rcases Nat.lt_or_ge i bx.length with h'|h';· exact h'
  simp[List.getElem?_eq_none h']at h
 rw[List.getElem?_append_left this];exact h
theorem bF{bx:List av}{B:av}{i:Nat}{b:av}(h:(bx++[B])[i]?=some b):(bx[i]?=some b/\i<bx.length)∨(i=bx.length/\b=B):=by
 rcases Nat.lt_or_ge i bx.length with h'|h'
 .rw[List.getElem?_append_left h']at h;exact .inl ⟨h,h'⟩
 rw[List.getElem?_append_right h']at h;by_cases hi:i=bx.length
 .subst hi;simp at h;exact .inr ⟨rfl,h.symm⟩
 simp[show i-bx.length≠0 by omega]at h
theorem gG{β:Nat->Nat}{bx:List av}{w:World}(o:Obj)(B:av):Ext β bx w (m5 β bx.length w.heap.size) (bx++[B]) {w with heap:=w.heap.push o}:=by
 refine⟨rfl,rfl,rfl,by simp,λk hk _=>kj w o k hk,λk c e f hk=>⟨c,?_,rfl⟩,?_,?_⟩
 .rw[kj w o k (fE hk)];exact hk
 .rintro i ⟨b,h1,h2⟩;have:i<bx.length:=by
   rcases Nat.lt_or_ge i bx.length with h'|h';· exact h'
   simp[List.getElem?_eq_none h']at h1
  exact⟨de _ _ (by omega),b,fh h1,h2⟩
 intro i b h1 h2;rcases bF h1 with⟨h3,h4⟩|⟨rfl,rfl⟩
 .exact .inr ⟨i,b,h3,h2,(de _ _ (by omega)).symm⟩
 exact .inl (by rw[bC];exact Nat.le_refl _)
theorem mw{G:Nat->Option (List D)}{β:Nat->Nat}{bx:List av}{w:World}{X:Nat->Prop}(cx:cB G β bx w X)(o:Obj)(B:av)
 (hB:dV (m5 β bx.length w.heap.size) (bx++[B]) {w with heap:=w.heap.push o} (bq (m5 β bx.length w.heap.size) (bx++[B]) {w with heap:=w.heap.push o} X) B w.heap.size):
 cB G (m5 β bx.length w.heap.size) (bx++[B]) {w with heap:=w.heap.push o} X:=by
 refine cx.step (gG o B) ?_ ?_
 .intro i b hb;rcases bF hb with⟨h3,h4⟩|⟨rfl,rfl⟩
  .exact .inl ⟨h3,λhl=>kj w o _ ((cx.box i b h3).fF hl)⟩
  exact .inr (by rw[bC];exact hB)
 intro i j bi bj h1 h2 l1 l2 he;rcases bF h1 with⟨h3,h4⟩|⟨rfl,rfl⟩<;>rcases bF h2 with⟨h5,h6⟩|⟨rfl,rfl⟩
 .rw[de _ _ (by omega),de _ _ (by omega)]at he;exact cx.inj i j bi bj h3 h5 l1 l2 he
 .rw[de _ _ (by omega),bC]at he;have:=(cx.box i bi h3).fF l1;omega
 .rw[bC,de _ _ (by omega)]at he;have:=(cx.box j bj h5).fF l2;omega
 rfl
end Dem
end
section
open Go
namespace Dem
structure jj(P:Program)(T:Nat->Option TI):Prop where
 ti:∀t ti,T t=some ti->sy P t=some ti
 fields:∀t ti fs,T t=some ti->ti.kd=.struct fs->∀f∈fs,∃tf,T f.2=some tf
 deep:8<=P.depth
theorem aL{P:Program}{t:Nat}{ti:TI}(h:sy P t=some ti):
 ∃i d,P.info? t=some i/\P.underlying t=some d/\ti.size=i.size/\ti.bytes=i.bytes/\ti.kd=cX d/\ti.zero=(match i.zero with|some z=>UW z|none=>.any):=by
 unfold sy at h;split at h
 .rename_i i d h1 h2;simp at h;subst h;exact⟨i,d,h1,h2,rfl,rfl,rfl,rfl⟩
 simp at h
theorem Pk{P:Program}{t:Nat}{ti:TI}(h:sy P t=some ti){nm:String}{f:Nat}(hi:ti.inv=some (nm,f)):
 ∃i d,P.info? t=some i/\P.underlying t=some d/\(∀e,d≠.pointer e)/\∃m,i.methods.find? (λm=>m.name==nm)=some m/\m.path.toList=[]/\m.func=some (f,false):=by
 unfold sy at h;split at h
 .rename_i i d h1 h2;simp only[osI]at h;subst h;simp only at hi;cases hp:(cX d).plain with
  |false=>simp[hp]at hi|true=>
  simp only[hp,cond_true]at hi;refine⟨i,d,h1,h2,λe he=>by subst he;simp[cX,Kd.plain]at hp,?_⟩;unfold Xn at hi;obtain⟨Xr,hn,hi⟩:=List.exists_of_findSome?_eq_some hi;split at hi
  .rename_i a b path g hm;cases he:path.toList.isEmpty with
   |false=>simp[he]at hi|true=>
   simp only[he,cond_true,osI,vab]at hi;obtain⟨rfl,rfl⟩:=hi;exact⟨_,by rw[<-Array.find?_toList];exact hm,by simpa using he,rfl⟩
  cases hi
 simp at h
theorem U1{P:Program}{t:Nat}{ti:TI}(h:sy P t=some ti){d:TypeDesc}(hd:P.underlying t=some d):ti.eq=Rn P t d:=by
 unfold sy at h;split at h
 .rename_i i d' h1 h2;rw[hd]at h2;simp at h;subst h;simp only[osI]at h2;subst h2;rfl
 simp at h
section
variable {P:Program}{w:World}{t:Nat}
theorem aX{d:TypeDesc}(h:P.underlying t=some d):(underlying t).run P w=.ok d w:=by simp[underlying,program,Sem.run,h,Bind.bind,Sem.bind,Pure.pure]
theorem nQ{i:TypeInfo}(h:P.info? t=some i):(typeInfo t).run P w=.ok i w:=by simp[typeInfo,program,Sem.run,h,Bind.bind,Sem.bind,Pure.pure]
theorem cg{i:TypeInfo}(h:P.info? t=some i):(Go.sizeOf t).run P w=.ok i.size w:=by simp[Go.sizeOf,nQ h]
theorem iD{i:TypeInfo}{z:Value}(h:P.info? t=some i)(hz:i.zero=some z):(zeroValue t).run P w=.ok z w:=by simp[zeroValue,nQ h,hz]
theorem Ew{d:TypeDesc}(h:P.underlying t=some d):(isAgg t).run P w=.ok (cX d).isAgg w:=by simp[isAgg,aX h];cases d<;>simp[cX,Kd.isAgg]
theorem run_load{a:Addr}{v:Value}(h:w.cell? a=some v):(load a).run P w=.ok v w:=by simp[load,Sem.run,h]
end
theorem gu(blk off n:Nat):(⟨blk,off,none⟩:Addr).add n=⟨blk,off+n,none⟩:=by
 unfold Addr.add;split
 .simp_all
 rfl
theorem run_loadCellsFrom{P:Program}{w:World}{blk off:Nat}:∀(vs:List Value) (i:Nat) (acc:Array Value),(∀j v,vs[j]?=some v->w.cell? ⟨blk,off+i+j,none⟩=some v)->
 (loadCellsFrom ⟨blk,off,none⟩ i vs.length acc).run P w=.ok (acc++vs.toArray) w
 |[],i,acc,_=>by simp[loadCellsFrom]|v::vs,i,acc,h=>by have h0:=h 0 v rfl;simp only[List.length_cons,loadCellsFrom,gu,Sem.run_bind];rw[run_load (v:=v) (by simpa using h0)];simp only[Result.andThen_ok];rw[run_loadCellsFrom vs (i+1) (acc.push v) (λj u hj=>by have:=h (j+1) u (by simpa using hj);rwa[show off+i+(j+1)=off+(i+1)+j by omega]at this)];simp
theorem run_loadCells{P:Program}{w:World}{blk off:Nat}(vs:List Value)(h:∀j v,vs[j]?=some v->w.cell? ⟨blk,off+j,none⟩=some v):
 (loadCells ⟨blk,off,none⟩ vs.length).run P w=.ok vs.toArray w:=by
 have:=run_loadCellsFrom (P:=P) vs 0 #[] (w:=w) (blk:=blk) (off:=off) (by simpa using h);simpa[loadCells]using this
def dJ(G:Nat->Option (List D))(β:Nat->Nat)(bx:List av)(w:World)(X:Nat->Prop)(r:Result Next)(v:AV)(aE:List av):Prop:=
 ∃β' w',Ext β bx w β' aE w'/\cB G β' aE w' X/\
  ((∃u,r=.ok (.value u) w'/\ai β' aE w' (bq β' aE w' X) v u)∨(r=.ok .skip w'/\v=.any))
section
variable {P:Program}{T:Nat->Option TI}{G:Nat->Option (List D)}{β:Nat->Nat}{bx:List av}{w:World}{X:Nat->Prop}
theorem dJ.pure {r:Result Next} {v:AV} {u:Value} (cx:cB G β bx w X) (hr:r=.ok (.value u) w) (h:ai β bx w (bq β bx w X) v u):dJ G β bx w X r v bx:=
 ⟨β,w,Ext.refl _ _ _,cx,.inl ⟨u,hr,h⟩⟩
theorem uB{ok:Nat->Prop}{blk:Nat}:∀(ds:List D) (off:Nat),bg w ok blk ds off->∃vs,vs.length=ds.length/\(∀j v,vs[j]?=some v->w.cell? ⟨blk,off+j,none⟩=some v)/\
 an β bx w ok (ds.map .d) vs
 |[],off,_=>⟨[],rfl,by simp,by simp[an]⟩|x::xs,off,h=>by
  simp only[bg]at h;obtain⟨⟨u,h1,h2⟩,h3⟩:=h;obtain⟨vs,g1,g2,g3⟩:=uB xs (off+1) h3;refine⟨u::vs,by simp[g1],?_,?_⟩
  .intro j v hj;cases j with
   |zero=>simp at hj;subst hj;simpa using h1|succ j=>have:=g2 j v (by simpa using hj);rwa[show off+(j+1)=off+1+j by omega]
  simp only[List.map_cons,an,ai];exact⟨u,vs,rfl,h2,g3⟩
theorem bg.drop {ok:Nat->Prop} {blk:Nat}:∀(n:Nat) (ds:List D) (off:Nat),bg w ok blk ds off->bg w ok blk (ds.drop n) (off+n)
 |0,ds,off,h=>by simpa using h|n+1,[],off,h=>by simp[bg]|n+1,x::xs,off,h=>by
  simp only[bg]at h;have:=bg.drop n xs (off+1) h.2
  simpa[show off+(n+1)=off+1+n by omega]using this
theorem bg.take {ok:Nat->Prop} {blk:Nat}:∀(n:Nat) (ds:List D) (off:Nat),bg w ok blk ds off->bg w ok blk (ds.take n) off
 |0,ds,off,h=>by simp[bg]|n+1,[],off,h=>by simp[bg]|n+1,x::xs,off,h=>by simp only[bg]at h;simp only[List.take_succ_cons,bg];exact⟨h.1,bg.take n xs _ h.2⟩
theorem ax.get {ok:Nat->Prop} {blk sz:Nat}:∀(i:Nat) (es:List (List D)) (off:Nat),ax w ok blk sz es off->i<es.length->(es.getD i []).length=sz/\bg w ok blk (es.getD i []) (off+i*sz)
 |_,[],_,_,hi=>by simp at hi|0,r::rs,off,h,_=>by simp only[ax]at h;simpa using⟨h.1,h.2.1⟩|i+1,r::rs,off,h,hi=>by
  simp only[ax]at h;have:=ax.get i rs (off+sz) h.2.2 (by simpa using hi)
  simpa[Nat.add_mul,show off+sz+i*sz=off+(i*sz+sz) by omega]using this
theorem vS{ti:TI}{t:Nat}(ht:sy P t=some ti){cs:List AV}{v:AV}{vs:List Value}{blk off:Nat}{ok:Nat->Prop}
 (hs:cQ ti.kd.isAgg ti.size cs=some v) (hr:an β bx w ok cs vs) (hc:∀j v,vs[j]?=some v->w.cell? ⟨blk,off+j,none⟩=some v):
 ∃u,(loadVar t ⟨blk,off,none⟩).run P w=.ok u w/\ai β bx w ok v u:=by
 obtain⟨i,d,h1,h2,h3,h4,h5,h6⟩:=aL ht;unfold cQ at hs;simp only[loadVar,Sem.run_bind,Ew h2,Result.andThen_ok,h5]at hs ⊢;cases hk:(cX d).isAgg with
 |true=>
  simp only[hk,cond_true]at hs
  cases hle:Nat.ble ti.size cs.length with
  |false=>simp[hle]at hs|true=>
   simp only[hle,cond_true,osI]at hs
   subst hs
   have hlen:=an.length hr
   have hle':ti.size<=cs.length:=Nat.le_of_ble_eq_true hle
   have:=run_loadCells (P:=P) (w:=w) (blk:=blk) (off:=off) (vs.take ti.size) (λj v hj=>by
    rw[List.getElem?_take]at hj;split at hj
    .exact hc j v hj
    simp at hj)
   rw[vav,Nat.min_eq_left (by omega)]at this
   simp only[if_true,Sem.run_bind,cg h1,Result.andThen_ok,<-h3,this]
   exact⟨_,rfl,by simp only[ai];exact⟨_,rfl,an.take _ hr⟩⟩
 |false=>
  simp only[hk,cond_false]at hs
  cases cs with
  |nil=>simp at hs|cons c cs=>
   simp at hs;subst hs
   simp only[an]at hr
   obtain⟨u,us,rfl,g1,_⟩:=hr
   have:=hc 0 u rfl
   simp only[Bool.false_eq_true,if_false]
   exact⟨u,run_load (by simpa using this),g1⟩
theorem B8(hT:jj P T)(cx:cB G β bx w X){t:Nat}{ti:TI}(ht:T t=some ti){a:AV}{u:Value}(ha:ai β bx w (bq β bx w X) a u)
 {c:Prop} {v:AV} {b:Option (List av)} (hr:rX ti a bx=some ⟨c,v,b⟩) (hc:c):
 b=none/\∃x,(Instr.loadAt t u).run P w=.ok x w/\ai β bx w (bq β bx w X) v x:=by
 have ht':=hT.ti t ti ht;unfold rX at hr;split at hr
 .rename_i b' off;simp only[ai]at ha;obtain⟨rfl,hb⟩:=ha;split at hr
  .rename_i cs uC;split at hr
   .rename_i v' hs;simp only[R.pure,osI,R.mk.injEq]at hr;obtain⟨_,rfl,rfl⟩:=hr;obtain⟨ca,e,h1,h2⟩:=cx.box _ _ uC;have h3:=an.drop off h2
    obtain⟨x,g1,g2⟩:=vS (P:=P) (w:=w) (blk:=β b') (off:=off) ht' hs h3 (λj v hj=>by rw[List.getElem?_drop]at hj;simp only[World.cell?,h1];simpa using hj);exact⟨rfl,x,by simpa[Instr.loadAt,Instr.sureAddr]using g1,g2⟩
   simp at hr
  simp at hr
 .rename_i ds;simp only[ai]at ha;obtain⟨blk,off,rfl,hb,hrow⟩:=ha;split at hr
  .rename_i v' hs;simp only[R.pure,osI,R.mk.injEq]at hr;obtain⟨_,rfl,rfl⟩:=hr;obtain⟨vs,g1,g2,g3⟩:=uB (β:=β) (bx:=bx) ds off hrow;obtain⟨x,k1,k2⟩:=vS (P:=P) (w:=w) (blk:=blk) (off:=off) ht' hs g3 g2;exact⟨rfl,x,by simpa[Instr.loadAt,Instr.sureAddr]using k1,k2⟩
  simp at hr
 .rename_i b' sz i j;simp only[ai]at ha;obtain⟨rfl,hb⟩:=ha;have main:∀(s:Nat) (es:List (List D)),i<es.length->s=sz->ax w (bq β bx w X) (β b') s es 0->∀v',cQ ti.kd.isAgg ti.size (List.map AV.d ((es.getD i []).drop j))=some v'->
   ∃x,(Instr.loadAt t (.pointer (some ⟨β b',i*sz+j,none⟩))).run P w=.ok x w/\ai β bx w (bq β bx w X) v' x:=by
   intro s es hi hs hrows v' hsp;obtain⟨_,hrow⟩:=ax.get i es 0 hrows hi;have hrow:=bg.drop j _ _ hrow
   obtain⟨vs,g1,g2,g3⟩:=uB (β:=β) (bx:=bx) _ _ hrow;subst hs;obtain⟨x,k1,k2⟩:=vS (P:=P) (w:=w) (blk:=β b') (off:=0+i*s+j) ht' hsp g3 g2;exact⟨x,by simpa[Instr.loadAt,Instr.sureAddr]using k1,k2⟩
  split at hr
  .rename_i s es uC;split at hr
   .rename_i v' hsp;simp only[osI,R.mk.injEq]at hr;obtain⟨rfl,rfl,rfl⟩:=hr;rcases cx.box _ _ uC with h|⟨ca,e,h1,h2⟩
    .subst h;simp at hc
    exact⟨rfl,main s es hc.2 hc.1 h2 _ hsp⟩
   simp at hr
  .rename_i s es uC;split at hr
   .rename_i v' hsp;simp only[osI,R.mk.injEq]at hr;obtain⟨rfl,rfl,rfl⟩:=hr;rcases cx.box _ _ uC with h|⟨h1,h2⟩
    .subst h;simp at hc
    exact⟨rfl,main s es hc.2 hc.1 h2 _ hsp⟩
   simp at hr
  simp at hr
 simp at hr
def Lx:Value->Prop
 |.agg _=>False|.tuple _=>False|_=>True
theorem aP.sc {ok:Nat->Prop} {x:D} {v:Value} (h:aP w ok x v):Lx v:=by
 cases x<;>simp only[aP]at h
 .subst h;trivial
 .subst h;trivial
 .subst h;trivial
 .obtain⟨_,_,rfl,_⟩:=h;trivial
 .subst h;trivial
 obtain⟨_,_,_,rfl,_⟩:=h;trivial
theorem ai.sc {ok:Nat->Prop} {x:AV} {v:Value} (hx:x.sc=true) (h:ai β bx w ok x v):Lx v:=by
 cases x<;>simp only[AV.sc,Bool.false_eq_true]at hx<;>simp only[ai]at h
 .exact aP.sc h
 .rename_i c;subst h;cases c<;>trivial
 .obtain⟨rfl,_⟩:=h;trivial
 .obtain⟨rfl,_⟩:=h;trivial
 .obtain⟨_,_,rfl,_⟩:=h;trivial
 .obtain⟨_,h|h⟩:=h
  .obtain⟨_,_,rfl⟩:=h;trivial
  obtain⟨_,_,_,_,_,rfl,_⟩:=h;trivial
 .obtain⟨_,rfl,_⟩:=h;trivial
 .obtain⟨vs,rfl,_⟩:=h;obtain⟨a,b,e⟩:=H8 _ vs;rw[e];trivial
 .obtain⟨_,rfl,_⟩:=h;trivial
 obtain⟨rfl,_⟩:=h;trivial
theorem an.sc {ok:Nat->Prop}:∀{xs:List AV} {vs:List Value},wU xs=true->an β bx w ok xs vs->∀v∈vs,Lx v
 |[],vs,_,h=>by simp only[an]at h;subst h;simp|x::xs,vs,hx,h=>by
  simp only[an]at h;obtain⟨u,us,rfl,g1,g2⟩:=h;cases hs:x.sc with
  |false=>simp[wU,hs]at hx|true=>
   simp only[wU,hs,cond_true]at hx;intro v hv;rcases List.mem_cons.1 hv with rfl|hv
   .exact ai.sc hs g1
   exact an.sc hx g2 v hv
theorem pQ{ok:Nat->Prop}{x:AV}{v:Value}{cs:List AV}(hx:x.cells?=some cs)(h:ai β bx w ok x v):
 ∃vs,v.cells=⟨vs⟩/\an β bx w ok cs vs/\(∀u∈vs,Lx u):=by
 have one:∀(y:AV) (u:Value),y.sc=true->ai β bx w ok y u->∃vs,u.cells=⟨vs⟩/\an β bx w ok [y] vs/\(∀u∈vs,Lx u):=by
  intro y u hy hu;have:=ai.sc hy hu
  refine⟨[u],?_,by simp only[an];exact⟨u,[],rfl,hu,rfl⟩,by simpa using this⟩;cases u<;>simp_all[Value.cells,Lx]
 cases x with
 |any=>simp[AV.cells?]at hx|vw _ _ _ _ _ _=>simp[AV.cells?]at hx|c5 _=>simp[AV.cells?]at hx|cond _ _=>simp[AV.cells?]at hx|agg iz=>
  simp only[AV.cells?]at hx
  cases ha:wU iz with
  |false=>simp[ha]at hx|true=>
   simp only[ha,cond_true,osI]at hx
   subst hx
   simp only[ai]at h
   obtain⟨vs,rfl,g⟩:=h
   exact⟨vs,rfl,g,an.sc ha g⟩
 |d x=>simp only[AV.cells?,osI]at hx;subst hx;exact one _ _ rfl h|k x=>simp only[AV.cells?,osI]at hx;subst hx;exact one _ _ rfl h|ptr _ _=>simp only[AV.cells?,osI]at hx;subst hx;exact one _ _ rfl h|rp _ _ _ _=>simp only[AV.cells?,osI]at hx;subst hx;exact one _ _ rfl h|ep _=>simp only[AV.cells?,osI]at hx;subst hx;exact one _ _ rfl h|ow _ _ _=>simp only[AV.cells?,osI]at hx;subst hx;exact one _ _ rfl h|cl _=>simp only[AV.cells?,osI]at hx;subst hx;exact one _ _ rfl h|fn _ _=>simp only[AV.cells?,osI]at hx;subst hx;exact one _ _ rfl h|sG _ _=>simp only[AV.cells?,osI]at hx;subst hx;exact one _ _ rfl h|BS _=>simp only[AV.cells?,osI]at hx;subst hx;exact one _ _ rfl h
def eR(w:World)(blk:Nat)(o:Obj):World:={w with heap:=w.heap.setIfInBounds blk o}
theorem B9(w:World)(blk:Nat)(o:Obj)(k:Nat):(eR w blk o).heap[k]?=if k=blk then(w.heap[k]?).map (λ_=>o)else w.heap[k]?:=by
 show(w.heap.setIfInBounds blk o)[k]?=_;rw[Array.getElem?_setIfInBounds];by_cases h:blk=k
 .subst h;by_cases hk:blk<w.heap.size
  .simp[hk]
  simp[hk]
 simp[h,Ne.symm h]
theorem eG{w:World}{blk:Nat}{o o':Obj}(h:w.heap[blk]?=some o'):(eR w blk o).heap[blk]?=some o:=by rw[B9];simp[h]
theorem jL{w:World}{blk k:Nat}{o:Obj}(h:k≠blk):(eR w blk o).heap[k]?=w.heap[k]?:=by rw[B9];simp[h]
theorem Ga(w:World)(blk:Nat)(o o':Obj):eR (eR w blk o) blk o'=eR w blk o':=by unfold eR;simp
theorem Ia{w:World}{blk off:Nat}{c:Array Value}{e:TypeId}{f:Nat×Nat}(h:w.heap[blk]?=some (.cells c e f))(v:Value):
 w.setCell ⟨blk,off,none⟩ v=eR w blk (.cells (c.setIfInBounds off v) e f):=by
 unfold World.setCell eR;congr 1;apply Array.ext_getElem?;intro i;rw[Array.getElem?_modify,Array.getElem?_setIfInBounds];by_cases hi:blk=i
 .subst hi;have hlt:=fE h
  have h':w.heap[blk]=.cells c e f:=by simpa[hlt]using h
  simp[hlt,h']
 simp[hi]
theorem qQ:∀(l:List Value) (n:Nat) (v:Value) (vs:List Value),bu l n (v::vs)=bu (l.set n v) (n+1) vs
 |[],n,v,vs=>by cases vs<;>simp[bu]
 |c::cs,0,v,vs=>by
  simp only[bu,List.set_cons_zero];cases vs with
  |nil=>cases cs<;>simp[bu]
  |cons u us=>simp[bu]
 |c::cs,n+1,v,vs=>by
  simp only[bu,List.set_cons_succ];rw[qQ cs n v vs];cases vs with
  |nil=>simp[bu]|cons u us=>simp[bu]
theorem Ly{w:World}{blk off:Nat}{c:Array Value}{e:TypeId}(h:w.heap[blk]?=some (.cells c e (0,0)))(ho:off<c.size){v:Value}(hv:Lx v):
 (store ⟨blk,off,none⟩ v).run P w=.ok () (eR w blk (.cells (c.setIfInBounds off v) e (0,0))):=by
 have h1:w.cell? ⟨blk,off,none⟩=some c[off]:=by simp[World.cell?,h,ho]
 have h2:w.frozen? ⟨blk,off,none⟩=false:=by simp[World.frozen?,h]
 rw[<-Ia h];cases v<;>simp[Lx]at hv<;>simp[store,Sem.run,h1,h2]
theorem kw{blk off:Nat}{e:TypeId}:∀(vs:List Value) (i:Nat) (w:World) (c:Array Value),w.heap[blk]?=some (.cells c e (0,0))->(∀v∈vs,Lx v)->off+i+vs.length<=c.size->
 (storeCells ⟨blk,off,none⟩ vs i).run P w=.ok () (eR w blk (.cells ⟨bu c.toList (off+i) vs⟩ e (0,0)))
 |[],i,w,c,h,_,_=>by
  have:eR w blk (.cells c e (0,0))=w:=by
   have:w.heap.setIfInBounds blk (.cells c e (0,0))=w.heap:=by
    apply Array.ext_getElem?;intro k;rw[Array.getElem?_setIfInBounds];split
    .rename_i hk;subst hk;split<;>simp_all
    rfl
   simp[eR,this]
  cases hc:c.toList with
  |nil=>
   simp[storeCells,bu];have zi:c=#[]:=by simpa using hc
   subst zi;exact this.symm
  |cons x xs=>simp[storeCells,bu];rw[<-hc];exact this.symm
 |v::vs,i,w,c,h,hs,hl=>by simp only[List.length_cons]at hl;simp only[storeCells,Sem.run_bind,gu];rw[Ly h (by omega) (hs v (by simp))];simp only[Result.andThen_ok];rw[kw vs (i+1) _ (c.setIfInBounds (off+i) v) (eG h) (λu hu=>hs u (by simp[hu])) (by simp;omega),Ga,qQ];congr 4;simp[show off+(i+1)=off+i+1 by omega]
theorem wY{t:Nat}{ti:TI}(ht:sy P t=some ti){blk off:Nat}{w:World}{c:Array Value}{e:TypeId}(h:w.heap[blk]?=some (.cells c e (0,0))){v:Value}{vs:List Value}(hv:v.cells=⟨vs⟩)
 (hs:∀u∈vs,Lx u) (hn:vs.length=ti.size) (hl:off+vs.length<=c.size):
 (storeVar t ⟨blk,off,none⟩ v).run P w=.ok () (eR w blk (.cells ⟨bu c.toList off vs⟩ e (0,0))):=by
 obtain⟨i,d,h1,h2,h3,h4,h5,h6⟩:=aL ht;have:=kw (P:=P) (off:=off) vs 0 w c h hs (by simpa using hl)
 simp only[Nat.add_zero]at this;simp[storeVar,hv,cg h1,hn,h3,this]
theorem dz:∀(l:List Value) (n:Nat) (vs:List Value),(bu l n vs).length=l.length
 |l,n,[]=>by cases l<;>simp[bu]
 |[],n,v::vs=>by simp[bu]|c::cs,0,v::vs=>by simp[bu,dz cs 0 vs]|c::cs,n+1,v::vs=>by simp[bu,dz cs n (v::vs)]
end
end Dem
end
section
open Go
namespace Dem
section
variable {P:Program}{T:Nat->Option TI}{G:Nat->Option (List D)}{β:Nat->Nat}{bx:List av}{w:World}{X:Nat->Prop}
theorem aQ{b i:Nat}{B B':av}(h:(bx.set b B')[i]?=some B):(i=b/\B=B'/\b<bx.length)∨(i≠b/\bx[i]?=some B):=by
 rw[List.getElem?_set]at h;split at h
 .rename_i BA;subst BA;split at h
  .simp at h;exact .inl ⟨rfl,h.symm,by assumption⟩
  simp at h
 rename_i BA;exact .inr ⟨λe=>BA e.symm,h⟩
theorem kx{i:Nat}{B:av}(h:bx[i]?=some B):i<bx.length:=by
 rcases Nat.lt_or_ge i bx.length with h'|h'
 .exact h'
 simp[vay h']at h
theorem kB{b:Nat}{B B':av}(h:bx[b]?=some B):(bx.set b B')[b]?=some B':=by have:=kx h;simp[this]
theorem jA{b i:Nat}{B':av}(hB:B'.born=true)(h:cr bx i):cr (bx.set b B') i:=by
 obtain⟨B,h1,h2⟩:=h;by_cases hi:i=b
 .subst hi;exact⟨B',kB h1,hB⟩
 exact⟨B,by rw[List.getElem?_set_ne (Ne.symm hi)];exact h1,h2⟩
theorem nR{b:Nat}{B B':av}(hb:bx[b]?=some B)(hl:B.live=true){c c':Array Value}{e:TypeId}(hh:w.heap[β b]?=some (.cells c e (0,0)))(hc:c'.size=c.size)(U2:B'.born=true):
 Ext β bx w β (bx.set b B') (eR w (β b) (.cells c' e (0,0))):=by
 refine⟨rfl,rfl,rfl,by simp[eR],?_,?_,λi hi=>⟨rfl,jA U2 hi⟩,?_⟩
 .intro k hk hl';exact jL (λe=>hl' b B hb hl e.symm)
 .intro k c1 e1 f1 hk;by_cases h:k=β b
  .subst h;rw[hh]at hk;simp only[osI,Obj.cells.injEq]at hk;obtain⟨rfl,rfl,rfl⟩:=hk;exact⟨c',eG hh,hc⟩
  exact⟨c1,by rw[jL h];exact hk,rfl⟩
 intro i b' h1 h2;rcases aQ h1 with⟨rfl,_,_⟩|⟨_,h3⟩
 .exact .inr ⟨i,B,hb,hl,rfl⟩
 exact .inr ⟨i,b',h3,h2,rfl⟩
theorem vT(cx:cB G β bx w X){b:Nat}{B B':av}(hb:bx[b]?=some B)(hl:B.live=true){c c':Array Value}{e:TypeId}(hh:w.heap[β b]?=some (.cells c e (0,0)))(hc:c'.size=c.size)(U2:B'.born=true)
 (hok:dV β (bx.set b B') (eR w (β b) (.cells c' e (0,0))) (bq β (bx.set b B') (eR w (β b) (.cells c' e (0,0))) X) B' (β b)):
 cB G β (bx.set b B') (eR w (β b) (.cells c' e (0,0))) X:=by
 refine cx.step (nR hb hl hh hc U2) ?_ ?_
 .intro i b' h1;rcases aQ h1 with⟨rfl,rfl,_⟩|⟨h2,h3⟩
  .exact .inr hok
  refine .inl ⟨h3,λhl'=>jL (λe=>h2 (cx.inj i b b' B h3 hb hl' hl e))⟩
 intro i j bi bj h1 h2 l1 l2 he;rcases aQ h1 with⟨rfl,rfl,_⟩|⟨h3,h4⟩<;>rcases aQ h2 with⟨rfl,rfl,_⟩|⟨h5,h6⟩
 .rfl
 .exact cx.inj _ j B bj hb h6 hl l2 he
 .exact cx.inj i _ bi B h4 hb l1 hl he
 exact cx.inj i j bi bj h4 h6 l1 l2 he
theorem jB{b:Nat}{B B':av}(_hb:bx[b]?=some B)(U2:B'.live=false)(dM:B'.born=true):Ext β bx w β (bx.set b B') w:=by
 refine⟨rfl,rfl,rfl,vad _,λ_ _ _=>rfl,λk c e f h=>⟨c,h,rfl⟩,λi hi=>⟨rfl,jA dM hi⟩,?_⟩;intro i b' h1 h2;rcases aQ h1 with⟨rfl,rfl,_⟩|⟨_,h3⟩
 .rw[U2]at h2;simp at h2
 exact .inr ⟨i,b',h3,h2,rfl⟩
theorem lq(cx:cB G β bx w X){b:Nat}{B B':av}(hb:bx[b]?=some B)(U2:B'.live=false)(dM:B'.born=true)
 (hok:dV β (bx.set b B') w (bq β (bx.set b B') w X) B' (β b)):cB G β (bx.set b B') w X:=by
 refine cx.step (jB hb U2 dM) ?_ ?_
 .intro i b' h1;rcases aQ h1 with⟨rfl,rfl,_⟩|⟨h2,h3⟩
  .exact .inr hok
  exact .inl ⟨h3,λ_=>rfl⟩
 intro i j bi bj h1 h2 l1 l2 he;rcases aQ h1 with⟨rfl,rfl,_⟩|⟨h3,h4⟩
 .rw[U2]at l1;simp at l1
 rcases aQ h2 with⟨rfl,rfl,_⟩|⟨h5,h6⟩
 .rw[U2]at l2;simp at l2
 exact cx.inj i j bi bj h4 h6 l1 l2 he
theorem N0(cx:cB G β bx w X){b:Nat}{sz:Nat}{es:List (List D)}(hb:bx[b]?=some (.row sz es)):
 Ext β bx w β (bx.set b (.mr sz es)) w/\cB G β (bx.set b (.mr sz es)) w X/\(es=[]∨bq β (bx.set b (.mr sz es)) w X (β b)/\ax w (bq β (bx.set b (.mr sz es)) w X) (β b) sz es 0):=by
 have ex:Ext β bx w β (bx.set b (.mr sz es)) w:=jB hb rfl rfl;have key:es=[]∨bq β (bx.set b (.mr sz es)) w X (β b)/\ax w (bq β (bx.set b (.mr sz es)) w X) (β b) sz es 0:=by
  rcases cx.box b _ hb with h|⟨c,e,h1,h2⟩
  .exact .inl h
  cases es with
  |nil=>exact .inl rfl|cons r rs=>
   refine .inr ⟨⟨fE h1,cx.apart b _ hb rfl,?_⟩,ax.mono (ex.keeps X) _ _ (λ_=>rfl) _ _ h2⟩;intro i b' h3 h4 he;rcases aQ h3 with⟨rfl,rfl,_⟩|⟨h5,h6⟩
   .simp[av.live]at h4
   exact h5 (cx.inj i b b' _ h6 hb h4 rfl he)
 exact⟨ex,lq cx hb rfl rfl key,key⟩
theorem ax.lens {ok:Nat->Prop} {blk sz:Nat}:∀(es:List (List D)) (off:Nat),ax w ok blk sz es off->∀r∈es,r.length=sz
 |[],_,_=>by simp|r::rs,off,h=>by
  simp only[ax]at h;intro x hx;rcases List.mem_cons.1 hx with rfl|hx
  .exact h.1
  exact ax.lens rs _ h.2.2 x hx
theorem lu{ok:Nat->Prop}{blk sz:Nat}:∀(es:List (List D)) (off:Nat),ax w ok blk sz es off->∃vs,vs.length=es.length*sz/\(∀j v,vs[j]?=some v->w.cell? ⟨blk,off+j,none⟩=some v)/\
 an β bx w ok (es.flatten.map .d) vs
 |[],off,_=>⟨[],by simp,by simp,by simp[an]⟩|r::rs,off,h=>by
  simp only[ax]at h;obtain⟨h1,h2,h3⟩:=h;obtain⟨vs,g1,g2,g3⟩:=uB (β:=β) (bx:=bx) r off h2;obtain⟨us,k1,k2,k3⟩:=lu rs (off+sz) h3;refine⟨vs++us,by simp[g1,k1,h1,Nat.add_mul];omega,?_,by simpa using an.append g3 k3⟩;intro j v hj;rcases Nat.lt_or_ge j vs.length with hlt|hge
  .rw[vaz hlt]at hj;exact g2 j v hj
  rw[vaF hge]at hj;have:=k2 _ v hj
  rwa[show off+sz+(j-vs.length)=off+j by omega]at this
theorem Gb{ok:Nat->Prop}{blk:Nat}:∀(ds:List D) (off:Nat) (vs:List Value),(∀j v,vs[j]?=some v->w.cell? ⟨blk,off+j,none⟩=some v)->an β bx w ok (ds.map .d) vs->bg w ok blk ds off
 |[],_,_,_,_=>by simp[bg]|x::xs,off,vs,hc,h=>by
  simp only[List.map_cons,an,ai]at h;obtain⟨u,us,rfl,g1,g2⟩:=h;simp only[bg];refine⟨⟨u,by simpa using hc 0 u rfl,g1⟩,Gb xs (off+1) us (λj v hj=>?_) g2⟩;have:=hc (j+1) v (by simpa using hj)
  rwa[show off+(j+1)=off+1+j by omega]at this
theorem oJ{ok:Nat->Prop}{blk sz:Nat}:∀(es:List (List D)) (off:Nat) (vs:List Value),(∀r∈es,r.length=sz)->(∀j v,vs[j]?=some v->w.cell? ⟨blk,off+j,none⟩=some v)->
 an β bx w ok (es.flatten.map .d) vs->ax w ok blk sz es off
 |[],_,_,_,_,_=>by simp[ax]|r::rs,off,vs,hl,hc,h=>by
  simp only[List.flatten_cons,List.map_append]at h;have h1:=an.take r.length h
  have h2:=an.drop r.length h;rw[List.take_left' (by simp)]at h1;rw[List.drop_left' (by simp)]at h2;have hr:r.length=sz:=hl r (by simp)
  simp only[ax];refine⟨hr,Gb r off _ (λj v hj=>?_) h1,oJ rs (off+sz) _ (λx hx=>hl x (by simp[hx])) (λj v hj=>?_) h2⟩
  .rw[List.getElem?_take]at hj;split at hj
   .exact hc j v hj
   simp at hj
  rw[List.getElem?_drop]at hj;have:=hc _ v hj
  rwa[show off+(r.length+j)=off+sz+j by omega]at this
theorem Ca{ok:Nat->Prop}{x:AV}{es:List (List D)}{u:Value}(hx:∀b sz n,x≠.ow b sz n)(Rk:x.wV=false)(hr:x.rows bx=some es)(h:ai β bx w ok x u):
 ∃base cap,u=.slice base es.length cap/\es.length<=cap/\(es=[]∨∃blk off sz,base=some ⟨blk,off,none⟩/\ok blk/\ax w ok blk sz es off):=by
 cases x with
 |d y=>
  cases y with
  |sl es'=>simp only[AV.rows,osI]at hr;subst hr;simpa[ai,aP]using h|_=>simp[AV.rows]at hr
 |cl es'=>
  simp only[AV.rows,osI]at hr;subst hr
  simp only[ai]at h
  obtain⟨base,rfl,g⟩:=h
  exact⟨base,_,rfl,vad _,g⟩
 |ow b sz n=>exact absurd rfl (hx b sz n)|vw b sz off n c ex=>simp[AV.wV]at Rk|_=>simp[AV.rows]at hr
theorem ax.Rz {ok:Nat->Prop} {blk sz:Nat}:∀(n:Nat) (es:List (List D)) (off:Nat),ax w ok blk sz es off->ax w ok blk sz (es.drop n) (off+n*sz)
 |0,es,off,h=>by simpa using h|n+1,[],off,h=>by simp[ax]|n+1,r::rs,off,h=>by
  simp only[ax]at h;have:=ax.Rz n rs (off+sz) h.2.2
  simpa[Nat.add_mul,show off+sz+n*sz=off+(n*sz+sz) by omega]using this
theorem ax.Ib {ok:Nat->Prop} {blk sz:Nat}:∀(n:Nat) (es:List (List D)) (off:Nat),ax w ok blk sz es off->ax w ok blk sz (es.take n) off
 |0,es,off,h=>by simp[ax]|n+1,[],off,h=>by simp[ax]|n+1,r::rs,off,h=>by simp only[ax]at h;simp only[List.take_succ_cons,ax];exact⟨h.1,h.2.1,ax.Ib n rs _ h.2.2⟩
theorem Ey{s sz n m:Nat}{α:Type}{x y:α}(h:(bif Nat.beq s sz&&Nat.ble n m then some x else none)=some y):s=sz/\n<=m/\x=y:=by cases h1:Nat.beq s sz<;>cases h2:Nat.ble n m<;>simp[h1,h2]at h;exact⟨vaf h1,Nat.le_of_ble_eq_true h2,h⟩
theorem qR{b sz off n c:Nat}{ex:Bool}{N1:List (List D)}{LA:Nat->Prop}{u:Value}{ok:Nat->Prop}(hn:off+n<=N1.length)(hrows:N1=[]∨ax w LA (β b) sz N1 0)(h:ai β bx w ok (.vw b sz off n c ex) u):
 ∃base cap,u=.slice base ((N1.drop off).take n).length cap/\((N1.drop off).take n).length<=cap/\((N1.drop off).take n=[]∨base=some ⟨β b,off*sz,none⟩/\ax w LA (β b) sz ((N1.drop off).take n) (off*sz)):=by
 simp only[ai]at h;obtain⟨_,base,cap,cs,e,f,rfl,h1,h2,h3,h4⟩:=h;have hlen:((N1.drop off).take n).length=n:=by simp;omega
 refine⟨base,cap,by rw[hlen],by rw[hlen];exact h1,?_⟩;by_cases hn0:n=0
 .subst hn0;exact .inl (by simp)
 right;rcases h4 with h4|⟨h4,_⟩
 .omega
 refine⟨h4,?_⟩;rcases hrows with rfl|hrows
 .simp at hn;omega
 have:=ax.Ib n _ _ (ax.Rz off _ _ hrows);simpa using this
theorem Pm{s sz n m:Nat}{α:Type}{x y:α}(h:(bif Nat.beq s sz&&Nat.beq n m then some x else none)=some y):s=sz/\n=m/\x=y:=by cases h1:Nat.beq s sz<;>cases h2:Nat.beq n m<;>simp[h1,h2]at h;exact⟨vaf h1,vaf h2,h⟩
theorem wZ(cx:cB G β bx w X){b sz n:Nat}{es:List (List D)}{u:Value}(hr:(AV.ow b sz n).rows bx=some es)(h:ai β bx w (bq β bx w X) (.ow b sz n) u):
 n=es.length/\(∃base cap,u=.slice base es.length cap/\es.length<=cap/\(es=[]/\cap=0∨es≠[]/\base=some ⟨β b,0,none⟩/\ax w (bq β bx w X) (β b) sz es 0/\
  ∃c e f,w.heap[β b]?=some (.cells c e f)/\cap*sz<=c.size)):=by
 have main:∀es',n=es'.length->(es'=[]∨ax w (bq β bx w X) (β b) sz es' 0)->∃base cap,u=.slice base es'.length cap/\es'.length<=cap/\(es'=[]/\cap=0∨es'≠[]/\base=some ⟨β b,0,none⟩/\ax w (bq β bx w X) (β b) sz es' 0/\
  ∃c e f,w.heap[β b]?=some (.cells c e f)/\cap*sz<=c.size):=by
  intro es' hn hrows;simp only[ai]at h;obtain⟨_,⟨h0,base,rfl⟩|⟨h0,cap,c,e,f,rfl,h1,h2,h3⟩⟩:=h
  .have:es'=[]:=by simpa using(hn.symm.trans h0)
   subst this;exact⟨base,0,by simp,by simp,.inl ⟨rfl,rfl⟩⟩
  rcases hrows with rfl|hrows
  .exact absurd (by simpa using hn) h0
  exact⟨_,cap,by rw[hn],by omega,.inr ⟨by rintro rfl;exact h0 (by simpa using hn),rfl,hrows,c,e,f,h2,h3⟩⟩
 simp only[AV.rows]at hr
 split at hr
 .rename_i s es' hb;obtain⟨rfl,rfl,rfl⟩:=Pm hr;exact⟨rfl,main _ rfl ((cx.box b _ hb).imp id λ⟨_,_,_,g⟩=>g)⟩
 .rename_i s es' hb;obtain⟨rfl,rfl,rfl⟩:=Pm hr;exact⟨rfl,main _ rfl ((cx.box b _ hb).imp id λ⟨_,g⟩=>g)⟩
 simp at hr
theorem Yc{b sz n:Nat}{y:D}(h:(AV.ow b sz n).um bx=some y):∃es,y=.sl es/\(AV.ow b sz n).rows bx=some es:=by
 simp only[AV.um]at h;simp only[AV.rows];split at h
 .rename_i s es hb;obtain⟨rfl,rfl,rfl⟩:=Pm h;exact⟨es,rfl,by simp[hb]⟩
 .rename_i s es hb;obtain⟨rfl,rfl,rfl⟩:=Pm h;exact⟨es,rfl,by simp[hb]⟩
 simp at h
theorem lz(cx:cB G β bx w X){x:AV}{es:List (List D)}{u:Value}(hr:x.rows bx=some es)(h:ai β bx w (bq β bx w X) x u):
 Ext β bx w β (x.cE bx) w/\cB G β (x.cE bx) w X/\
 ∃base cap,u=.slice base es.length cap/\es.length<=cap/\(es=[]∨∃blk off sz,base=some ⟨blk,off,none⟩/\bq β (x.cE bx) w X blk/\ax w (bq β (x.cE bx) w X) blk sz es off):=by
 by_cases hx:∃b sz n,x=.ow b sz n
 .obtain⟨b,sz,n,rfl⟩:=hx;obtain⟨hn,base,cap,rfl,h1,h2⟩:=wZ cx hr h;simp only[AV.rows]at hr;split at hr
  .rename_i s es' hb;obtain⟨rfl,_,rfl⟩:=Pm hr;obtain⟨g1,g2,g3⟩:=N0 cx hb;have sO:(AV.ow b s n).cE bx=bx.set b (.mr s es'):=by simp[AV.cE,hb]
   rw[sO];refine⟨g1,g2,base,cap,rfl,h1,?_⟩;rcases h2 with⟨rfl,_⟩|⟨hne,rfl,_⟩
   .exact .inl rfl
   rcases g3 with rfl|⟨g3,g4⟩
   .exact .inl rfl
   exact .inr ⟨β b,0,s,rfl,g3,g4⟩
  .rename_i s es' hb;obtain⟨rfl,_,rfl⟩:=Pm hr;have sO:(AV.ow b s n).cE bx=bx:=by simp[AV.cE,hb]
   rw[sO];refine⟨Ext.refl _ _ _,cx,base,cap,rfl,h1,?_⟩;rcases h2 with⟨rfl,_⟩|⟨hne,rfl,g,_⟩
   .exact .inl rfl
   rcases cx.box b _ hb with rfl|⟨g3,g4⟩
   .exact .inl rfl
   exact .inr ⟨β b,0,s,rfl,g3,g4⟩
  simp at hr
 have hx':∀b sz n,x≠.ow b sz n:=λb sz n e=>hx ⟨b,sz,n,e⟩;cases hv:x.wV with
 |true=>
  cases x with
  |vw b sz off n c ex=>
   simp only[AV.rows]at hr
   split at hr
   .rename_i s es' hb;obtain⟨rfl,hle,rfl⟩:=Ey hr;obtain⟨g1,g2,g3⟩:=N0 cx hb;have sO:(AV.vw b s off n c ex).cE bx=bx.set b (.mr s es'):=by simp[AV.cE,hb]
    rw[sO];refine⟨g1,g2,?_⟩;obtain⟨base,cap,rfl,k1,k2⟩:=qR (LA:=bq β (bx.set b (.mr s es')) w X) hle (g3.imp id λg=>g.2) h;refine⟨base,cap,rfl,k1,?_⟩;rcases g3 with rfl|⟨g3,_⟩
    .left;simp
    rcases k2 with k2|⟨rfl,k3⟩
    .exact .inl k2
    exact .inr ⟨β b,off*s,s,rfl,g3,k3⟩
   .rename_i s es' hb;obtain⟨rfl,hle,rfl⟩:=Ey hr;have sO:(AV.vw b s off n c ex).cE bx=bx:=by simp[AV.cE,hb]
    rw[sO];refine⟨Ext.refl _ _ _,cx,?_⟩;have g3:=cx.box b _ hb
    obtain⟨base,cap,rfl,k1,k2⟩:=qR (LA:=bq β bx w X) hle (g3.imp id λg=>g.2) h;refine⟨base,cap,rfl,k1,?_⟩;rcases g3 with rfl|⟨g3,_⟩
    .left;simp
    rcases k2 with k2|⟨rfl,k3⟩
    .exact .inl k2
    exact .inr ⟨β b,off*s,s,rfl,g3,k3⟩
   simp at hr
  |_=>simp[AV.wV]at hv
 |false=>
 have sO:x.cE bx=bx:=by cases x<;>simp_all[AV.cE,AV.wV]
 rw[sO]
 exact⟨Ext.refl _ _ _,cx,Ca hx' hv hr h⟩
theorem Cb(cx:cB G β bx w X){x:AV}{y:D}{u:Value}(hd:x.um bx=some y)(h:ai β bx w (bq β bx w X) x u):
 Ext β bx w β (x.cE bx) w/\cB G β (x.cE bx) w X/\aP w (bq β (x.cE bx) w X) y u:=by
 cases x with
 |d x=>simp only[AV.um,osI]at hd;subst hd;exact⟨Ext.refl _ _ _,cx,h⟩|cl es=>
  simp only[AV.um,osI]at hd;subst hd
  obtain⟨g1,g2,g3⟩:=lz cx (x:=.cl es) (es:=es) rfl h
  exact⟨g1,g2,by simpa[aP]using g3⟩
 |ow b sz n=>
  obtain⟨es,rfl,hr⟩:=Yc hd
  obtain⟨g1,g2,g3⟩:=lz cx hr h
  exact⟨g1,g2,by simpa[aP]using g3⟩
 |fn f cs=>
  cases cs with
  |nil=>
   simp only[AV.um,osI]at hd;subst hd
   simp only[ai,an]at h
   obtain⟨vs,rfl,rfl⟩:=h
   exact⟨Ext.refl _ _ _,cx,by simp[B6,aP]⟩
  |cons c cs=>simp[AV.um]at hd
 |_=>simp[AV.um]at hd
theorem w8{z:AV}{i s:Nat}{es:List (List D)}(h:bx[i]?=some (.row s es)∨bx[i]?=some (.mr s es)):(z.cE bx)[i]?=some (.row s es)∨(z.cE bx)[i]?=some (.mr s es):=by
 cases z with
 |ow b sz n=>
  simp only[AV.cE];split
  .rename_i s' es' hb;by_cases hi:i=b
   .subst hi;rw[hb]at h;simp at h;obtain⟨rfl,rfl⟩:=h;exact .inr (kB hb)
   rw[List.getElem?_set_ne (Ne.symm hi)];exact h
  exact h
 |vw b sz off n c ex=>
  simp only[AV.cE];split
  .rename_i s' es' hb;by_cases hi:i=b
   .subst hi;rw[hb]at h;simp at h;obtain⟨rfl,rfl⟩:=h;exact .inr (kB hb)
   rw[List.getElem?_set_ne (Ne.symm hi)];exact h
  exact h
 |_=>exact h
theorem Ez{x z:AV}{y:D}(h:x.um bx=some y):x.um (z.cE bx)=some y:=by
 cases x with
 |ow b sz n=>
  simp only[AV.um]at h ⊢;split at h
  .rename_i s es hb;rcases w8 (z:=z) (.inl hb)with g|g<;>simp[g,h]
  .rename_i s es hb;rcases w8 (z:=z) (.inr hb)with g|g<;>simp[g,h]
  simp at h
 |fn f cs=>cases cs with
  |nil=>exact h|cons c cs=>exact h
 |_=>exact h
theorem vU{z:AV}:∀{xs:List AV} {ys:List D},jV bx xs=some ys->jV (z.cE bx) xs=some ys
 |[],ys,h=>h|x::xs,ys,h=>by
  simp only[jV]at h ⊢;split at h
  .rename_i y ys' hy hys;rw[Ez hy,vU hys];exact h
  simp at h
theorem zn:∀(xs:List AV) (bx:List av) (ys:List D) (vs:List Value),cB G β bx w X->jV bx xs=some ys->an β bx w (bq β bx w X) xs vs->
 Ext β bx w β (eW bx xs) w/\cB G β (eW bx xs) w X/\an β (eW bx xs) w (bq β (eW bx xs) w X) (ys.map .d) vs
 |[],bx,ys,vs,cx,hd,h=>by simp[jV]at hd;subst hd;exact⟨Ext.refl _ _ _,cx,by simpa[eW]using h⟩|x::xs,bx,ys,vs,cx,hd,h=>by
  simp only[jV]at hd;split at hd
  .rename_i y ys' hy hys;simp at hd;subst hd;simp only[an]at h;obtain⟨u,us,rfl,g1,g2⟩:=h;obtain⟨e1,c1,r1⟩:=Cb cx hy g1;obtain⟨e2,c2,r2⟩:=zn xs (x.cE bx) ys' us c1 (vU hys) (an.mono (e1.dL X) _ _ g2);refine⟨e1.trans e2,c2,?_⟩;simp only[eW,List.map_cons,an,ai];exact⟨u,us,rfl,aP.mono (e2.keeps X) _ _ r1,r2⟩
  simp at hd
theorem nS:∀(l m:List Value) (n:Nat) (vs:List Value),n+vs.length<=l.length->bu (l++m) n vs=bu l n vs++m
 |l,m,n,[],_=>by cases l<;>cases m<;>simp[bu]
 |[],m,n,v::vs,h=>by simp at h|c::cs,m,0,v::vs,h=>by simp only[List.length_cons]at h;simp only[List.cons_append,bu];rw[nS cs m 0 vs (by omega)]|c::cs,m,n+1,v::vs,h=>by simp only[List.length_cons]at h;simp only[List.cons_append,bu];rw[nS cs m n (v::vs) (by simp;omega)]
theorem nT:∀(l:List D) (n:Nat) (vs:List D),(bP l n vs).length=l.length
 |l,n,[]=>by cases l<;>simp[bP]
 |[],n,v::vs=>by simp[bP]|c::cs,0,v::vs=>by simp[bP,nT cs 0 vs]|c::cs,n+1,v::vs=>by simp[bP,nT cs n (v::vs)]
theorem sP:∀(l:List D) (n:Nat) (vs:List D),(bP l n vs).map AV.d=fm (l.map .d) n (vs.map .d)
 |l,n,[]=>by cases l<;>simp[bP,fm]
 |[],n,v::vs=>by simp[bP,fm]|c::cs,0,v::vs=>by simp[bP,fm,sP cs 0 vs]|c::cs,n+1,v::vs=>by simp[bP,fm];rw[sP cs n (v::vs)];simp
theorem xe:∀(l m:List D) (n:Nat) (vs:List D),bP (l++m) (l.length+n) vs=l++bP m n vs
 |[],m,n,vs=>by simp|c::cs,m,n,vs=>by
  cases vs with
  |nil=>cases m<;>simp[bP]
  |cons v vs=>rw[show(c::cs).length+n=(cs.length+n)+1 by simp;omega];simp only[List.cons_append,bP];rw[xe cs m n (v::vs)]
theorem pe:∀(l m:List D) (n:Nat) (vs:List D),n+vs.length<=l.length->bP (l++m) n vs=bP l n vs++m
 |l,m,n,[],_=>by cases l<;>cases m<;>simp[bP]
 |[],m,n,v::vs,h=>by simp at h|c::cs,m,0,v::vs,h=>by simp only[List.length_cons]at h;simp only[List.cons_append,bP];rw[pe cs m 0 vs (by omega)]|c::cs,m,n+1,v::vs,h=>by simp only[List.length_cons]at h;simp only[List.cons_append,bP];rw[pe cs m n (v::vs) (by simp;omega)]
theorem sQ{sz:Nat}:∀(es:List (List D)) (i j:Nat) (ds:List D),(∀r∈es,r.length=sz)->i<es.length->j+ds.length<=(es.getD i []).length->
 (es.set i (bP (es.getD i []) j ds)).flatten=bP es.flatten (i*sz+j) ds
 |[],i,j,ds,_,h,_=>by simp at h|r::rs,0,j,ds,hl,_,hj=>by simp at hj;simp only[List.set_cons_zero,List.flatten_cons,Nat.zero_mul,Nat.zero_add];rw[pe r _ j ds hj];simp|r::rs,i+1,j,ds,hl,hi,hj=>by
  have hr:r.length=sz:=hl r (by simp);simp at hi hj;have:=sQ rs i j ds (λx hx=>hl x (by simp[hx])) hi (by simpa using hj)
  simp only[List.set_cons_succ,List.flatten_cons,List.getD_cons_succ];rw[this,show(i+1)*sz+j=r.length+(i*sz+j) by rw[hr,Nat.add_mul];omega,xe]
theorem RA{ok:Nat->Prop}{x:AV}{y:D}{u:Value}(h:x.um []=some y)(hx:ai β bx w ok x u):aP w ok y u:=by
 cases x with
 |d x=>simp only[AV.um,osI]at h;subst h;simpa[ai]using hx|cl es=>simp only[AV.um,osI]at h;subst h;simp only[ai]at hx;obtain⟨base,rfl,g⟩:=hx;simp only[aP];exact⟨base,_,rfl,vad _,g⟩
 |ow b sz n=>simp[AV.um]at h|fn f cs=>
  cases cs with
  |nil=>simp only[AV.um,osI]at h;subst h;simp only[ai,an]at hx;obtain⟨vs,rfl,rfl⟩:=hx;simp[aP,B6]
  |cons c cs=>simp[AV.um]at h
 |_=>simp[AV.um]at h
theorem uD{ok:Nat->Prop}:∀{xs:List AV} {ys:List D} {us:List Value},jV [] xs=some ys->an β bx w ok xs us->an β bx w ok (ys.map .d) us
 |[],ys,us,h,hx=>by simp[jV]at h;subst h;simpa using hx|x::xs,ys,us,h,hx=>by
  simp only[jV]at h;split at h
  .rename_i y ys' h1 h2;simp only[osI]at h;subst h;simp only[an]at hx;obtain⟨u,Ry,rfl,g1,g2⟩:=hx;simp only[List.map_cons,an,ai];exact⟨u,Ry,rfl,RA h1 g1,uD h2 g2⟩
  simp at h
end
end Dem
end
section
open Go
namespace Dem
section
variable {P:Program}{T:Nat->Option TI}{G:Nat->Option (List D)}{β:Nat->Nat}{bx:List av}{w:World}{X:Nat->Prop}
theorem qT{w:World}{blk:Nat}{c:Array Value}{e:TypeId}{f:Nat×Nat}(h:w.heap[blk]?=some (.cells c e f)){vs:List Value}(hc:∀j v,vs[j]?=some v->w.cell? ⟨blk,0+j,none⟩=some v):
 ∃rest,c.toList=vs++rest:=by
 refine⟨c.toList.drop vs.length,?_⟩;have:vs=c.toList.take vs.length:=by
  apply List.ext_getElem?;intro j;rw[List.getElem?_take];split
  .rename_i hj;have h1:=hc j vs[j] (by simp[hj])
   simp only[World.cell?,h]at h1;simp only[hj,vaj];simpa using h1.symm
  rename_i hj;simp;omega
 conv=>lhs;rw[<-List.take_append_drop vs.length c.toList]
 rw[<-this]
theorem RB{es:List (List D)}{i:Nat}(h:i<es.length):es.getD i []∈es:=by simp[vam,h]
theorem Ic(hT:jj P T)(cx:cB G β bx w X){t:Nat}{ti:TI}(ht:T t=some ti){a x:AV}{ua ux:Value}(ha:ai β bx w (bq β bx w X) a ua)(hx:ai β bx w (bq β bx w X) x ux)
 {c:Prop} {v:AV} {b:Option (List av)} (hr:vP ti a x bx=some ⟨c,v,b⟩) (hc:c):
 v=.any/\∃aE w',b=some aE/\(Instr.storeAt t ua ux).run P w=.ok () w'/\Ext β bx w β aE w'/\cB G β aE w' X:=by
 have ht':=hT.ti t ti ht;unfold vP at hr;split at hr
 .simp at hr
 rename_i vs hvs;cases hn:Nat.beq vs.length ti.size with
 |false=>simp[hn]at hr|true=>
 have hn':=vaf hn
 simp only[hn,cond_true]at hr
 obtain⟨us,hcells,U3,hsc⟩:=pQ hvs hx
 have hul:=an.length U3
 split at hr
 .rename_i b' off;simp only[ai]at ha;obtain⟨rfl,hb⟩:=ha;split at hr
  .rename_i cs uC;cases hle:Nat.ble (off+vs.length) cs.length with
   |false=>simp[hle]at hr|true=>
   have hle':=Nat.le_of_ble_eq_true hle;simp only[hle,cond_true,osI,R.mk.injEq]at hr;obtain⟨_,rfl,rfl⟩:=hr;obtain⟨ca,e,h1,h2⟩:=cx.box _ _ uC;have U4:=an.length h2
   have hrun:=wY (P:=P) ht' h1 hcells hsc (by omega) (off:=off) (by simp at U4;omega);refine⟨rfl,_,_,rfl,by simpa[Instr.storeAt,Instr.sureAddr]using hrun,?_,?_⟩
   .exact nR uC rfl h1 (by simp[dz]) rfl
   have ex:=nR (B':=.var (fm cs off vs)) (c':=⟨bu ca.toList off us⟩) uC rfl h1 (by simp[dz]) rfl;refine vT cx uC rfl h1 (by simp[dz]) rfl ⟨_,e,eG h1,?_⟩;exact an.mono (ex.dL X) _ _ (an.fm off h2 U3)
  simp at hr
 .rename_i b' sz i j;simp only[ai]at ha;obtain⟨rfl,hb⟩:=ha;split at hr
  .rename_i ds hds;split at hr
   .rename_i s es uC;simp only[osI,R.mk.injEq]at hr;obtain⟨rfl,rfl,rfl⟩:=hr;obtain⟨rfl,hi,hj⟩:=hc;obtain⟨e1,c1,r1⟩:=zn vs bx ds us cx hds U3;rcases c1.box _ _ uC with rfl|⟨ca,e,h1,h2⟩
    .simp at hi
    have An:=ax.lens _ _ h2;obtain⟨Gc,g1,g2,g3⟩:=lu (β:=β) (bx:=eW bx vs) es 0 h2;obtain⟨rest,sb⟩:=qT h1 g2;have Yd:us.length=ds.length:=by simpa using an.length r1
    have hrow:(es.getD i []).length=s:=An _ (RB hi);have hle:i*s+j+us.length<=Gc.length:=by
     rw[g1,Yd];have:(i+1)*s<=es.length*s:=Nat.mul_le_mul_right _ hi
     rw[Nat.add_mul]at this;omega
    have hsize:ca.size=Gc.length+rest.length:=by have:=vac List.length sb;simpa using this
    have cH:(av.row s es).live=true:=by cases es<;>simp_all[av.live]
    have hrun:=wY (P:=P) ht' h1 hcells hsc (by omega) (off:=i*s+j) (by omega);have hne:es.set i (bP (es.getD i []) j ds)≠[]:=by cases es<;>simp_all
    have ex:=nR (B':=.row s (es.set i (bP (es.getD i []) j ds))) (c':=⟨bu ca.toList (i*s+j) us⟩) uC cH h1 (by simp[dz]) rfl;refine⟨rfl,_,_,rfl,by simpa[Instr.storeAt,Instr.sureAddr]using hrun,e1.trans ex,?_⟩;refine vT c1 uC cH h1 (by simp[dz]) rfl (.inr ⟨_,e,eG h1,?_⟩);refine oJ (β:=β) (bx:=(eW bx vs).set b' (.row s (es.set i (bP (es.getD i []) j ds)))) _ _ (bu Gc (i*s+j) us) ?_ ?_ ?_
    .intro r hr;rcases List.mem_or_eq_of_mem_set hr with hr|rfl
     .exact An r hr
     rw[nT];exact hrow
    .intro k u hk;simp only[World.cell?,eG h1];have:(bu ca.toList (i*s+j) us)[k]?=some u:=by
      rw[sb,nS _ _ _ _ hle,vaz]
      .exact hk
      rcases Nat.lt_or_ge k (bu Gc (i*s+j) us).length with h|h
      .exact h
      simp[vay h]at hk
     simpa using this
    rw[sQ es i j ds An hi hj,sP];exact an.mono (ex.dL X) _ _ (an.fm _ g3 r1)
   simp at hr
  simp at hr
 simp at hr
end
end Dem
end
section
open Go
namespace Dem
section
variable {P:Program}{T:Nat->Option TI}{G:Nat->Option (List D)}{β:Nat->Nat}{bx:List av}{w:World}{X:Nat->Prop}
theorem Cc{ok:Nat->Prop}(v:Value):ai β bx w ok (Lu v) v:=by unfold Lu;split<;>simp only[ai,aP,KC.val];exact⟨none,rfl,.inl hY⟩
theorem EA{ok:Nat->Prop}:∀vs:List Value,an β bx w ok (vs.map Lu) vs
 |[]=>by simp[an]|v::vs=>by simp only[List.map_cons,an];exact⟨v,vs,rfl,Cc v,EA vs⟩
theorem xg{ok:Nat->Prop}(v:Value):ai β bx w ok (UW v) v:=by
 unfold UW;split
 .rename_i cs;simp only[ai];exact⟨cs.toList,rfl,EA _⟩
 exact Cc v
theorem Ao(cx:cB G β bx w X)(t:Nat){x:AV}{u:Value}{cs:List AV}(hx:x.cells?=some cs)(h:ai β bx w (bq β bx w X) x u):
 ∃β' w',(newVar t u).run P w=.ok ⟨β' bx.length,0,none⟩ w'/\Ext β bx w β' (bx++[.var cs]) w'/\cB G β' (bx++[.var cs]) w' X:=by
 obtain⟨vs,h1,h2,h3⟩:=pQ hx h;refine⟨m5 β bx.length w.heap.size,{w with heap:=w.heap.push (.cells ⟨vs⟩ t)},?_,gG _ _,mw cx _ _ ?_⟩
 .simp[newVar,newRow,newObj,Sem.run,h1,bC]
 refine⟨⟨vs⟩,t,ko _ _,?_⟩;exact an.mono ((gG (β:=β) (bx:=bx) (w:=w) (.cells ⟨vs⟩ t) (.var cs)).dL X) _ _ h2
theorem Ie{t:Nat}{ti:TI}(ht:sy P t=some ti){f o ft:Nat}(ho:BT ti.kd f=some (o,ft)){tf:TI}(hft:sy P ft=some tf)(hs:tf.size≠0)(blk off:Nat):
 (Instr.fieldAt t (.pointer (some ⟨blk,off,none⟩)) f).run P w=.ok (.pointer (some ⟨blk,off+o,none⟩)) w:=by
 obtain⟨i,d,h1,h2,h3,h4,h5,h6⟩:=aL ht;obtain⟨fi,fd,g1,g2,g3,g4,g5,g6⟩:=aL hft;rw[h5]at ho;cases d<;>simp[cX,BT]at ho;rename_i fs;obtain⟨fl,hfl,rfl,rfl⟩:=ho;have hsz:fi.size≠0:=by rw[<-g3];exact hs
 simp[Instr.fieldAt,aX h2,hfl,Instr.sureAddr,fieldPlace,cg g1,hsz,gu]
theorem pR{t:Nat}{ti:TI}(ht:sy P t=some ti){cs:List AV}{v:AV}{vs:List Value}{ok:Nat->Prop}{off:Nat}
 (hs:cQ ti.kd.isAgg ti.size (cs.drop off)=some v) (hr:an β bx w ok cs vs):
 ∃u,(part t ⟨vs⟩ off).run P w=.ok u w/\ai β bx w ok v u:=by
 obtain⟨i,d,h1,h2,h3,h4,h5,h6⟩:=aL ht;have hr':=an.drop off hr
 unfold cQ at hs;simp only[part,Sem.run_bind,Ew h2,Result.andThen_ok,h5]at hs ⊢;cases hk:(cX d).isAgg with
 |true=>
  simp only[hk,cond_true]at hs
  cases hle:Nat.ble ti.size (cs.drop off).length with
  |false=>rw[hle]at hs;simp at hs|true=>
   simp only[hle,cond_true,osI]at hs
   subst hs
   simp only[if_true,Sem.run_bind,cg h1,Result.andThen_ok]
   refine⟨_,rfl,?_⟩
   simp only[ai]
   refine⟨(vs.drop off).take ti.size,?_,an.take _ hr'⟩
   simp[h3,List.extract_eq_take_drop]
 |false=>
  simp only[hk,cond_false]at hs
  cases hc:cs.drop off with
  |nil=>simp[hc]at hs|cons c cs'=>
   simp[hc]at hs;subst hs
   rw[hc]at hr'
   simp only[an]at hr'
   obtain⟨u,us,hd,g1,_⟩:=hr'
   have:vs[off]?=some u:=by have:=vac (λl=>l[0]?) hd;simpa using this
   simp[this]
   exact g1
theorem Ig(ok:Nat->Prop){op:BinOp}{k:IntKind}{x y:Int}{c:Prop}{d:D}(h:UX op k x y=some (c,d))(hc:c)(t:Nat):
 ∃u,(Go.binOp op t (.int k x) (.int k y)).run P w=.ok u w/\aP w ok d u:=by
 cases op<;>simp only[UX,osI,vab,reduceCtorEq]at h<;>obtain⟨rfl,rfl⟩:=h<;>
  simp[Go.binOp,Op.intArith,Op.intDiv,Op.intBits,Op.intCmp,aP,hc]<;>first|rfl|(simp[bne];done)|skip
theorem toList_mk(s:List UInt8):(⟨s.toArray⟩:ByteArray).toList=s:=by rw[ByteArray.toList_eq]
theorem U5(x y:List UInt8):(x==y)=decide (x=y):=by
 cases h:(x==y)
 .simp at h;simp[h]
 simp at h;simp[h]
theorem RC(ok:Nat->Prop){op:BinOp}{x y:List UInt8}{c:Prop}{d:D}(h:UY op x y=some (c,d))(hc:c)(t:Nat):
 ∃u,(Go.binOp op t (.string ⟨x.toArray⟩) (.string ⟨y.toArray⟩)).run P w=.ok u w/\aP w ok d u:=by
 cases op<;>simp only[UY,osI,vab,reduceCtorEq]at h<;>obtain⟨rfl,rfl⟩:=h<;>
  simp only[Go.binOp,Op.stringOp,toList_mk]
 .have:¬(((⟨x.toArray⟩:ByteArray).size+(⟨y.toArray⟩:ByteArray).size:Nat):Int)>IntKind.i64.max:=by
   have h1:(⟨x.toArray⟩:ByteArray).size=x.length:=by simp[ByteArray.size]
   have h2:(⟨y.toArray⟩:ByteArray).size=y.length:=by simp[ByteArray.size]
   have h3:IntKind.i64.max=9223372036854775807:=by decide
   rw[h1,h2,h3];omega
  rw[if_neg this];refine⟨_,rfl,?_⟩;simp only[aP];congr 1
 all_goals exact⟨_,rfl,by simp[aP,U5]⟩
theorem RD{op:BinOp}{x y:AV}{ux uy:Value}{c:Prop}{d:D}{ok:Nat->Prop}(h:Rp op x y=some (c,d))(hc:c)(hx:ai β bx w ok x ux)(hy:ai β bx w ok y uy)(t:Nat):
 ∃u,(Go.binOp op t ux uy).run P w=.ok u w/\aP w ok d u/\(∀a b:Operand,(eqGuard op t a b ux uy).run P w=.ok () w):=by
 have Cd:∀(k:IntKind) (n:Int) (v:Value) (a b:Operand),(eqGuard op t a b (.int k n) v).run P w=.ok () w:=by intro k n v a b;simp only[eqGuard];split<;>simp
 have RE:∀(s:ByteArray) (v:Value) (a b:Operand),(eqGuard op t a b (.string s) v).run P w=.ok () w:=by intro s v a b;simp only[eqGuard];split<;>simp
 unfold Rp at h;split at h
 .simp only[ai,aP]at hx hy;subst hx;subst hy;simp only[osI,vab]at h;obtain⟨rfl,rfl⟩:=h;have hn:=Int.not_lt.2 hc
  exact⟨_,by simp only[Go.binOp,Op.shift,if_neg hn];rfl,by simp only[aP],Cd _ _ _⟩
 .simp only[ai,aP]at hx hy;subst hx;subst hy;simp only[osI,vab]at h;obtain⟨rfl,rfl⟩:=h;have hn:=Int.not_lt.2 hc
  exact⟨_,by simp only[Go.binOp,Op.shift,if_neg hn];rfl,by simp only[aP],Cd _ _ _⟩
 .rename_i k x k' y _ _;simp only[ai,aP]at hx hy;subst hx;subst hy;cases hk:(k==k')with
  |false=>simp[hk]at h|true=>
   simp only[hk,cond_true]at h;have:k=k':=by simpa using hk
   subst this;obtain⟨u,h1,h2⟩:=Ig (P:=P) (w:=w) ok h hc t;exact⟨u,h1,h2,Cd _ _ _⟩
 .rename_i x y _ _;simp only[ai,aP]at hx hy;subst hx;subst hy;obtain⟨u,h1,h2⟩:=RC (P:=P) (w:=w) ok h hc t;exact⟨u,h1,h2,RE _ _⟩
 simp at h
theorem U6{op:UnOp}{x:AV}{ux:Value}{d:D}{ok:Nat->Prop}(h:Z7 op x=some d)(hx:ai β bx w ok x ux):
 ∃u,(Op.unary op ux).run P w=.ok u w/\aP w ok d u:=by
 unfold Z7 at h;split at h<;>(try (simp at h;done))<;>simp only[ai,aP]at hx<;>subst hx<;>simp only[osI]at h<;>subst h
 .exact⟨_,rfl,by simp[aP]⟩
 .exact⟨_,rfl,by simp[aP]⟩
 exact⟨_,rfl,by simp[aP]⟩
end
end Dem
end
section
open Go
namespace Dem
section
variable {P:Program}{T:Nat->Option TI}{G:Nat->Option (List D)}{β:Nat->Nat}{bx:List av}{w:World}{X:Nat->Prop}
theorem ax.drop {ok:Nat->Prop} {blk sz:Nat}:∀(n:Nat) (es:List (List D)) (off:Nat),ax w ok blk sz es off->ax w ok blk sz (es.drop n) (off+n*sz)
 |0,es,off,h=>by simpa using h|n+1,[],off,h=>by simp[ax]|n+1,r::rs,off,h=>by
  simp only[ax]at h;have:=ax.drop n rs (off+sz) h.2.2
  simpa[Nat.add_mul,show off+sz+n*sz=off+(n*sz+sz) by omega]using this
theorem ax.take {ok:Nat->Prop} {blk sz:Nat}:∀(n:Nat) (es:List (List D)) (off:Nat),ax w ok blk sz es off->ax w ok blk sz (es.take n) off
 |0,es,off,h=>by simp[ax]|n+1,[],off,h=>by simp[ax]|n+1,r::rs,off,h=>by simp only[ax]at h;simp only[List.take_succ_cons,ax];exact⟨h.1,h.2.1,ax.take n rs _ h.2.2⟩
def BV:Option Int->Option Value->Prop
 |none,none=>True|some z,some (.int _ z')=>z'=z|_,_=>False
theorem qV{ev:Operand->AV}{ρ:Operand->Value}{x:Option Operand}{l:Option Int}{ok:Nat->Prop}(h:D9 ev x=some l)(hr:∀y,x=some y->ai β bx w ok (ev y) (ρ y)):BV l (x.map ρ):=by
 cases x with
 |none=>simp[D9]at h;subst h;trivial|some y=>
  have hy:=hr y rfl;simp only[D9]at h;split at h
  .rename_i k n he;simp at h;subst h;rw[he]at hy;simp only[ai,aP]at hy;simp[BV,hy]
  simp at h
theorem BB{α:Type}(l:List α)(lo hi:Option Int):gZ l lo hi=(l.drop (bc lo)).take (aY l.length hi-bc lo):=by cases lo<;>cases hi<;>simp[gZ,bc,aY];rw[vao];simp
theorem oK{len:Nat}{lo hi:Option Int}(h:b9 len lo hi):bc lo<=aY len hi/\aY len hi<=len:=by cases lo<;>cases hi<;>simp[b9,bc,aY]at*<;>omega
theorem jM{x:Value}{z:Int}{y:Nat}{code:BoundsCode}(hx:BV (some z) (some x))(h0:0<=z)(h1:z<=y):(Instr.sliceBound x y code).run P w=.ok z.toNat w:=by cases x<;>simp[BV]at hx;subst hx;simp[Instr.sliceBound,asIntOf,h0,h1]
theorem qW{Xs:Bool}{len cap:Nat}{lo hi:Option Int}{vl vh:Option Value}(hl:BV lo vl)(hh:BV hi vh)(hc:b9 len lo hi)(hcap:len<=cap):
 (Instr.sliceBounds Xs len cap vl vh none).run P w=.ok (bc lo,aY len hi,cap) w:=by
 have hle:=oK hc;have low:∀(x:Value) (z:Int),BV (some z) (some x)->lo=some z->(Instr.sliceBound x (aY len hi) .sliceB).run P w=.ok z.toNat w:=by intro x z hx he;subst he;exact jM hx (by cases hi<;>simp[b9]at hc<;>omega) (by simp[bc]at hle;omega)
 cases hi with
 |none=>
  cases vh with
  |some _=>simp[BV]at hh|none=>
  cases lo with
  |none=>cases vl<;>simp[BV]at hl;simp[Instr.sliceBounds,bc,aY]
  |some z=>
   cases vl with
   |none=>simp[BV]at hl|some x=>
    have:=low x z hl rfl
    simp only[aY]at this
    simp[Instr.sliceBounds,this,bc,aY]
 |some h=>
  cases vh with
  |none=>simp[BV]at hh|some xh=>
  have hb:=jM (P:=P) (w:=w) (y:=cap) (code:=if Xs then .sliceAcap else .sliceAlen) hh (by cases lo<;>simp[b9]at hc<;>omega) (by cases lo<;>simp[b9]at hc<;>omega)
  cases lo with
  |none=>cases vl<;>simp[BV]at hl;simp[Instr.sliceBounds,bc,aY,hb]
  |some z=>
   cases vl with
   |none=>simp[BV]at hl|some x=>
    have:=low x z hl rfl
    simp only[aY]at this
    simp[Instr.sliceBounds,this,bc,aY,hb]
theorem Ih{len cap:Nat}{lo:Option Int}{h:Int}{vl:Option Value}{xh xm:Value}(hl:BV lo vl)(hh:BV (some h) (some xh))(hm:BV (some h) (some xm))(hc:b9 len lo (some h))(hcap:len<=cap):
 (Instr.sliceBounds true len cap vl (some xh) (some xm)).run P w=.ok (bc lo,h.toNat,h.toNat) w:=by
 have hle:=oK hc;have h0:0<=h/\h<=len:=by cases lo<;>simp[b9]at hc<;>omega
 unfold Instr.sliceBounds;simp only[Sem.run_bind];rw[jM hm h0.1 (by omega)];simp only[Result.andThen_ok];rw[jM hh h0.1 (by omega)];simp only[Result.andThen_ok];cases lo with
 |none=>cases vl<;>simp[BV]at hl;simp[bc]
 |some z=>
  cases vl with
  |none=>simp[BV]at hl|some x=>
   have hz:0<=z/\z<=h:=by simp[b9]at hc;omega
   simp only[Sem.run_bind]
   rw[jM hl hz.1 (by omega)]
   simp[bc]
theorem Ii{ok:Nat->Prop}{base:Option Addr}{es:List (List D)}{lo hi:Option Int}{m size:Nat}(hc:b9 es.length lo hi)(hm:aY es.length hi<=m)
 (hs:∀r∈es,r.length=size) (h:es=[]∨∃blk off sz,base=some ⟨blk,off,none⟩/\ok blk/\ax w ok blk sz es off):
 (gZ es lo hi).length=aY es.length hi-bc lo/\
 (gZ es lo hi=[]∨∃blk off sz,(if m=bc lo then base else base.map (·.add (bc lo*size)))=some ⟨blk,off,none⟩/\ok blk/\ax w ok blk sz (gZ es lo hi) off):=by
 have hle:=oK hc;have hlen:(gZ es lo hi).length=aY es.length hi-bc lo:=by rw[BB];simp;omega
 refine⟨hlen,?_⟩;by_cases U7:gZ es lo hi=[]
 .exact .inl U7
 refine .inr ?_;have hpos:0<(gZ es lo hi).length:=List.length_pos_iff.2 U7
 have hne:es≠[]:=by rintro rfl;simp[BB]at hpos
 rcases h with h|⟨blk,off,sz,rfl,h1,h2⟩
 .exact absurd h hne
 have hsz:sz=size:=by
  cases es with
  |nil=>exact absurd rfl hne|cons r rs=>simp only[ax]at h2;rw[<-h2.1];exact hs r (by simp)
 subst hsz;rw[if_neg (by omega)];refine⟨blk,off+bc lo*sz,sz,by simp[gu],h1,?_⟩;rw[BB];exact ax.take _ _ _ (ax.drop _ _ _ h2)
theorem RF{x:AV}(h:cN [x]=true):x.cE bx=bx:=by cases x<;>simp_all[AV.cE,cN]
theorem vV{ok:Nat->Prop}{blk sz:Nat}:∀(n:Nat) (ds:List D) (off:Nat),n*sz<=ds.length->bg w ok blk ds off->ax w ok blk sz (chunk sz n ds) off/\(chunk sz n ds).length=n
 |0,ds,off,_,_=>by simp[chunk,ax]|n+1,ds,off,hl,h=>by rw[Nat.add_mul]at hl;obtain⟨h1,h2⟩:=vV (sz:=sz) n (ds.drop sz) (off+sz) (by simp;omega) (bg.drop sz ds off h);simp only[chunk,ax,List.length_cons,h2,and_true];exact⟨by simp;omega,bg.take _ _ _ h,h1⟩
theorem Ij(hT:jj P T)(cx:cB G β bx w X){t:Nat}{x:AV}{ux:Value}{lo hi mx:Option Int}{vl vh vm:Option Value}(hx:ai β bx w (bq β bx w X) x ux)
 (hl:BV lo vl) (hh:BV hi vh) (hm:BV mx vm) {c:Prop} {v:AV} {b:Option (List av)} (hr:sI T t x lo hi mx bx=some ⟨c,v,b⟩) (hc:c):
 ∃u,(Instr.sliceAt t ux vl vh vm).run P w=.ok u w/\Ext β bx w β (dU bx b) w/\cB G β (dU bx b) w X/\
  ai β (dU bx b) w (bq β (dU bx b) w X) v u:=by
 unfold sI at hr
 cases ht:T t with
 |none=>simp[ht]at hr|some ti=>
 have ht':=hT.ti t ti ht
 obtain⟨i,d,h1,h2,h3,h4,h5,h6⟩:=aL ht'
 simp only[ht]at hr
 have N2:dU bx (bif cN [x]then none else some (x.cE bx))=x.cE bx:=by
  cases ho:cN [x]with
  |true=>simp[RF ho,dU]|false=>rfl
 cases hk:ti.kd with
 |str=>
  rw[hk]at hr
  rw[hk]at h5
  cases d<;>simp[cX]at h5
  cases mx with
  |some _=>cases x<;>simp at hr
  |none=>
  cases x with
  |d y=>
   cases y with
   |str s=>
    simp only[R.when,osI,R.mk.injEq]at hr
    obtain⟨rfl,rfl,rfl⟩:=hr
    simp only[ai,aP]at hx
    subst hx
    have hmn:vm=none:=by cases vm<;>simp[BV]at hm;rfl
    subst hmn
    have hb:=qW (P:=P) (w:=w) (Xs:=false) hl hh hc (vad _)
    refine⟨.string ((⟨s.toArray⟩:ByteArray).extract (bc lo) (aY s.length hi)),?_,Ext.refl _ _ _,cx,?_⟩
    .have hsz:(⟨s.toArray⟩:ByteArray).size=s.length:=by simp[ByteArray.size]
     simp only[Instr.sliceAt,Sem.run_bind,aX h2,Result.andThen_ok,Instr.slice,hsz];simp[hb]
    simp only[ai,aP,BB]
    rw[Lib.extract_eq]
   |_=>simp at hr
  |_=>simp at hr
 |slice e=>
  rw[hk]at hr
  rw[hk]at h5
  cases d<;>simp[cX]at h5
  subst h5
  cases mx with
  |none=>
   have sA:(match x.rows bx,T e with
    |some es,some te=>some (R.mk (b9 es.length lo hi/\∀r∈es,r.length=te.size) (.d (.sl (gZ es lo hi))) (bif cN [x]then none else some (x.cE bx)))|_,_=>none)=some ⟨c,v,b⟩:=by
    cases x<;>first|exact hr|(rename_i y;cases y<;>exact hr)
   clear hr
   split at sA
   .rename_i es te aD hte;simp only[osI,R.mk.injEq]at sA;obtain⟨rfl,rfl,rfl⟩:=sA;obtain⟨Bm,EB⟩:=hc;obtain⟨ei,ed,g1,g2,g3,g4,g5,g6⟩:=aL (hT.ti _ _ hte);obtain⟨k1,k2,base,cap,rfl,k3,k4⟩:=lz cx aD hx;rw[N2];have hmn:vm=none:=by cases vm<;>simp[BV]at hm;rfl
    subst hmn;have hb:=qW (P:=P) (w:=w) (Xs:=true) hl hh Bm k3
    have hle:=oK Bm;obtain⟨j1,j2⟩:=Ii (w:=w) (m:=cap) Bm (by omega) (λr hr=>by rw[EB r hr]) k4;refine⟨.slice (if cap=bc lo then base else base.map (·.add (bc lo*te.size))) (aY es.length hi-bc lo) (cap-bc lo),?_,k1,k2,?_⟩
    .simp[Instr.sliceAt,aX h2,Instr.slice,hb,cg g1,g3]
    simp only[ai,aP];exact⟨_,_,by rw[j1],by rw[j1];omega,j2⟩
   simp at sA
  |some m=>
   have sA:(match x.rows bx,hi,T e with
    |some es,some h,some te=>some (R.mk ((b9 es.length lo (some h)/\m=h)/\∀r∈es,r.length=te.size) (.cl (gZ es lo (some h))) (bif cN [x]then none else some (x.cE bx)))|_,_,_=>none)=some ⟨c,v,b⟩:=by
    cases x<;>first|exact hr|(rename_i y;cases y<;>exact hr)
   clear hr
   split at sA
   .rename_i es h te aD hte;simp only[osI,R.mk.injEq]at sA;obtain⟨rfl,rfl,rfl⟩:=sA;obtain⟨⟨Bm,rfl⟩,EB⟩:=hc;obtain⟨ei,ed,g1,g2,g3,g4,g5,g6⟩:=aL (hT.ti _ _ hte);obtain⟨k1,k2,base,cap,rfl,k3,k4⟩:=lz cx aD hx;rw[N2];cases vm with
    |none=>simp[BV]at hm|some xm=>
    cases vh with
    |none=>simp[BV]at hh|some xh=>
    have hb:=Ih (P:=P) (w:=w) hl hh hm Bm k3;have hle:=oK Bm
    obtain⟨j1,j2⟩:=Ii (w:=w) (m:=m.toNat) Bm (by simp[aY]) (λr hr=>by rw[EB r hr]) k4;refine⟨.slice (if m.toNat=bc lo then base else base.map (·.add (bc lo*te.size))) (m.toNat-bc lo) (m.toNat-bc lo),?_,k1,k2,?_⟩
    .simp[Instr.sliceAt,aX h2,Instr.slice,hb,cg g1,g3]
    simp only[ai];refine⟨_,?_,j2⟩;rw[j1];rfl
   simp at sA
 |array n e=>
  rw[hk]at hr
  rw[hk]at h5
  cases d<;>simp[cX]at h5
  obtain⟨rfl,rfl⟩:=h5
  cases mx with
  |some _=>cases x<;>simp at hr
  |none=>
  cases x with
  |ep ds=>
   cases lo with
   |some _=>simp at hr|none=>
   cases hi with
   |some _=>simp at hr|none=>
   cases hte:T e with
   |none=>simp[hte]at hr|some te=>
    simp only[hte,R.when,osI,R.mk.injEq]at hr
    obtain⟨rfl,rfl,rfl⟩:=hr
    obtain⟨ei,ed,g1,g2,g3,g4,g5,g6⟩:=aL (hT.ti _ _ hte)
    simp only[ai]at hx
    obtain⟨blk,off,rfl,k1,k2⟩:=hx
    have e1:vl=none:=by cases vl<;>simp[BV]at hl;rfl
    have e2:vh=none:=by cases vh<;>simp[BV]at hh;rfl
    have e3:vm=none:=by cases vm<;>simp[BV]at hm;rfl
    subst e1;subst e2;subst e3
    obtain⟨j1,j2⟩:=vV (w:=w) _ ds off hc k2
    refine⟨.slice (some ⟨blk,off,none⟩) (chunk te.size n ds).length (chunk te.size n ds).length,?_,Ext.refl _ _ _,cx,?_⟩
    .simp[Instr.sliceAt,aX h2,Instr.sureAddr,Instr.sliceBounds,cg g1,j2,gu]
    simp only[ai,aP]
    exact⟨_,_,rfl,vad _,.inr ⟨blk,off,_,rfl,k1,j1⟩⟩
  |ptr bb off=>
   cases off with
   |succ _=>simp at hr|zero=>
   cases lo with
   |some _=>simp at hr|none=>
   cases hi with
   |some _=>simp at hr|none=>
   cases hte:T e with
   |none=>simp[hte]at hr|some te=>
   cases hb:bx[bb]? with
   |none=>simp[hte,hb]at hr|some B=>
   cases B with
   |var cs=>
    simp only[hte,hb]at hr
    cases hd:jV [] cs with
    |none=>simp[hd]at hr|some ds=>
    simp only[hd,osI,R.mk.injEq]at hr
    obtain⟨rfl,rfl,rfl⟩:=hr
    obtain⟨ei,ed,g1,g2,g3,g4,g5,g6⟩:=aL (hT.ti _ _ hte)
    simp only[ai]at hx
    obtain⟨rfl,_⟩:=hx
    have e1:vl=none:=by cases vl<;>simp[BV]at hl;rfl
    have e2:vh=none:=by cases vh<;>simp[BV]at hh;rfl
    have e3:vm=none:=by cases vm<;>simp[BV]at hm;rfl
    subst e1;subst e2;subst e3
    obtain⟨cc,ce,hp,hcs⟩:=cx.box bb _ hb
    have ex:Ext β bx w β (bx.set bb .dead) w:=jB hb rfl rfl
    have oA:cB G β (bx.set bb .dead) w X:=lq cx hb rfl rfl (by simp[dV])
    have hok:bq β (bx.set bb .dead) w X (β bb):=by
     refine⟨fE hp,cx.apart bb _ hb rfl,?_⟩;intro i b' h3 h4 he;rcases aQ h3 with⟨rfl,rfl,_⟩|⟨h5,h6⟩
     .simp[av.live]at h4
     exact h5 (cx.inj i bb b' _ h6 hb h4 rfl he)
    have hrow:bg w (bq β bx w X) (β bb) ds 0:=by refine Gb ds 0 cc.toList ?_ (uD hd hcs);intro j v hj;simp only[World.cell?,hp];simpa using hj
    obtain⟨j1,j2⟩:=vV (w:=w) _ ds 0 hc (bg.mono (ex.keeps X) _ (λ_=>rfl) _ _ hrow)
    refine⟨.slice (some ⟨β bb,0,none⟩) (chunk te.size n ds).length (chunk te.size n ds).length,?_,ex,oA,?_⟩
    .simp[Instr.sliceAt,aX h2,Instr.sureAddr,Instr.sliceBounds,cg g1,j2,gu]
    simp only[ai,aP]
    exact⟨_,_,rfl,vad _,.inr ⟨_,0,_,rfl,hok,j1⟩⟩
   |_=>simp[hte,hb]at hr
  |_=>simp at hr
 |_=>rw[hk]at hr;cases mx<;>cases x<;>simp at hr
end
end Dem
end
