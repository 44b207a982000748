/- Parts of a proof, joined. -/
import Derived.Test.YtjnbpclolnmimaaGreatDoorJ13
import Derived.Test.YtjnbpclolnmimaaGreatDoorRows
import Derived.ProofKit
import Derived.LaidMore
import Derived.OpenShut
import Derived.Carry
import Derived.Stop.Joined
import Derived.Lib.RuneCount
import Derived.Lib.Bytealg
import Derived.Lib.Join
set_option linter.unusedSimpArgs false
set_option linter.unusedVariables false
set_option maxRecDepth 100000
set_option maxHeartbeats 4000000
section
open Go Go.Proofs Go.ChangeShapes Go.WideShapes Go.RowKit
namespace Dem
theorem own:ownKnob Tryz.prog.godebug=none:=by kernel_rfl
theorem laidOut:laidOutB Tryz.prog=true:=by kernel_rfl
theorem QR:Tryz.prog.globalNamed "demesne/word.letters"=some 0:=by kernel_rfl
theorem WS:Tryz.prog.globalNamed "demesne/word.marks"=some 1:=by kernel_rfl
def DM:TypeId:=228
def MC:TypeId:=229
theorem QS:(Tryz.prog.globals[0]?).map (·.type)=some DM:=by kernel_rfl
theorem WT:(Tryz.prog.globals[1]?).map (·.type)=some MC:=by kernel_rfl
def abz:DataW Unit→Value
 |.lit (.int k n)=>.int k n
 |_=>.int .u8 0
def abA:DataW Unit→List Value
 |.agg l=>l.map abz
 |_=>[]
noncomputable def HT (os:Os):World:=
 let w0:=World.doorLaid Tryz.prog 400 os
 {w0 with heap:=w0.heap.modify 3 fun
  |.cells _ t fr=>.cells (abA YtjnbpclolnmimaaGreatDoor.Rows.laid_unicode_utf8_first).toArray t fr
  |o=>o}
abbrev mV:List (String×DataW Unit):=[("unicode/utf8.acceptRanges",YtjnbpclolnmimaaGreatDoor.Rows.laid_unicode_utf8_acceptRanges),("demesne/word.letters",YtjnbpclolnmimaaGreatDoor.Rows.laid_demesne_word_letters),("demesne/word.marks",YtjnbpclolnmimaaGreatDoor.Rows.laid_demesne_word_marks),("unicode/utf8.first",YtjnbpclolnmimaaGreatDoor.Rows.laid_unicode_utf8_first)]
theorem vW (os:Os) (args:Array Value):laidMetH Tryz.prog mV ((HT os).forCall (fun _ _=>0) ⟨#[],args,[]⟩).memory:=
 laidMetH_of_parts3 (fuel:=8) (laidMet_of_run' 8 (by kernel_rfl) (by kernel_rfl)) (by kernel_rfl) (by kernel_rfl)
theorem tyL:G2 Tryz.prog 8 DM=some [.int .i32,.int .i32,.int .i32,.int .i32,.int .i32,.int .i32]:=by kernel_rfl
theorem tyM:G2 Tryz.prog 8 MC=some [.int .i32,.int .i32,.int .i32,.int .i32]:=by kernel_rfl
theorem Ff {w:World} {ok:Nat→Prop} {aB:Nat}:∀{ds:List D} {vs:List Value} (off:Nat),cq w ok ds vs→(∀i v,vs[i]?=some v→w.cell? ⟨aB,off+i,none⟩=some v)→aY w ok aB ds off
 |[],_,_,_,_=>by simp [aY]
 |d::ds,vs,off,h,hc=>by
  simp only [cq] at h
  obtain ⟨v,r,rfl,h1,h2⟩:=h
  simp only [aY]
  refine ⟨⟨v,hc 0 v rfl,h1⟩,Ff (off+1) h2 fun i u hu=>?_⟩
  rw [show off+1+i=off+(i+1) by omega]
  exact hc (i+1) u (by simpa using hu)
theorem HU {W:World} (h:laidMetH Tryz.prog mV W):ct gl (fun _=>0) [] W (fun _=>False):=by
 rw [MakeChecks.laidMetH_plain _ _ _ (by kernel_rfl)] at h
 obtain ⟨ps,⟨_,_,_,_,_,_,_,_,_,_,⟨g0,t0,cs0,f0,p0,q0,YL,ht0,QT,hd0,⟨g1,t1,cs1,f1,p1,q1,hg1,ht1,SS,YA,_,_⟩,_⟩,_⟩,_,_⟩:=h
 obtain rfl:=Option.some.inj (QR.symm.trans YL)
 obtain rfl:=Option.some.inj (WS.symm.trans hg1)
 obtain rfl:=Option.some.inj (QS.symm.trans ht0)
 obtain rfl:=Option.some.inj (WT.symm.trans ht1)
 have hok:∀aB,aB<W.heap.size→be (fun _=>0) [] W (fun _=>False) aB:=fun aB hb=>⟨hb,fun h=>h,fun i b hb=>by simp at hb⟩
 obtain ⟨r0,_⟩:=oB hok 8 _ _ _ _ _ hd0 tyL
 obtain ⟨r1,_⟩:=oB hok 8 _ _ _ _ _ YA tyM
 have c0:=fun i=>World.var?_cell YL QT i
 have c1:=fun i=>World.var?_cell hg1 SS i
 refine ⟨fun _ h=>h.elim,?_,by simp,by simp,by simp⟩
 intro g ds hg
 unfold gl at hg
 have hlt:∀{i:Nat} {a:Addr} {v:Value},W.cell? a=some v→a.block<W.heap.size:=by
  intro i a v hc
  rcases Nat.lt_or_ge a.block W.heap.size with h|h
  ·exact h
  simp [World.cell?,h] at hc
 cases e0:Nat.beq g 0 with
 |true=>
  rw [e0] at hg
  simp only [cond_true,osI] at hg
  obtain rfl:=Nat.eq_of_beq_eq_true e0
  have hrow:aY W (be (fun _=>0) [] W (fun _=>False)) 0 ds 0:=by
   rw [←hg];exact Ff 0 r0 fun i v hv=>by rw [Nat.zero_add,c0 i];simpa using hv
  refine ⟨hok _ ?_,hrow⟩
  rw [←hg] at hrow
  simp only [aY] at hrow
  obtain ⟨⟨u,hu,_⟩,_⟩:=hrow
  exact hlt (i:=0) hu
 |false=>
  rw [e0] at hg
  simp only [cond_false] at hg
  cases e1:Nat.beq g 1 with
  |true=>
   rw [e1] at hg
   simp only [cond_true,osI] at hg
   obtain rfl:=Nat.eq_of_beq_eq_true e1
   have hrow:aY W (be (fun _=>0) [] W (fun _=>False)) 1 ds 0:=by
    rw [←hg];exact Ff 0 r1 fun i v hv=>by rw [Nat.zero_add,c1 i];simpa using hv
   refine ⟨hok _ ?_,hrow⟩
   rw [←hg] at hrow
   simp only [aY] at hrow
   obtain ⟨⟨u,hu,_⟩,_⟩:=hrow
   exact hlt (i:=0) hu
  |false=>rw [e1] at hg;cases hg
theorem pM {f:Nat} {args:List AV} {vs:List Value} {W:World} (hL:laidMetH Tryz.prog mV W) (he:∀args w,(callFunc f args).run Tryz.prog w=.ok (.enter f args) w)
 (hx:aj (fun _=>0) [] W (be (fun _=>0) [] W (fun _=>False)) args vs) (h:FC f args [] (.ret (.d (.bool true))) []):
 Calls Tryz.prog f ⟨vs⟩ W fun e w'=>e=.returned (.bool true)∧RowKit.Below W.heap.size W w':=by
 have hc:=h (fun _=>0) W vs (fun _=>False) (HU hL) hx
 rcases hc with ⟨_,hc⟩|⟨v,w',hc,_⟩
 ·refine hc.mono ?_
  rintro e w' ⟨β',ex,_,hr⟩
  cases e with
  |returned u=>
   simp only [fC,ah,aK] at hr
   subst hr
   exact ⟨rfl,⟨ex.os,ex.tape,ex.output,ex.size,fun k hk=>ex.block k hk (by simp)⟩⟩
  |_=>exact hr.elim
 rw [he] at hc;cases hc
theorem CY {H:Type} {enc:TypeId×Value→H} {P:Program} (hl:laidOutB P=true) {W W':World} (hb:RowKit.Below W.heap.size W W'):∀(ts:List TypeId) (vs:List Value) (ds:List (DataW H)) (ps:List MemPlace),(ts.all fun t=>P.readableRec t&&decide (t<P.types.size))=true→
 (∀x∈ps,x.block<W.heap.size)→DataW.TrodAll enc P W 0 (fun _=>true) true ts vs ds ps→DataW.TrodAll enc P W' 0 (fun b=>decide (b<W.heap.size)) true ts vs ds ps:=by
 intro ts
 induction ts with
 |nil=>
  intro vs ds ps _ _ h
  cases vs with
  |nil=>cases ds with
   |nil=>exact h
   |cons d ds=>exact h.elim
  |cons v vs=>cases ds<;>exact h.elim
 |cons t ts ih=>
  intro vs ds ps ht hlt h
  cases vs with
  |nil=>cases ds<;>exact h.elim
  |cons v vs=>cases ds with
   |nil=>exact h.elim
   |cons d ds=>
    obtain ⟨p,q,h1,h2,rfl⟩:=h
    simp only [List.all_cons,Bool.and_eq_true,decide_eq_true_eq] at ht
    exact ⟨p,q,RowKit.Below.trod hl ht.1.1 ht.1.2 h1 hb (fun x hx=>hlt x (List.mem_append_left _ hx)),ih vs ds q ht.2 (fun x hx=>hlt x (List.mem_append_right _ hx)) h2,rfl⟩
theorem HV {H:Type} {enc:TypeId×Value→H} {P:Program} {W:World}:∀(ts:List TypeId) (vs:List Value) (ds:List (DataW H)) (ps:List MemPlace),DataW.TrodAll enc P W 0 (fun _=>true) true ts vs ds ps→ds.length=ts.length:=by
 intro ts
 induction ts with
 |nil=>
  intro vs ds ps h
  cases vs with
  |nil=>cases ds with
   |nil=>rfl
   |cons d ds=>exact h.elim
  |cons v vs=>cases ds<;>exact h.elim
 |cons t ts ih=>
  intro vs ds ps h
  cases vs with
  |nil=>cases ds<;>exact h.elim
  |cons v vs=>cases ds with
   |nil=>exact h.elim
   |cons d ds=>obtain ⟨_,_,_,h2,_⟩:=h;simp [ih _ _ _ h2]
theorem CZ {W W':World} (hb:RowKit.Below W.heap.size W W') (may:MemPlace→Prop):W.keptBut W' may:=by
 refine ⟨hb.os,hb.output,fun i hi=>?_⟩
 rw [hb.block i hi]
 generalize W.heap[i]?=o
 cases o with
 |none=>rfl
 |some o=>cases o<;>first|exact ⟨rfl,rfl,rfl,fun _ _=>rfl⟩|exact .inr ⟨rfl,rfl⟩|rfl
theorem Zx:Tryz.prog.underlying 4=some .bool:=by kernel_rfl
theorem sM {H:Type} {enc:TypeId×Value→H} {os:Os} (started:os.Started) {F:FuncId} {fn:Func} {s:ChangeSpec} (hfn:Tryz.checked.prog.funcs[F]?=some fn) (hni:Tryz.checked.prog.inits.idxOf? F=none) (hv:s.vars=[]) (hrt:fn.resultTypes=#[4])
 (hts:(fn.params.toList.all fun t=>Tryz.prog.readableRec t&&decide (t<Tryz.prog.types.size))=true)
 (hs:∀ds:List (DataW H),ds.length=fn.params.toList.length→(s.fn H ds).results=[.lit (.bool true)]∧(s.fn H ds).args=ds∧(s.fn H ds).vars=[])
 (witness:∃(w:World) (tape:Tape) (i:Input),w.os=os∧(w.forCall tape i).Shaped Tryz.checked.prog∧i.vars=[]∧Input.okWide Tryz.checked.prog (w.forCall tape i) .any w.heap.size F i∧
  ((s.pre enc Tryz.checked.prog fn [] false (w.forCall tape i).memory i.args∧laidMetH Tryz.prog mV (w.forCall tape i).memory)∧sizedMet enc Tryz.checked.prog fn (OpenSpec.ofChange s) false (w.forCall tape i).memory i.args)∧({}:Assume).holds Tryz.checked.prog (lone (Frame.enter Tryz.checked.prog F i.args .normal) [] (w.forCall tape i)))
 (WU:∀(W:World) (args:Array Value) (ds:List (DataW H)) (p:List MemPlace),laidMetH Tryz.prog mV W→DataW.TrodAll enc Tryz.prog W 0 (fun _=>true) true fn.params.toList args.toList ds p→
  (∀(j:Nat) t v,fn.params[j]?=some t→args[j]?=some v→∃base,Value.okWide Tryz.prog W .any base t v)→
  Calls Tryz.prog F args W fun e w'=>e=.returned (.bool true)∧RowKit.Below W.heap.size W w'):
 ReturnsInHanded {} Tryz.checked os F .any (fun w args=>(s.pre enc Tryz.checked.prog fn [] false w args∧laidMetH Tryz.prog mV w)∧sizedMet enc Tryz.checked.prog fn (OpenSpec.ofChange s) false w args) (s.post enc Tryz.checked.prog fn false true false false):=by
 refine returnsInHanded_of_change_and (C:=Tryz.checked) (X:=fun w _=>laidMetH Tryz.prog mV w) (fun _ _ _ hh h=>h.of_heap hh) own started hni hfn witness ?_
 intro W base args ds gs before hval hW _ _ hL _
 have hW':=hW
 obtain ⟨p,q,hA,hV,rfl,hfz,hnd⟩:=hW
 rw [hv] at hV
 obtain ⟨rfl,rfl⟩:=trodVars_none hV
 have hlen:ds.length=fn.params.toList.length:=HV _ _ _ _ hA
 obtain ⟨s1,s2,s3⟩:=hs ds hlen
 refine (WU W args ds p hL hA (fun j t v h1 h2=>⟨base,hval j t v h1 h2⟩)).mono fun e w' ⟨he,hb⟩=>?_
 refine ⟨.bool true,he,ds,[],p++[],[],p,[],hW',?_,?_,?_,CZ hb _,fun h=>by cases h⟩
 ·rw [List.append_nil,s1,hrt]
  exact trodAll_mk1 (shut_bool Zx _)
 ·rw [List.append_nil,s2]
  exact CY laidOut hb _ _ _ _ hts (fun x hx=>hW'.lt x (by simpa using hx)) hA
 rw [List.append_nil,s3,hv]
 rfl
end Dem
end
section
open Go
namespace Dem
def dec (s:aD) (pos:Nat):Nat×Nat:=Utf8.decode ⟨s.toArray⟩ pos
theorem MD (s:aD) (pos:Nat) (h:pos<s.length):1≤(dec s pos).2:=Lib.decode_width_pos _ pos (by show pos<s.toArray.size;simpa using h)
def iA (s:aD):Nat→Nat→List (Nat×Nat)
 |0,_=>[]
 |n+1,pos=>if pos<s.length then (pos,(dec s pos).1)::iA s n (pos+(dec s pos).2) else []
def DN (s:aD):List (Nat×Nat):=iA s s.length 0
def Fg:List (Int×Int):=[(97,122),(945,969),(1072,1103)]
def marks:List (Int×Int):=[(48,57),(45,45)]
def HW (r:Int) (l:List (Int×Int)):Bool:=l.any fun x=>decide (x.1≤r)&&decide (r≤x.2)
def rN (s:aD):Nat:=(DN s).length
def WV (x:Nat×Nat):Bool:=HW x.2 Fg||(!decide (x.1=0)&&HW x.2 marks)
def dX (s:aD):Bool:=(DN s).all WV&&!decide (s=[])&&decide (rN s≤16)
theorem Bx (s:aD):∀(n pos:Nat),(iA s n pos).length≤n
 |0,_=>by simp [iA]
 |n+1,pos=>by
  unfold iA;split
  ·simp;exact Bx s n _
  simp
structure bT where
 key:aD
 value:aD
deriving DecidableEq
abbrev bT.cells (p:bT):List D:=[.str p.key,.str p.value]
def sle (x y:aD):Bool:=Op.bytesLess x y||decide (x=y)
def iY:Option aD→List bT→Bool
 |_,[]=>true
 |q,p::r=>dX p.key&&dX p.value&&(match q with|none=>true|some q=>!sle p.key q)&&iY (some p.key) r
def pN (l:List bT):Bool:=iY none l&&decide (l.length≤8)
def lY (l:List bT) (k:Nat):Option aD:=match k with
 |0=>none
 |k+1=>(l[k]?).map (·.key)
def bT.sm (p:bT):Prop:=p.key.length<9223372036854775807∧p.value.length<9223372036854775807
structure Node where
 name:aD
 cap:bz
 labels:List bT
 up:Bool
structure Place where
 bu:Int
 node:aD
 v:bz
abbrev Node.cells (x:Node):List D:=[.str x.name,.int .u64 x.cap.a,.int .u64 x.cap.b,.int .u64 x.cap.c,.int .u64 x.cap.d,.sl (x.labels.map bT.cells),.bool x.up]
abbrev Place.cells (x:Place):List D:=[.int .u64 x.bu,.str x.node,.int .u64 x.v.a,.int .u64 x.v.b,.int .u64 x.v.c,.int .u64 x.v.d]
theorem sN {α:Type} {p:α→Bool} {l:List α} (h:idxOf p l=-1):∀x∈l,p x=false:=by
 unfold idxOf at h
 split at h
 ·omega
 rename_i hn
 rw [List.findIdx?_eq_none_iff] at hn
 exact fun x hx=>by simpa using hn x hx
theorem sO {α:Type} {p:α→Bool} {l:List α} (h:idxOf p l≠-1):∃(i:Nat) (x:α),idxOf p l=i∧l[i]?=some x∧p x=true∧∀y∈l.take i,p y=false:=by
 unfold idxOf at h ⊢
 split at h
 ·rename_i k hk
  obtain ⟨hlt,hp,hb⟩:=List.findIdx?_eq_some_iff_getElem.1 hk
  refine ⟨k,l[k],rfl,by simp [hlt],hp,?_⟩
  intro y hy
  obtain ⟨j,hj⟩:=List.getElem?_of_mem hy
  rw [List.getElem?_take] at hj
  split at hj
  ·rename_i Wj
   have hjl:j<l.length:=by omega
   rw [List.getElem?_eq_getElem hjl] at hj
   cases hj
   simpa using hb j Wj
  cases hj
 exact absurd rfl h
theorem filter_all {α:Type} {p:α→Bool} {l:List α} (h:∀x∈l,p x=false):l.filter (fun x=>!p x)=l:=by
 rw [List.filter_eq_self]
 intro x hx;rw [h x hx];rfl
theorem eU {α:Type} {l:List α} {i:Nat} {x:α} (h:l[i]?=some x):l.take (i+1)=l.take i++[x]:=by
 rw [List.take_add_one,h];rfl
def Node.zero:Node:=⟨[],bz.zero,[],false⟩
def gk (name:aD) (l:List Node):Node×Bool:=match l.find? (fun x=>decide (x.name=name)) with
 |some x=>(x,true)
 |none=>(Node.zero,false)
theorem NJ {name:aD} {l:List Node} (h:idxOf (fun x=>decide (x.name=name)) l=-1):gk name l=(Node.zero,false):=by
 have hn:=sN h
 have:l.find? (fun x=>decide (x.name=name))=none:=by rw [List.find?_eq_none];intro x hx;rw [hn x hx];simp
 unfold gk;rw [this]
theorem Fh {α:Type} {p:α→Bool}:∀{l:List α} {i:Nat} {x:α},l[i]?=some x→p x=true→(∀y∈l.take i,p y=false)→l.find? p=some x
 |[],_,_,h,_,_=>by simp at h
 |y::r,0,x,h,hp,_=>by simp at h;subst h;simp [hp]
 |y::r,i+1,x,h,hp,hb=>by
  have hy:p y=false:=hb y (by simp)
  simp only [List.getElem?_cons_succ] at h
  rw [List.find?_cons,hy]
  exact Fh h hp fun z hz=>hb z (by simp [hz])
theorem NK {name:aD} {l:List Node} (h:idxOf (fun x=>decide (x.name=name)) l≠-1):∃(i:Nat) (x:Node),idxOf (fun x=>decide (x.name=name)) l=i∧l[i]?=some x∧gk name l=(x,true):=by
 obtain ⟨i,x,h1,h2,h3,h4⟩:=sO h
 refine ⟨i,x,h1,h2,?_⟩
 unfold gk;rw [Fh h2 h3 h4]
def dD (name:aD) (s:bz×Bool) (x:Place):bz×Bool:=if s.2&&decide (x.node=name) then gu s.1 x.v else s
def gE (name:aD) (l:List Node) (ps:List Place):bz×Bool:=
 let s:=ps.foldl (dD name) ((gk name l).1.cap,(gk name l).2)
 if s.2 then s else (bz.zero,false)
def qo (name:aD) (v:bz) (l:List Node) (ps:List Place):Int:=
 if !(gk name l).2 then 7 else if !(gk name l).1.up then 12 else if !(gE name l ps).2||!mU v (gE name l ps).1 then 11 else 0
structure cO where
 nodes:List Node
 places:List Place
deriving instance DecidableEq for Place
deriving instance DecidableEq for Node
theorem nT {x y:bz}:x=y↔x.a=y.a∧x.b=y.b∧x.c=y.c∧x.d=y.d:=by cases x;cases y;simp
theorem TN {x y:bT}:x=y↔x.key=y.key∧x.value=y.value:=by cases x;cases y;simp
theorem QU {x y:Place}:x=y↔x.bu=y.bu∧x.node=y.node∧x.v=y.v:=by cases x;cases y;simp
instance:Inhabited bz:=⟨bz.zero⟩
instance:Inhabited Node:=⟨Node.zero⟩
instance:Inhabited Place:=⟨⟨0,[],bz.zero⟩⟩
instance:Inhabited bT:=⟨⟨[],[]⟩⟩
theorem bO {α:Type} {l:List α} {k:Nat} {x:α} (h:l[k]?=some x):l.drop k=x::l.drop (k+1):=by
 obtain ⟨hk,rfl⟩:=List.getElem?_eq_some_iff.1 h
 exact List.drop_eq_getElem_cons hk
structure cu where
 node:aD
 free:bz
 labels:List bT
theorem TO {x y:Node}:x=y↔x.name=y.name∧x.cap=y.cap∧x.labels=y.labels∧x.up=y.up:=by cases x;cases y;simp
def fN (l:List Node) (bu:Int) (v:bz):List aD→List Place→Option Int×List Place
 |[],ps=>(none,ps)
 |n::r,ps=>if qo n v l ps≠0 then (some (qo n v l ps),ps) else fN l bu v r (ps++[⟨bu,n,v⟩])
def xM (p:cO) (bu:Int) (names:List aD) (v:bz):cO×Int:=
 match (fN p.nodes bu v names p.places).1 with
 |some e=>(p,e)
 |none=>(⟨p.nodes,(fN p.nodes bu v names p.places).2⟩,0)
theorem cU {α:Type} {p:α→Bool} {l:List α} {r:Int} (h:r=idxOf p l):(r=-1∧l.findIdx? p=none∧l.find? p=none)∨∃(i:Nat) (x:α),r=i∧i<l.length∧l[i]?=some x∧p x=true∧l.findIdx? p=some i∧l.find? p=some x:=by
 by_cases hn:idxOf p l=-1
 ·have hno:=sN hn
  refine .inl ⟨by rw [h,hn],?_,?_⟩
  ·rw [List.findIdx?_eq_none_iff];intro x hx;simp [hno x hx]
  rw [List.find?_eq_none];intro x hx;simp [hno x hx]
 obtain ⟨i,x,h1,h2,h3,h4⟩:=sO hn
 refine .inr ⟨i,x,by rw [h,h1],(List.getElem?_eq_some_iff.1 h2).1,h2,h3,?_,Fh h2 h3 h4⟩
 unfold idxOf at h1
 split at h1
 ·rename_i k hk;rw [hk];congr 1;omega
 omega
def Fi (q:Option aD) (x:aD):Bool:=match q with|none=>true|some q=>!sle x q
def iZ (l:List Node) (ps:List Place):Option aD→List Node→Bool
 |_,[]=>true
 |q,n::r=>(gE n.name l ps).2&&dX n.name&&pN n.labels&&Fi q n.name&&iZ l ps (some n.name) r
def By (l:List Node) (x:Place):Bool:=!(l.any fun n=>decide (n.name=x.node))
def nU (p:cO):Bool:=iZ p.nodes p.places none p.nodes&&decide (p.nodes.length≤16)&&!(p.places.any (By p.nodes))
def oH (l:List Node) (k:Nat):Option aD:=match k with
 |0=>none
 |k+1=>(l[k]?).map (·.name)
theorem DO {l:List Node} {k:Nat} {x:aD}:Fi (oH l k) x=(decide (k=0)||match l[k-1]? with|none=>true|some y=>!sle x y.name):=by
 cases k with
 |zero=>rfl
 |succ k=>simp only [oH,Fi];cases h:l[k]?<;>simp [h]
def Node.sm (x:Node):Prop:=x.name.length<9223372036854775807∧x.labels.length<1000000000∧∀p∈x.labels,p.sm
def pat (l:List Node) (nm:aD):Nat:=match l.findIdx? (fun o=>!Op.bytesLess o.name nm) with
 |some k=>k
 |none=>l.length
def rO (p:cO) (n:Node):cO×Int:=
 if !dX n.name then (p,6) else if !pN n.labels then (p,2) else if decide (0≤idxOf (fun x=>decide (x.name=n.name)) p.nodes) then (p,8) else if 16≤p.nodes.length then (p,9) else
 (⟨p.nodes.take (pat p.nodes n.name)++{n with up:=true}::p.nodes.drop (pat p.nodes n.name),p.places⟩,0)
end Dem
end
section
open Go Dem Go.Proofs
namespace Dem
abbrev aT (s:aD):List D:=[.str s]
def kR (r:Int):AV:=bq r
def bY (r:Bool):AV:=BL r
def tG (r:aD):AV:=ST r
def TP (r:bz×Bool):AV:=.dF [V4 r.1.a r.1.b r.1.c r.1.d,BL r.2]
def Node.aH (t:Th) (x:Node):List D:=[.str x.name,.int .u64 x.cap.a,.int .u64 x.cap.b,.int .u64 x.cap.c,.int .u64 x.cap.d,.sl (t _ fun _=>x.labels.map bT.cells),.bool x.up]
def Place.aH (_:Th) (x:Place):List D:=[.int .u64 x.bu,.str x.node,.int .u64 x.v.a,.int .u64 x.v.b,.int .u64 x.v.c,.int .u64 x.v.d]
def QV (t:Th) (x:Node):AV:=.agg [ST x.name,az x.cap.a,az x.cap.b,az x.cap.c,az x.cap.d,SL (t _ fun _=>x.labels.map bT.cells),BL x.up]
def QW (t:Th) (r:Node×Bool):AV:=.dF [QV t r.1,BL r.2]
def ME (t:Th) (p:cO):AV:=.agg [SL (t _ fun _=>p.nodes.map Node.cells),SL (t _ fun _=>p.places.map Place.cells)]
def QX (t:Th) (r:cO×Int):AV:=.dF [ME t r.1,bq r.2]
def HX (t:Th) (l:List aD):AV:=SL (t _ fun _=>l.map aT)
def dR (_:Th) (s:aD):List D:=[.str s]
theorem Bz {t:Th} (ht:TT t) {α:Type} {l:List α} {cells cT:α→List D} {es:List (List D)} (aF:es=l.map cells) {z:Int} {i n:Nat} {x:α} {K:List D→Prop} (hx:l[i]?=some x) (hz:z=i) (hn:∀x,(cells x).length=n) (hT:∀x,cells x=cT x)
 (hK:K (cT x)):ol true (t Prop fun _=>0≤z∧z<es.length∧∀r∈es,r.length=n) (t _ fun _=>es.getD z.toNat []) K:=by
 have hi:=(List.getElem?_eq_some_iff.1 hx).1
 refine dg ht aF (by omega) (by omega) hn hT ?_
 intro y hy
 rw [hz,Int.toNat_natCast,hx] at hy
 cases hy;exact hK
theorem zb {α:Type} {l:List α} {cells:α→List D} {u:List (List D)} (hu:u=l.map cells) {row:List D} {sz b:Nat} (hn:∀x,(cells x).length=sz) (hr:row.length=sz) (hl:l.length<1000000000) (hb:b≤10000):
 (u.length+[row].length)*b≤140737488355328∧∀r∈u++[row],r.length=sz:=by
 refine ⟨?_,?_⟩
 ·rw [hu,lgM]
  exact Nat.le_trans (Nat.mul_le_mul (show l.length+[row].length≤1000000000 by simp;omega) hb) (by decide)
 intro r hr'
 rcases List.mem_append.1 hr' with h|h
 ·rw [hu] at h;obtain ⟨y,_,rfl⟩:=List.mem_map.1 h;exact hn y
 simp at h;subst h;exact hr
theorem vX {k:Nat} (h:0<k) (h2:k<9223372036854775807):IntKind.i64.wrap ((k:Int)-1)=((k-1:Nat):Int):=by rw [wrap64 (by omega) (by omega)];omega
theorem HY {t:Th} (ht:TT t) {α:Type} [Inhabited α] {l:List α} {cells cT:α→List D} {es:List (List D)} (aF:es=l.map cells) {g:Bool} {G:Prop} {z:Int} (i:Nat) {n:Nat} {K:List D→Prop} (hg:g=true→G) (hi:g=true→z=i∧i<l.length) (hn:∀x,(cells x).length=n) (hT:∀x,cells x=cT x)
 (hK:∀x,(g=true→l[i]?=some x)→K (cT x)):ol g (G∧t Prop fun _=>0≤z∧z<es.length∧∀r∈es,r.length=n) (t _ fun _=>es.getD z.toNat []) K:=by
 cases Yh:g with
 |true=>
  subst Yh
  obtain ⟨h1,h2⟩:=hi rfl
  refine QK (cT l[i]) (fun _=>⟨⟨hg rfl,?_⟩,?_⟩) (hK _ (fun _=>List.getElem?_eq_getElem h2))
  ·simp only [ht];refine ⟨by omega,by rw [aF,lgM];omega,?_⟩
   rw [aF];intro r hr;obtain ⟨y,_,rfl⟩:=List.mem_map.1 hr;exact hn y
  simp only [ht];rw [h1,aF,←hT];simp [h2]
 |false=>
  subst Yh
  exact QK (cT default) (fun h=>Bool.noConfusion h) (hK default (fun h=>Bool.noConfusion h))
theorem pO {P:Program} {G:Nat→Option (List D)} {f:Nat} {args args':List AV} {bx aG:List ax} {res:fm} (h:∀β w ok vs,aj β bx w ok args vs→aj β bx w ok args' vs) (hc:bg P G f args' bx res aG):bg P G f args bx res aG:=
 fun β w vs X cx hx=>hc β w vs X cx (h _ _ _ _ hx)
theorem MF {β:Nat→Nat} {bx:List ax} {w:World} {ok:Nat→Prop} {es:List (List D)} {u:Value} (h:ah β bx w ok (.cl es) u):ah β bx w ok (.d (.sl es)) u:=by
 simp only [ah,aK] at h ⊢
 obtain ⟨base,h1,h2⟩:=h
 exact ⟨base,_,h1,Nat.le_refl _,h2⟩
end Dem
end
section
open Go
namespace Dem
def Ps (u:Int) (b:UInt8) (j:Nat):Int:=u+(((b.toNat%128)*2^(7*j)%18446744073709551616:Nat):Int)
def je:Nat→Nat→aD→Int→Option (Int×Nat)
 |0,_,_,_=>none
 |_+1,_,[],_=>none
 |n+1,j,b::r,u=>if b.toNat<128 then some (Ps u b j,j+1) else je n (j+1) r (Ps u b j)
def rP (s:aD) (p:Int):Option (Int×Nat):=if p<0∨(s.length:Int)≤p then none else je 10 0 (s.drop p.toNat) 0
structure z8 where
 u:Int
 next:Int
 ok:Bool
def z8.no:z8:=⟨0,0,false⟩
def bD (s:aD) (p:Int):z8:=match rP s p with
 |some (u,c)=>if ej u=(s.drop p.toNat).take c then ⟨u,p+c,true⟩ else z8.no
 |none=>z8.no
theorem WX {a b i:Nat} (h:b<2^i):b ||| (2^i*a)=b+2^i*a:=by
 rw [Nat.or_comm,←Nat.two_pow_add_eq_or_of_lt h,Nat.add_comm]
end Dem
namespace Dem
theorem Zy (b:UInt8):IntKind.u8.wrap ((BitVec.ofInt IntKind.u8.bits (b.toNat:Int) &&& ~~~BitVec.ofInt IntKind.u8.bits 128).toNat:Int)=((b.toNat%128:Nat):Int):=by
 have key:∀n:Nat,n<256→IntKind.u8.wrap ((BitVec.ofInt IntKind.u8.bits (n:Int) &&& ~~~BitVec.ofInt IntKind.u8.bits 128).toNat:Int)=((n%128:Nat):Int):=by decide
 exact key _ b.toNat_lt
theorem bG (x:Int):IntKind.u64.wrap x=x%18446744073709551616:=by simp [IntKind.wrap,IntKind.signed,IntKind.bits]
theorem bZ {x:Int} (h0:-9223372036854775808≤x) (h1:x<9223372036854775808):IntKind.i64.wrap x=x:=by
 simp [IntKind.wrap,IntKind.signed,IntKind.bits];omega
theorem abC {i p:Int} {j:Nat} (hi:i=p+j) (hj:j<10):0≤IntKind.i64.wrap (7*IntKind.i64.wrap (i-p)):=by
 have e:i-p=j:=by omega
 rw [e,bZ (x:=(j:Int)) (by omega) (by omega),bZ (by omega) (by omega)];omega
theorem ze (c j:Nat) (hj:j<10):∃y,c*2^(7*j)%18446744073709551616=2^(7*j)*y∧2^(7*j)*y+2^(7*j)≤18446744073709551616:=by
 have h64:(18446744073709551616:Nat)=2^(7*j)*2^(64-7*j):=by rw [←Nat.pow_add,show 7*j+(64-7*j)=64 by omega]
 refine ⟨c%2^(64-7*j),?_,?_⟩
 ·rw [h64,Nat.mul_comm c,Nat.mul_mod_mul_left]
 rw [h64,←Nat.mul_succ];exact Nat.mul_le_mul_left _ (Nat.mod_lt _ (Nat.two_pow_pos _))
theorem Fj {u:Int} {b:UInt8} {j:Nat} (hj:j<10) (hu:0≤u∧u<2^(7*j)∧u<18446744073709551616):0≤Ps u b j∧Ps u b j<2^(7*(j+1))∧Ps u b j<18446744073709551616:=by
 obtain ⟨h0,h1,_⟩:=hu
 obtain ⟨v,rfl⟩:=Int.eq_ofNat_of_zero_le h0
 have h1:v<2^(7*j):=by exact_mod_cast h1
 obtain ⟨y,e1,e2⟩:=ze (b.toNat%128) j hj
 have h3:b.toNat%128*2^(7*j)%18446744073709551616≤127*2^(7*j):=Nat.le_trans (Nat.mod_le _ _) (Nat.mul_le_mul_right _ (by omega))
 have h4:(2:Nat)^(7*(j+1))=128*2^(7*j):=by rw [show 7*(j+1)=7+7*j by omega,Nat.pow_add]
 unfold Ps
 refine ⟨by omega,?_,by omega⟩
 have:v+b.toNat%128*2^(7*j)%18446744073709551616<2^(7*(j+1)):=by omega
 exact_mod_cast this
theorem KG {u i p:Int} {b:UInt8} {j:Nat} (hi:i=p+j) (hj:j<10) (hu:0≤u∧u<2^(7*j)∧u<18446744073709551616):
 IntKind.u64.wrap ((BitVec.ofInt IntKind.u64.bits u ||| BitVec.ofInt IntKind.u64.bits (IntKind.u64.wrap (IntKind.u64.wrap (IntKind.u8.wrap ((BitVec.ofInt IntKind.u8.bits (b.toNat:Int) &&& ~~~BitVec.ofInt IntKind.u8.bits 128).toNat:Int))*2^(min (IntKind.i64.wrap (7*IntKind.i64.wrap (i-p))).toNat IntKind.u64.bits)))).toNat:Int)=Ps u b j:=by
 have hb:=Fj (b:=b) hj hu
 obtain ⟨h0,h1,h2⟩:=hu
 have e:i-p=j:=by omega
 rw [e,bZ (x:=(j:Int)) (by omega) (by omega),bZ (x:=7*(j:Int)) (by omega) (by omega),Zy,bG ((b.toNat%128:Nat):Int)]
 have e2:(7*(j:Int)).toNat=7*j:=by omega
 have e3:min (7*j) IntKind.u64.bits=7*j:=by show min (7*j) 64=7*j;omega
 have e4:((b.toNat%128:Nat):Int)%18446744073709551616=((b.toNat%128:Nat):Int):=by omega
 rw [e2,e3,e4]
 have e5:(((b.toNat%128:Nat):Int)*2^(7*j))=((b.toNat%128*2^(7*j):Nat):Int):=by push_cast;rfl
 rw [e5,bG ((b.toNat%128*2^(7*j):Nat):Int)]
 obtain ⟨y,g1,g2⟩:=ze (b.toNat%128) j hj
 have e6:(((b.toNat%128*2^(7*j):Nat):Int))%18446744073709551616=((2^(7*j)*y:Nat):Int):=by rw [←g1];rfl
 rw [e6]
 obtain ⟨v,rfl⟩:=Int.eq_ofNat_of_zero_le h0
 have h1:v<2^(7*j):=by exact_mod_cast h1
 have e7:(BitVec.ofInt IntKind.u64.bits (v:Int) ||| BitVec.ofInt IntKind.u64.bits ((2^(7*j)*y:Nat):Int)).toNat=v+2^(7*j)*y:=by
  show (BitVec.ofInt 64 (v:Int) ||| BitVec.ofInt 64 ((2^(7*j)*y:Nat):Int)).toNat=v+2^(7*j)*y
  rw [BitVec.toNat_or,BitVec.toNat_ofInt,BitVec.toNat_ofInt,←WX h1]
  congr 1<;>omega
 rw [e7,bG]
 unfold Ps
 rw [g1]
 omega
theorem BA {s:aD} {a j n:Nat} {u:Int} (hj:a+j<s.length) (hn:0<n):
 je n j (s.drop (a+j)) u=if (s.getD (a+j) 0).toNat<128 then some (Ps u (s.getD (a+j) 0) j,j+1) else je (n-1) (j+1) (s.drop (a+(j+1))) (Ps u (s.getD (a+j) 0) j):=by
 obtain ⟨m,rfl⟩:∃m,n=m+1:=⟨n-1,by omega⟩
 rw [List.drop_eq_getElem_cons hj,je]
 have e:s.getD (a+j) 0=s[a+j]:=by simp [hj]
 rw [e];rfl
theorem KH {s:aD} {p:Int} {a j n:Nat} {u:Int} (ha:p=a) (hj:a+j<s.length) (hn:0<n) (j4:je 10 0 (s.drop a) 0=je n j (s.drop (a+j)) u) (hb:(s.getD (a+j) 0).toNat<128):
 rP s p=some (Ps u (s.getD (a+j) 0) j,j+1):=by
 rw [rP,if_neg (by omega),ha,Int.toNat_natCast,j4,BA hj hn,if_pos hb]
theorem NL {s:aD} {p:Int} {a j n:Nat} {u:Int} (ha:p=a) (hj:s.length≤a+j∨n=0) (j4:je 10 0 (s.drop a) 0=je n j (s.drop (a+j)) u):rP s p=none:=by
 rw [rP]
 split
 ·rfl
 rw [ha,Int.toNat_natCast,j4]
 rcases hj with hj|rfl
 ·rw [List.drop_eq_nil_of_le hj];cases n<;>rfl
 rfl
end Dem
namespace Dem
def nV (s:aD) (p u next:Int):z8:=if 0<next∧ej u=(s.drop p.toNat).take (next.toNat-p.toNat) then ⟨u,next,true⟩ else z8.no
theorem KI {s:aD} {p i:Int} {a j n:Nat} {u:Int} (ha:p=a) (hi:i=p+j) (hj:a+j<s.length) (hn:0<n) (j4:je 10 0 (s.drop a) 0=je n j (s.drop (a+j)) u) (hb:((s.getD i.toNat 0).toNat:Int)<128):
 bD s p=nV s p (Ps u (s.getD i.toNat 0) j) (i+1):=by
 have e0:i.toNat=a+j:=by omega
 rw [e0] at hb ⊢
 rw [bD,KH ha hj hn j4 (by omega),nV]
 have e5:(i+1).toNat-p.toNat=j+1:=by omega
 have e6:0<i+1:=by omega
 have e7:p+((j+1:Nat):Int)=i+1:=by omega
 simp only [e5,e6,true_and,e7]
end Dem
namespace Dem
theorem HZ:∀(n j:Nat) (r:aD) (u:Int) {u':Int} {c:Nat},n+j=10→(0≤u∧u<2^(7*j)∧u<18446744073709551616)→je n j r u=some (u',c)→0≤u'∧u'<18446744073709551616∧j<c∧c≤j+r.length
 |0,_,_,_,_,_,_,_,h=>by simp [je] at h
 |n+1,_,[],_,_,_,_,_,h=>by simp [je] at h
 |n+1,j,b::r,u,u',c,hn,hu,h=>by
  have hb:=Fj (b:=b) (show j<10 by omega) hu
  unfold je at h
  split at h
  ·simp only [osI,Prod.mk.injEq] at h
   obtain ⟨rfl,rfl⟩:=h
   simp only [List.length_cons];exact ⟨hb.1,hb.2.2,by omega,by omega⟩
  have:=HZ n (j+1) r _ (by omega) hb h
  simp only [List.length_cons];omega
theorem eM {s:aD} {p:Int} (h:(bD s p).ok=true):0≤p∧p<(bD s p).next∧(bD s p).next≤s.length∧0≤(bD s p).u∧(bD s p).u<18446744073709551616:=by
 unfold bD at h ⊢
 cases hw:rP s p with
 |none=>simp [hw,z8.no] at h
 |some x=>
  obtain ⟨u,c⟩:=x
  simp only [hw] at h ⊢
  split at h
  ·rename_i he
   rw [if_pos he]
   unfold rP at hw
   split at hw
   ·simp at hw
   rename_i hp
   have hp:0≤p∧p<s.length:=by omega
   have:=HZ 10 0 _ 0 rfl (by simp) hw
   simp only [List.length_drop] at this
   refine ⟨hp.1,?_,?_,this.1,this.2.1⟩<;>simp only<;>omega
  simp [z8.no] at h
structure Fk where
 t:aD
 next:Int
 ok:Bool
def Fk.no:Fk:=⟨[],0,false⟩
def aU (s:aD) (p most:Int):Fk:=
 if (bD s p).ok=true∧0≤most∧(bD s p).u≤most∧(bD s p).u≤s.length-(bD s p).next then ⟨(s.drop (bD s p).next.toNat).take (bD s p).u.toNat,(bD s p).next+(bD s p).u,true⟩ else Fk.no
theorem H6 {s:aD} {r:z8} {most:Int} (hs:s.length<9223372036854775000) (hm:most<9223372036854775808) (h0:0≤most) (h1:0≤r.next) (h2:r.next≤s.length):
 IntKind.u64.wrap (min most (IntKind.i64.wrap ((s.length:Int)-r.next)))=min most ((s.length:Int)-r.next):=by
 rw [bZ (by omega) (by omega),bG];omega
structure xO where
 v:bz
 next:Int
 ok:Bool
def xO.no:xO:=⟨bz.zero,0,false⟩
def bz.put (v:bz):Nat→Int→bz
 |0,x=>{v with a:=x}
 |1,x=>{v with b:=x}
 |2,x=>{v with c:=x}
 |_,x=>{v with d:=x}
def jS (s:aD):Nat→bz→Int→xO
 |0,v,p=>⟨v,p,true⟩
 |n+1,v,p=>if (bD s p).ok then jS s n (v.put (3-n) (bD s p).u) (bD s p).next else xO.no
def iI (s:aD) (p:Int):xO:=jS s 4 bz.zero p
end Dem
namespace Dem
theorem TQ {s:aD} {p most:Int} {r:z8} (e:r=bD s p) (gb:r.ok=true→0≤p∧p<r.next∧r.next≤s.length∧0≤r.u∧r.u<18446744073709551616) (hs:s.length<9223372036854775000) (hm:most<9223372036854775808)
 (h:(r.ok=false∨most<0)∨IntKind.u64.wrap (min most (IntKind.i64.wrap ((s.length:Int)-r.next)))<r.u):aU s p most=Fk.no:=by
 rw [aU,if_neg]
 rw [←e]
 rintro ⟨h1,h2,h3,h4⟩
 obtain ⟨g1,g2,g3,g4,g5⟩:=gb h1
 rw [H6 hs hm h2 (by omega) g3] at h
 rcases h with (h|h)|h
 ·rw [h1] at h;cases h
 ·omega
 omega
theorem QY {s:aD} {p most:Int} {r:z8} (e:r=bD s p) (gb:r.ok=true→0≤p∧p<r.next∧r.next≤s.length∧0≤r.u∧r.u<18446744073709551616) (hs:s.length<9223372036854775000) (hm:most<9223372036854775808)
 (h:(r.ok=true∧0≤most)∧r.u≤IntKind.u64.wrap (min most (IntKind.i64.wrap ((s.length:Int)-r.next)))):
 aU s p most=⟨gr s (some r.next) (some (IntKind.i64.wrap (r.next+IntKind.i64.wrap r.u))),IntKind.i64.wrap (r.next+IntKind.i64.wrap r.u),true⟩∧bS s.length (some r.next) (some (IntKind.i64.wrap (r.next+IntKind.i64.wrap r.u))):=by
 obtain ⟨⟨h1,h2⟩,h3⟩:=h
 obtain ⟨g1,g2,g3,g4,g5⟩:=gb h1
 rw [H6 hs hm h2 (by omega) g3] at h3
 rw [bZ (x:=r.u) (by omega) (by omega),bZ (by omega) (by omega)]
 refine ⟨?_,by simp only [bS];omega⟩
 rw [aU,if_pos (by rw [←e];exact ⟨h1,h2,by omega,by omega⟩),←e]
 have:(r.next+r.u).toNat-r.next.toNat=r.u.toNat:=by omega
 simp only [gr,this]
theorem nD {s:aD} {n:Nat} {v:bz} {p:Int} {r:z8} (e:r=bD s p):jS s (n+1) v p=if r.ok then jS s n (v.put (3-n) r.u) r.next else xO.no:=by rw [jS,e]
end Dem
end
section
open Go
namespace Dem
structure bB (α:Type) where
 x:α
 next:Int
 ok:Bool
def bB.nW {α:Type}:bB (List α):=⟨[],0,false⟩
def jg (s:aD) (p:Int):bB bT:=
 if (aU s p 32).ok then ⟨⟨(aU s p 32).t,(aU s (aU s p 32).next 32).t⟩,(aU s (aU s p 32).next 32).next,(aU s (aU s p 32).next 32).ok⟩
 else ⟨⟨(aU s p 32).t,[]⟩,(aU s p 32).next,(aU s p 32).ok⟩
def ia {α:Type} (get:Int→bB α):Nat→List α→Int→bB (List α)
 |0,l,p=>⟨l,p,true⟩
 |n+1,l,p=>if (get p).ok then ia get n (l++[(get p).x]) (get p).next else bB.nW
def fV {α:Type} (s:aD) (p most:Int) (get:Int→bB α):bB (List α):=
 if (bD s p).ok=true∧(bD s p).u≤most then ia get (bD s p).u.toNat [] (bD s p).next else bB.nW
theorem uD {α:Type} {get:Int→bB α} {n:Nat} {l:List α} {p:Int} {r:bB α} (e:r=get p):ia get (n+1) l p=if r.ok then ia get n (l++[r.x]) r.next else bB.nW:=by rw [ia,e]
theorem dw {s:aD} {p m:Int} (hs:s.length<9223372036854775000):0≤(aU s p m).next∧(aU s p m).next≤s.length∧(aU s p m).t.length≤s.length:=by
 unfold aU
 split
 ·rename_i h
  have:=eM h.1
  simp only [List.length_take,List.length_drop];omega
 simp [Fk.no]
theorem H7 {s:aD} {p:Int} (hs:s.length<9223372036854775000):(jg s p).next≤s.length:=by
 unfold jg;split
 ·exact (dw hs).2.1
 exact (dw hs).2.1
theorem H8 {s:aD} {p:Int} (hs:s.length<9223372036854775000):(jg s p).x.sm:=by
 have h1:=(dw (s:=s) (p:=p) (m:=32) hs).2.2
 unfold jg bT.sm;split
 ·have h2:=(dw (s:=s) (p:=(aU s p 32).next) (m:=32) hs).2.2
  exact ⟨by simp only;omega,by simp only;omega⟩
 exact ⟨by simp only;omega,by simp⟩
theorem DP {α:Type} {get:Int→bB α} {q:α→Prop} (hq:∀p,q (get p).x):∀(n:Nat) (l:List α) (p:Int),(∀x∈l,q x)→∀x∈(ia get n l p).x,q x
 |0,l,p,hl=>hl
 |n+1,l,p,hl=>by
  unfold ia;split
  ·exact DP hq n _ _ (by
    intro x hx;rcases List.mem_append.1 hx with h|h;· exact hl x h
    simp at h;subst h;exact hq p)
  simp [bB.nW]
theorem BB {α:Type} {s:aD} {p m:Int} {get:Int→bB α} {q:α→Prop} (hq:∀p,q (get p).x):∀x∈(fV s p m get).x,q x:=by
 unfold fV;split
 ·exact DP hq _ _ _ (by simp)
 simp [bB.nW]
theorem DQ {α:Type} {get:Int→bB α}:∀(n:Nat) (l:List α) (p:Int),(ia get n l p).x.length≤l.length+n
 |0,l,p=>by simp [ia]
 |n+1,l,p=>by
  unfold ia;split
  ·have:=DQ (get:=get) n (l++[(get p).x]) (get p).next;simp at this;omega
  simp [bB.nW]
theorem vY {α:Type} {s:aD} {p m:Int} {get:Int→bB α}:((fV s p m get).x.length:Int)≤max m 0:=by
 unfold fV;split
 ·rename_i h
  have:=DQ (get:=get) (bD s p).u.toNat [] (bD s p).next
  have h2:=eM h.1
  simp at this;omega
 simp [bB.nW];omega
theorem H9 {α:Type} {get:Int→bB α} {L:Int} (hL:0≤L) (hg:∀p,(get p).next≤L):∀(n:Nat) (l:List α) (p:Int),p≤L→(ia get n l p).next≤L
 |0,l,p,h=>h
 |n+1,l,p,h=>by
  unfold ia;split
  ·exact H9 hL hg n _ _ (hg p)
  exact hL
theorem MG {α:Type} {s:aD} {p m:Int} {get:Int→bB α} (hg:∀p,(get p).next≤s.length):(fV s p m get).next≤s.length:=by
 unfold fV;split
 ·rename_i h
  exact H9 (by omega) hg _ _ _ (eM h.1).2.2.1
 simp [bB.nW]
def vZ (s:aD) (p:Int):bB (List bT):=if (fV s p 8 (jg s)).ok&&pN (fV s p 8 (jg s)).x then fV s p 8 (jg s) else bB.nW
theorem DR {s:aD}:∀(n:Nat) (v:bz) (p:Int),p≤s.length→(jS s n v p).next≤s.length
 |0,v,p,h=>h
 |n+1,v,p,h=>by
  unfold jS;split
  ·rename_i h1;exact DR n _ _ (eM h1).2.2.1
  simp [xO.no]
theorem sP {s:aD} {p:Int}:(iI s p).next≤s.length:=by
 unfold iI jS;split
 ·rename_i h1;exact DR 3 _ _ (eM h1).2.2.1
 simp [xO.no]
theorem TR {s:aD} {p:Int} (hs:s.length<9223372036854775000):(vZ s p).next≤s.length:=by
 unfold vZ;split
 ·exact MG (fun p=>H7 hs)
 simp [bB.nW]
theorem TS {s:aD} {p:Int} (hs:s.length<9223372036854775000):(vZ s p).x.length<1000000000∧∀q∈(vZ s p).x,q.sm:=by
 unfold vZ;split
 ·have:=vY (s:=s) (p:=p) (m:=8) (get:=jg s)
  exact ⟨by omega,BB (fun p=>H8 hs)⟩
 simp [bB.nW]
def bB.SU:bB Node:=⟨Node.zero,0,false⟩
def gQ (s:aD) (p:Int):bB Node:=
 if !(aU s p 32).ok then bB.SU else
 if !(iI s (aU s p 32).next).ok then bB.SU else
 if !(vZ s (iI s (aU s p 32).next).next).ok then bB.SU else
 ⟨⟨(aU s p 32).t,(iI s (aU s p 32).next).v,(vZ s (iI s (aU s p 32).next).next).x,decide ((bD s (vZ s (iI s (aU s p 32).next).next).next).u=1)⟩,
  (bD s (vZ s (iI s (aU s p 32).next).next).next).next,(bD s (vZ s (iI s (aU s p 32).next).next).next).ok&&decide ((bD s (vZ s (iI s (aU s p 32).next).next).next).u≤1)⟩
def bB.WY:bB Place:=⟨⟨0,[],bz.zero⟩,0,false⟩
def lz (s:aD) (p:Int):bB Place:=
 if !(bD s p).ok then bB.WY else
 if !(aU s (bD s p).next 32).ok then bB.WY else
 ⟨⟨(bD s p).u,(aU s (bD s p).next 32).t,(iI s (aU s (bD s p).next 32).next).v⟩,(iI s (aU s (bD s p).next 32).next).next,(iI s (aU s (bD s p).next 32).next).ok⟩
theorem MH {s:aD} {p:Int}:(bD s p).next≤s.length:=by
 cases h:(bD s p).ok with
 |true=>exact (eM h).2.2.1
 |false=>
  unfold bD at h ⊢;split at h<;>rename_i h1
  ·split at h
   ·cases h
   rename_i h2;simp only [if_neg h2];simp [z8.no]
  simp [z8.no]
theorem Ia {s:aD} {p:Int}:(gQ s p).next≤s.length:=by
 unfold gQ;split;· simp [bB.SU]
 split;· simp [bB.SU]
 split;· simp [bB.SU]
 exact MH
theorem QZ {s:aD} {p:Int}:(lz s p).next≤s.length:=by
 unfold lz;split;· simp [bB.WY]
 split;· simp [bB.WY]
 exact sP
theorem Q0 {s:aD} {p:Int} (hs:s.length<9223372036854775000):(gQ s p).x.sm:=by
 have z:Node.zero.sm:=⟨by simp [Node.zero],by simp [Node.zero],by simp [Node.zero]⟩
 unfold gQ;split;· exact z
 split;· exact z
 split;· exact z
 have h1:=(dw (s:=s) (p:=p) (m:=32) hs).2.2
 have h2:=TS (s:=s) (p:=(iI s (aU s p 32).next).next) hs
 exact ⟨by simp only;omega,h2.1,h2.2⟩
def bB.BC:bB cO:=⟨⟨[],[]⟩,0,false⟩
def Ib (s:aD) (p:Int):bB cO:=
 if !(fV s p 16 (gQ s)).ok then bB.BC else
 if (fV s (fV s p 16 (gQ s)).next 256 (lz s)).ok&&nU ⟨(fV s p 16 (gQ s)).x,(fV s (fV s p 16 (gQ s)).next 256 (lz s)).x⟩
 then ⟨⟨(fV s p 16 (gQ s)).x,(fV s (fV s p 16 (gQ s)).next 256 (lz s)).x⟩,(fV s (fV s p 16 (gQ s)).next 256 (lz s)).next,true⟩ else bB.BC
structure Term where
 key:aD
 no:Bool
 fW:List aD
deriving DecidableEq
instance:Inhabited Term:=⟨⟨[],false,[]⟩⟩
def Term.cells (x:Term):List D:=[.str x.key,.bool x.no,.sl (x.fW.map aT)]
def zf:Option aD→List aD→Bool
 |_,[]=>true
 |q,v::r=>dX v&&Fi q v&&zf (some v) r
def mright (x:Term):Bool:=if zf none x.fW then dX x.key&&decide (x.fW.length≤4) else false
def pP (l:List Term):Bool:=if l.length≤4 then !(l.any fun x=>!mright x) else false
def Ic (l:List bT) (k:aD):aD×Bool:=match l.find? (fun x=>decide (x.key=k)) with
 |some x=>(x.value,true)
 |none=>([],false)
def kZ (x:Term) (l:List bT):Bool:=
 (if (Ic l x.key).2 then (if x.fW.length=0 then true else x.fW.contains (Ic l x.key).1) else false)!=x.no
def xS (x:List Term) (l:List bT):Bool:=!(x.any fun m=>!kZ m l)
def nE (x:Term):aD:=bH x.key++ej (2*x.fW.length+(if x.no then 1 else 0))++(x.fW.map bH).flatten
def BD (l:List Term):aD:=if pP l then ej l.length++(l.map nE).flatten else []
def Ie (s:aD) (p most:Int):Option (Int×Int):=if (bD s p).ok=true∧(bD s p).u≤most then some ((bD s p).u,(bD s p).next) else none
def v7 (s:aD) (p:Int):Option (aD×Int):=if (aU s p 32).ok then some ((aU s p 32).t,(aU s p 32).next) else none
def jU (s:aD):Nat→List aD→Int→Option (List aD×Int)
 |0,l,p=>some (l,p)
 |n+1,l,p=>match v7 s p with
  |some (x,q)=>jU s n (l++[x]) q
  |none=>none
def BE (s:aD) (p:Int):Option (Term×Int):=match v7 s p with
 |none=>none
 |some (k,q)=>match Ie s q 9 with
  |none=>none
  |some (n,r)=>match jU s (n.toNat / 2) [] r with
   |none=>none
   |some (l,e)=>some (⟨k,decide (n%2=1),l⟩,e)
def jV (s:aD):Nat→List Term→Int→Option (List Term×Int)
 |0,l,p=>some (l,p)
 |n+1,l,p=>match BE s p with
  |some (x,q)=>jV s n (l++[x]) q
  |none=>none
def DS (s:aD) (p:Int):Option (List Term×Int):=match Ie s p 4 with
 |none=>none
 |some (n,q)=>match jV s n.toNat [] q with
  |none=>none
  |some (l,e)=>if pP l then some (l,e) else none
abbrev bz.u' (v:bz):Prop:=(0≤v.a∧v.a<18446744073709551616)∧(0≤v.b∧v.b<18446744073709551616)∧(0≤v.c∧v.c<18446744073709551616)∧(0≤v.d∧v.d<18446744073709551616)
def BF (x y:Int):Int×Bool:=if x.toNat*y.toNat<18446744073709551616 then (((x.toNat*y.toNat:Nat):Int),true) else (0,false)
def rQ (v:bz) (n:Int):bz×Bool:=both (fun x _=>BF x n) v bz.zero
def oI (x y:Int):Int:=if x<y then -1 else if y<x then 1 else 0
def uE (a b:bz):Int:=
 if oI a.a b.a≠0 then oI a.a b.a else if oI a.b b.b≠0 then oI a.b b.b else if oI a.c b.c≠0 then oI a.c b.c else oI a.d b.d
structure bX where
 id:Int
 prio:Int
deriving DecidableEq
instance:Inhabited bX:=⟨⟨0,0⟩⟩
def bX.cells (q:bX):List D:=[.int .u64 q.id,.int .i64 q.prio]
def cV (a b:bX):Bool:=decide (b.prio<a.prio)||(decide (a.prio=b.prio)&&decide (a.id<b.id))
def xV (l:List bX) (e:bX):Nat:=match l.findIdx? (fun x=>cV e x) with
 |some k=>k
 |none=>l.length
def gF (l:List bX) (id:Int):Int:=idxOf (fun x=>decide (x.id=id)) l
def gG (e:bX):Bool:=decide (e.prio<0)||decide (9<e.prio)
def jI (l:List bX) (e:bX):List bX×Int:=
 if gG e then (l,1) else if 0≤gF l e.id then (l,8) else if 32≤l.length then (l,9) else
 (l.take (xV l e)++e::l.drop (xV l e),0)
def BG (l:List bX) (id:Int):List bX×Bool:=match l.findIdx? (fun x=>decide (x.id=id)) with
 |some k=>(l.eraseIdx k,true)
 |none=>(l,false)
def NM (q:Option bX) (e:bX):Bool:=match q with|none=>true|some q=>cV q e
def jh (all:List bX):Option bX→Nat→List bX→Bool
 |_,_,[]=>true
 |q,k,e::r=>!gG e&&decide (gF all e.id=k)&&NM q e&&jh all (some e) (k+1) r
def nX (l:List bX):Bool:=jh l none 0 l&&decide (l.length≤32)
def bP (c:UInt8):aD→List aD
 |[]=>[[]]
 |x::xs=>if x=c then []::bP c xs else match bP c xs with
  |h::r=>(x::h)::r
  |[]=>[[x]]
theorem pQ (c:UInt8):∀s:aD,(bP c s).length=s.count c+1
 |[]=>rfl
 |x::xs=>by
  have ih:=pQ c xs
  unfold bP
  by_cases h:x=c
  ·simp [h,ih]
  simp only [h,if_false,List.count_cons,beq_iff_eq]
  split<;>simp_all
theorem DT (c:UInt8) (s:aD):bP c s≠[]:=fun h=>by have:=pQ c s;rw [h] at this;simp at this
theorem rR (c:UInt8):∀s:aD,Lib.indexByte s c<0→bP c s=[s]
 |[],_=>rfl
 |x::xs,h=>by
  have hg:=Lib.indexByte_ge xs c
  unfold Lib.indexByte at h
  have hx:x≠c:=by rintro rfl;simp at h
  have h2:Lib.indexByte xs c<0:=by
   simp only [beq_iff_eq,hx,if_false] at h
   split at h
   ·omega
   omega
  simp [bP,hx,rR c xs h2]
theorem zg (c:UInt8):∀(s:aD) (j:Nat),Lib.indexByte s c=j→j<s.length∧bP c s=s.take j::bP c (s.drop (j+1))∧s.count c=(s.drop (j+1)).count c+1
 |[],j,h=>by simp [Lib.indexByte] at h
 |x::xs,j,h=>by
  have hg:=Lib.indexByte_ge xs c
  unfold Lib.indexByte at h
  by_cases hx:x=c
  ·simp only [beq_iff_eq,hx,if_true] at h
   have:j=0:=by omega
   subst this;simp [bP,hx]
  simp only [beq_iff_eq,hx,if_false] at h
  split at h
  ·omega
  obtain ⟨i,rfl⟩:∃i,j=i+1:=⟨j-1,by omega⟩
  obtain ⟨h1,h2,h3⟩:=zg c xs i (by omega)
  refine ⟨by simp;omega,?_,?_⟩
  ·simp [bP,hx,h2]
  simp [hx,h3]
theorem Fl {s:aD} {r:Int} (h:r=Lib.indexByte s 47) (h0:r<0):s.count 47=0:=by
 have e:=pQ 47 s
 rw [rR 47 s (h▸h0)] at e
 simp at e;simpa using e
theorem Fm {s:aD} {r:Int} (h:r=Lib.indexByte s 47) (h0:0≤r):∃j:Nat,r=j∧j<s.length∧bP 47 s=s.take j::bP 47 (s.drop (j+1))∧s.count 47=(s.drop (j+1)).count 47+1:=by
 obtain ⟨j,rfl⟩:=Int.eq_ofNat_of_zero_le h0
 obtain ⟨h1,h2,h3⟩:=zg 47 s j h.symm
 exact ⟨j,rfl,h1,h2,h3⟩
theorem BH {s:aD} (h:s.count 47=0):bP 47 s=[s]:=by
 refine rR 47 s (Int.not_le.1 fun h0=>?_)
 obtain ⟨j,_,_,_,e⟩:=Fm rfl h0
 omega
def fc (l:List aD):aD:=Lib.join l [47]
def parts (s:aD):List aD:=if decide (3<(bP 47 s).length)||(bP 47 s).any (fun n=>!dX n) then [] else bP 47 s
def mW (s:aD):List aD:=(List.range (parts s).length).map fun k=>fc ((parts s).take (k+1))
def mX (a b:aD):Bool:=(mW b).contains a
def named (p:aD):Bool:=decide (p=[])||mX p p
def above (p:aD):List aD:=[]::mW p
def parent (p:aD):aD:=(above p).getD ((above p).length-2) []
theorem jW (s:aD):(parts s).length≤3:=by
 unfold parts;split
 ·simp
 rename_i h;simp at h;omega
theorem ic (s:aD):(mW s).length=(parts s).length:=by simp [mW]
theorem tQ (x:aD) (r:List aD):Lib.joinTail [47] (x::r)=47::fc (x::r):=by
 rw [fc,Lib.join_cons];simp [Lib.joinTail]
theorem zh:∀s:aD,fc (bP 47 s)=s
 |[]=>rfl
 |c::s=>by
  have ih:=zh s
  unfold bP
  cases e:bP 47 s with
  |nil=>exact absurd e (DT 47 s)
  |cons h r=>
   rw [e] at ih
   split
   ·rename_i hc
    show Lib.join ([]::h::r) [47]=_
    rw [Lib.join_cons,tQ,ih,hc];rfl
   show Lib.join ((c::h)::r) [47]=_
   rw [Lib.join_cons,List.cons_append,←Lib.join_cons]
   exact congrArg _ ih
theorem C1 (l:List aD) (k:Nat):(Lib.joinTail [47] (l.take k)).length≤(Lib.joinTail [47] l).length:=by
 have e:Lib.joinTail [47] l=Lib.joinTail [47] (l.take k)++Lib.joinTail [47] (l.drop k):=by
  simp only [Lib.joinTail];rw [←List.flatten_append,←List.map_append,List.take_append_drop]
 rw [e,List.length_append];omega
theorem KJ (l:List aD) (k:Nat):(fc (l.take k)).length≤(fc l).length:=by
 cases l with
 |nil=>simp
 |cons x r=>
  cases k with
  |zero=>simp [fc,Lib.join_nil]
  |succ k=>
   simp only [List.take_succ_cons,fc,Lib.join_cons,List.length_append]
   have:=C1 r k
   omega
theorem DU (s:aD) (k:Nat):(fc ((parts s).take k)).length≤s.length:=by
 refine Nat.le_trans (KJ _ k) ?_
 unfold parts
 split
 ·simp [fc,Lib.join_nil]
 rw [zh];exact Nat.le_refl _
theorem TU {s:aD} {k:Nat} (hk:k<(parts s).length):(mW s)[k]?=some (fc ((parts s).take (k+1))):=by simp [mW,hk]
theorem DV {s:aD} {k:Nat} (hk:k<(parts s).length):(mW s).take (k+1)=(mW s).take k++[fc ((parts s).take (k+1))]:=by
 have hl:k<(mW s).length:=by rw [ic];exact hk
 rw [List.take_add_one,TU hk];rfl
def MI (p:bT):aD:=bH p.key++bH p.value
def Fo (l:List bT):aD:=if pN l then ej l.length++(l.map MI).flatten else []
def C2 (n:Node):aD:=bH n.name++CX n.cap++Fo n.labels++ej (if n.up then 1 else 0)
def NN (x:Place):aD:=ej x.bu++bH x.node++CX x.v
def C3 (p:cO):aD:=ej p.nodes.length++(p.nodes.map C2).flatten++ej p.places.length++(p.places.map NN).flatten
def bz.u (v:bz):Prop:=v.a<18446744073709551616∧v.b<18446744073709551616∧v.c<18446744073709551616∧v.d<18446744073709551616
def bz.at_ (v:bz):Nat→Int
 |0=>v.a
 |1=>v.b
 |2=>v.c
 |_=>v.d
def zP (v:bz):Nat→aD
 |0=>[]
 |k+1=>zP v k++ej (v.at_ k)
theorem BI (v:bz):(CX v).length≤40:=by
 unfold CX
 have:=c6 v.a;have:=c6 v.b;have:=c6 v.c;have:=c6 v.d
 simp only [List.length_append];omega
theorem kG {α:Type} {f:α→aD} {l:List α} {k:Nat} {x:α} (h:l[k]?=some x):((l.drop k).map f).flatten=f x++((l.drop (k+1)).map f).flatten:=by
 obtain ⟨hk,rfl⟩:=List.getElem?_eq_some_iff.1 h
 rw [List.drop_eq_getElem_cons hk,List.map_cons,List.flatten_cons]
structure Ask where
 path:aD
 fQ:bz
 count:Int
 prio:Int
 dS:Int
 b9:List Term
deriving DecidableEq
instance:Inhabited Ask:=⟨⟨[],bz.zero,0,0,0,[]⟩⟩
def Ask.zero:Ask:=⟨[],bz.zero,0,0,0,[]⟩
def cW (x:Ask):bz×Bool:=rQ x.fQ (x.count%18446744073709551616)
def Q3 (n a b:Int):Bool:=decide (a≤n)&&decide (n≤b)
def cR (x:Ask):Int:=
 if !mX x.path x.path then 6 else if !Q3 x.count 1 8||!Q3 x.prio 0 9||!Q3 x.dS 1 100 then 1 else if !pP x.b9 then 2 else if !(cW x).2 then 5 else 0
def NO (x:Ask):aD:=if cR x≠0 then [] else bH x.path++CX x.fQ++ej x.count++ej x.prio++ej x.dS++BD x.b9
def fitting (l:List cu) (x:List Term):List cu:=l.filter fun s=>xS x s.labels
structure Ig where
 at_:Nat
 left:bz
 ok:Bool
def v8 (v:bz):List cu→Nat→Ig→Ig
 |[],_,b=>b
 |s::r,k,b=>v8 v r (k+1) (if (gu s.free v).2&&(!b.ok||decide (uE (gu s.free v).1 b.left<0)) then ⟨k,(gu s.free v).1,true⟩ else b)
def best (l:List cu) (v:bz):Ig:=v8 v l 0 ⟨0,bz.zero,false⟩
instance:Inhabited cu:=⟨⟨[],bz.zero,[]⟩⟩
def xX (v:bz):Nat→List cu→List aD→List aD×Bool
 |0,_,out=>(out,true)
 |n+1,l,out=>if !(best l v).ok then ([],false) else
  xX v n (l.set (best l v).at_ {l.getD (best l v).at_ default with free:=(best l v).left}) (out++[(l.getD (best l v).at_ default).node])
def fit (l:List cu) (x:List Term) (v:bz) (count:Int):List aD×Bool:=
 if 8<count then ([],false) else xX v (max count 0).toNat (fitting l x) []
structure aR where
 path:aD
 dc:bz
 used:bz
deriving DecidableEq
abbrev aR.cells (e:aR):List D:=[.str e.path,.int .u64 e.dc.a,.int .u64 e.dc.b,.int .u64 e.dc.c,.int .u64 e.dc.d,.int .u64 e.used.a,.int .u64 e.used.b,.int .u64 e.used.c,.int .u64 e.used.d]
def aR.zero:aR:=⟨[],bz.zero,bz.zero⟩
instance:Inhabited aR:=⟨aR.zero⟩
def bM (t:List aR) (p:aD):Int:=idxOf (fun e=>decide (e.path=p)) t
def lA (t:List aR) (p:aD):aR×Bool:=match t.find? (fun e=>decide (e.path=p)) with
 |some e=>(e,true)
 |none=>(aR.zero,false)
def we (t:List aR) (p:aD) (v:bz):List aR×Int:=
 if !named p then (t,6) else
 if !decide (p=[])&&decide (bM t (parent p)<0) then (t,7) else
 if decide (bM t p<0)&&decide (16≤t.length) then (t,9) else
 match t.findIdx? (fun e=>decide (e.path=p)) with
 |some k=>if !mU ((t.getD k aR.zero).used) v then (t,10) else (t.set k {t.getD k aR.zero with dc:=v},0)
 |none=>match t.findIdx? (fun e=>!Op.bytesLess e.path p) with
  |some k=>(t.take k++⟨p,v,bz.zero⟩::t.drop k,0)
  |none=>(t++[⟨p,v,bz.zero⟩],0)
def gm (v:bz) (e:aR):aR×Int:=
 if !(gT e.used v).2 then (e,5) else if !mU (gT e.used v).1 e.dc then (e,10) else ({e with used:=(gT e.used v).1},0)
def ek (v:bz) (e:aR):aR×Int:=
 if !(gu e.used v).2 then (e,15) else ({e with used:=(gu e.used v).1},0)
def jX (f:aR→aR×Int) (t:List aR):List aD→List aR→List aR×Int
 |[],out=>(out,0)
 |p::r,out=>if (f (t.getD (bM t p).toNat aR.zero)).2≠0 then (t,(f (t.getD (bM t p).toNat aR.zero)).2) else jX f t r (out.set (bM t p).toNat (f (t.getD (bM t p).toNat aR.zero)).1)
def qp (f:aR→aR×Int) (t:List aR) (p:aD):List aR×Int:=
 if !named p then (t,6) else if (above p).any (fun q=>decide (bM t q<0)) then (t,7) else jX f t (above p) t
def iv (t:List aR) (p:aD) (v:bz):List aR×Int:=qp (gm v) t p
def sQ (t:List aR) (p:aD) (v:bz):List aR×Int:=qp (ek v) t p
def qq (p:aD):List aR→bz→Option bz
 |[],s=>some s
 |x::r,s=>if x.path=[] then qq p r s else if parent x.path≠p then qq p r s else if (gT s x.used).2 then qq p r (gT s x.used).1 else none
def k9 (l:List aR) (e:aR):Bool:=match qq e.path l bz.zero with
 |none=>false
 |some s=>mU e.used e.dc&&mU s e.used
def eO (all:List aR):Option aD→List aR→Bool
 |_,[]=>true
 |none,e::r=>eO all (some e.path) r
 |some q,e::r=>!sle e.path q&&named e.path&&!decide (bM all (parent e.path)<0)&&eO all (some e.path) r
def gU (l:List aR):Bool:=
 if l.length<1 then false else if 16<l.length then false else if (l.getD 0 aR.zero).path≠[] then false else eO l none l&&!(l.any fun e=>!k9 l e)
def MJ (e:aR):aD:=bH e.path++CX e.dc++CX e.used
def Ih (l:List aR):aD:=ej l.length++(l.map MJ).flatten
def bB.TV:bB aR:=⟨aR.zero,0,false⟩
def xY (s:aD) (p:Int):bB aR:=
 if !(aU s p 98).ok then bB.TV else
 if !(iI s (aU s p 98).next).ok then bB.TV else
 ⟨⟨(aU s p 98).t,(iI s (aU s p 98).next).v,(iI s (iI s (aU s p 98).next).next).v⟩,(iI s (iI s (aU s p 98).next).next).next,(iI s (iI s (aU s p 98).next).next).ok⟩
def lB (s:aD):Nat→List aR→Int→bB (List aR)
 |0,l,p=>⟨l,p,true⟩
 |n+1,l,p=>if !(xY s p).ok then bB.nW else if decide ((xY s p).x=aR.zero)&&decide (0<l.length) then bB.nW else lB s n (l++[(xY s p).x]) (xY s p).next
def BJ (s:aD) (p:Int):bB (List aR):=
 if !(bD s p).ok then bB.nW else if 16<(bD s p).u then bB.nW else
 if !(lB s (bD s p).u.toNat [] (bD s p).next).ok then bB.nW else
 if !gU (lB s (bD s p).u.toNat [] (bD s p).next).x then bB.nW else
 ⟨(lB s (bD s p).u.toNat [] (bD s p).next).x,(lB s (bD s p).u.toNat [] (bD s p).next).next,true⟩
def left (name:aD) (ps:List Place) (v:bz×Bool):bz×Bool:=ps.foldl (dD name) v
def T4:aD:=[122,111,110,101]
def lC (p:cO) (bu:Int):cO:=⟨p.nodes,p.places.filter (fun x=>!decide (x.bu=bu))⟩
structure Jb where
 id:Int
 x:Ask
 runs:Bool
 left:Int
deriving DecidableEq
def Jb.zero:Jb:=⟨0,Ask.zero,false,0⟩
instance:Inhabited Jb:=⟨Jb.zero⟩
structure bU where
 round:Int
 id:Int
 kind:Int
deriving DecidableEq
instance:Inhabited bU:=⟨⟨0,0,0⟩⟩
structure qG where
 first:Int
 l:List bU
deriving DecidableEq
structure cH where
 round:Int
 next:Int
 aW:cO
 tree:List aR
 aI:List Jb
 queue:List bX
 ev:qG
 au:qG
def bU.cells (n:bU):List D:=[.int .u64 n.round,.int .u64 n.id,.int .i64 n.kind]
def Jb.cells (j:Jb):List D:=[.int .u64 j.id,.str j.x.path,.int .u64 j.x.fQ.a,.int .u64 j.x.fQ.b,.int .u64 j.x.fQ.c,.int .u64 j.x.fQ.d,.int .i64 j.x.count,.int .i64 j.x.prio,.int .i64 j.x.dS,.sl (j.x.b9.map Term.cells),.bool j.runs,.int .i64 j.left]
def cH.zero:cH:=⟨0,0,⟨[],[]⟩,[],[],[],⟨0,[]⟩,⟨0,[]⟩⟩
def T7:cH:={cH.zero with next:=1,tree:=[⟨[],bz.zero,bz.zero⟩]}
def KR (l:List Jb) (id:Int):Int:=idxOf (fun j=>decide (j.id=id)) l
def eH (l:List Jb) (id:Int):Jb×Bool:=match l.find? (fun j=>decide (j.id=id)) with
 |some j=>(j,true)
 |none=>(Jb.zero,false)
def u64 (n:Int):Int:=n%18446744073709551616
def tell (x:qG) (n:bU):qG:=if 32<(x.l++[n]).length then ⟨u64 (x.first+1),(x.l++[n]).drop 1⟩ else ⟨x.first,x.l++[n]⟩
def wg (first f:Int):List bU→Nat→List bU×Int→List bU×Int
 |[],_,r=>r
 |n::l,k,r=>wg first f l (k+1) (if decide (f≤u64 (first+k))&&decide (r.1.length<8) then (r.1++[n],u64 (u64 (first+k)+1)) else r)
def tU (x:qG) (f:Int):List bU×Int:=wg x.first f x.l 0 ([],max f x.first)
def gV (t:List aR) (p:aD):Bool:=!((mW p++[[]]).any fun q=>!(lA t q).2)
def fO (s:cH) (id kind:Int):cH:={s with ev:=tell s.ev ⟨s.round,id,kind⟩}
def eA (s:cH) (x:Ask):cH×Int×Int:=
 if cR x≠0 then (s,0,cR x) else
 if !gV s.tree x.path then (s,0,7) else
 if 32≤s.aI.length∨s.next=18446744073709551615 then (s,0,9) else
 if (jI s.queue ⟨s.next,x.prio⟩).2≠0 then (s,0,(jI s.queue ⟨s.next,x.prio⟩).2) else
 (fO {s with queue:=(jI s.queue ⟨s.next,x.prio⟩).1,aI:=s.aI++[⟨s.next,x,false,0⟩],next:=u64 (s.next+1)} s.next 1,s.next,0)
def D1 (s:cH) (k:Nat) (j:Jb):cH:={s with aI:=s.aI.set k j}
def j9 (s:cH) (k:Nat) (j:Jb) (id:Int) (nodes:List aD):cH×Int:=
 if j.runs then (s,15) else if (nodes.length:Int)≠j.x.count then (s,1) else
 if !(cW j.x).2 then (s,5) else
 if (iv s.tree j.x.path (cW j.x).1).2≠0 then (s,(iv s.tree j.x.path (cW j.x).1).2) else
 if (xM s.aW id nodes j.x.fQ).2≠0 then (s,(xM s.aW id nodes j.x.fQ).2) else
 (fO (D1 {s with tree:=(iv s.tree j.x.path (cW j.x).1).1,aW:=(xM s.aW id nodes j.x.fQ).1,queue:=(BG s.queue id).1} k {j with runs:=true,left:=j.x.dS}) id 2,0)
def cw (s:cH) (id:Int) (nodes:List aD):cH×Int:=match s.aI.findIdx? (fun j=>decide (j.id=id)) with
 |none=>(s,7)
 |some k=>j9 s k (s.aI.getD k Jb.zero) id nodes
def nF (s:cH) (j:Jb):cH:=
 {s with tree:=(if (cW j.x).2 then (sQ s.tree j.x.path (cW j.x).1).1 else s.tree),aW:=lC s.aW j.id}
def jJ (s:cH) (id kind:Int):cH×Int:=match s.aI.findIdx? (fun j=>decide (j.id=id)) with
 |none=>(s,7)
 |some k=>if !(s.aI.getD k Jb.zero).runs then (s,15) else
  (fO (D1 {nF s (s.aI.getD k Jb.zero) with queue:=(jI s.queue ⟨id,(s.aI.getD k Jb.zero).x.prio⟩).1} k {s.aI.getD k Jb.zero with runs:=false,left:=0}) id kind,0)
def send (s:cH) (id kind:Int):cH×Int:=match s.aI.findIdx? (fun j=>decide (j.id=id)) with
 |none=>(s,7)
 |some k=>(fO {(if (s.aI.getD k Jb.zero).runs then nF s (s.aI.getD k Jb.zero) else {s with queue:=(BG s.queue id).1}) with aI:=s.aI.eraseIdx k} id kind,0)
end Dem
end
section
open Go Go.Proofs Go.ChangeShapes Go.WideShapes Go.RowKit
namespace Dem
theorem trodAll_nil {H:Type} {enc:TypeId×Value→H} {P:Program} {W:World} {vs:List Value} {ds:List (DataW H)} {ps:List MemPlace} (h:DataW.TrodAll enc P W 0 (fun _=>true) true [] vs ds ps):vs=[]∧ds=[]:=by
 cases vs with
 |nil=>cases ds with
  |nil=>exact ⟨rfl,rfl⟩
  |cons d ds=>exact h.elim
 |cons v vs=>cases ds<;>exact h.elim
theorem trodAll_cons {H:Type} {enc:TypeId×Value→H} {P:Program} {W:World} {t:TypeId} {ts:List TypeId} {vs:List Value} {ds:List (DataW H)} {ps:List MemPlace} (h:DataW.TrodAll enc P W 0 (fun _=>true) true (t::ts) vs ds ps):
 ∃v vs' d ds' p q,vs=v::vs'∧ds=d::ds'∧DataW.Trod enc P W 0 (fun _=>true) true t v d p∧DataW.TrodAll enc P W 0 (fun _=>true) true ts vs' ds' q:=by
 cases vs with
 |nil=>cases ds<;>exact h.elim
 |cons v vs=>cases ds with
  |nil=>exact h.elim
  |cons d ds=>
   obtain ⟨p,q,h1,h2,rfl⟩:=h
   exact ⟨v,vs,d,ds,p,q,rfl,rfl,h1,h2⟩
section
variable {H:Type} {enc:TypeId×Value→H} {W:World} {v:Value} {d:DataW H} {p:List MemPlace} {base:Nat}
abbrev okW (W:World):Nat→Prop:=be (fun _=>0) [] W (fun _=>False)
theorem KT (W:World):∀aB,aB<W.heap.size→okW W aB:=fun aB hb=>⟨hb,fun h=>h,fun i b hb=>by simp at hb⟩
theorem Ab {α:Type} {cells:α→List D} {Q:α→Prop}:∀(es:List (List D)),(∀r∈es,∃x,r=cells x∧Q x)→∃l:List α,es=l.map cells∧∀x∈l,Q x
 |[],_=>⟨[],rfl,by simp⟩
 |r::es,h=>by
  obtain ⟨x,rfl,hx⟩:=h r (by simp)
  obtain ⟨l,rfl,hl⟩:=Ab es (fun r hr=>h r (by simp [hr]))
  exact ⟨x::l,rfl,fun y hy=>by rcases List.mem_cons.1 hy with rfl|hy;exact hx;exact hl y hy⟩
end
end Dem
end
section
namespace Dem
theorem wh {es:List (List D)} {row z:List D} {i:Nat} (h:i≤es.length):wrote (wrote (es.take i++List.replicate (es.length+1-i) z) i [row]) (i+1) (es.drop i)=es.take i++row::es.drop i:=by
 have hl:(es.take i).length=i:=by simp;omega
 have e1:wrote (es.take i++List.replicate (es.length+1-i) z) i [row]=es.take i++row::List.replicate (es.length-i) z:=by
  unfold wrote
  rw [List.take_left' hl,show i+[row].length=(es.take i).length+1 by rw [hl];rfl,List.drop_length_add_append,List.drop_replicate]
  simp;omega
 rw [e1]
 unfold wrote
 rw [show i+1=(es.take i).length+1 by rw [hl],List.take_length_add_append]
 have e2:List.drop ((es.take i).length+1+(es.drop i).length) (es.take i++row::List.replicate (es.length-i) z)=[]:=by
  rw [List.drop_eq_nil_iff];simp;omega
 rw [e2]
 simp
theorem Fs {es:List (List D)} {row:List D} {i:Nat} (h:i<es.length):wrote (wrote es (i+1) (es.drop i)) i [row]=es.take i++row::es.drop i:=by
 have e1:wrote es (i+1) (es.drop i)=es.take (i+1)++es.drop i:=by
  unfold wrote
  have:es.drop (i+1+(es.drop i).length)=[]:=by rw [List.drop_eq_nil_iff];simp;omega
  rw [this,List.append_nil]
 rw [e1]
 unfold wrote
 have hl:(es.take (i+1)).length=i+1:=by simp;omega
 rw [List.take_append_of_le_length (by omega),List.take_take,show i+[row].length=(es.take (i+1)).length by rw [hl];rfl,List.drop_left]
 rw [Nat.min_eq_left (by omega)];simp
theorem nY:∀(xs ys:List D),ys.length=xs.length→bF xs 0 ys=ys
 |[],[],_=>by simp [bF]
 |[],_::_,h=>by simp at h
 |_::_,[],h=>by simp at h
 |x::xs,y::ys,h=>by
  simp only [bF]
  rw [nY xs ys (by simpa using h)]
theorem nZ {α:Type}:∀(l:List α) (i:Nat) (x:α),i<l.length→(l.set i x).take (i+1)=l.take i++[x]
 |[],i,x,h=>by simp at h
 |y::l,0,x,h=>by simp
 |y::l,i+1,x,h=>by
  simp only [List.set_cons_succ,List.take_succ_cons,List.cons_append]
  rw [nZ l i x (by simpa using h)]
theorem rS {α:Type}:∀(l:List α) (i j:Nat) (x:α),i<j→(l.set i x).drop j=l.drop j
 |[],i,j,x,h=>by simp
 |y::l,0,j+1,x,h=>by simp
 |y::l,i+1,j+1,x,h=>by
  simp only [List.set_cons_succ,List.drop_succ_cons]
  exact rS l i j x (by omega)
 |y::l,_,0,x,h=>by omega
end Dem
end
