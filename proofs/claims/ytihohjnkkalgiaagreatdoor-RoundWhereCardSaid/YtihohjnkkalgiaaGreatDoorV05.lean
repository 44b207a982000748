/- Parts of a proof, joined. -/
import Derived.Test.YtihohjnkkalgiaaGreatDoorV04
import Derived.Test.YtihohjnkkalgiaaGreatDoorRows
import Derived.ProofKit
import Derived.LaidMore
import Derived.OpenShut
import Derived.Carry
import Derived.Stop.Joined
import Derived.Lib.RuneCount
import Derived.Lib.Bytealg
import Derived.Lib.Join
import Derived.KernelRfl
set_option linter.all false
set_option maxRecDepth 100000
set_option maxHeartbeats 4000000
section
open Go Go.Proofs Go.ChangeShapes Go.WideShapes Go.RowKit
namespace Dem
theorem own:ownKnob Tryz.prog.godebug=none:=by kernel_rfl
theorem laidOut:laidOutB Tryz.prog=true:=by kernel_rfl
theorem PL:Tryz.prog.globalNamed "demesne/word.letters"=some 0:=by kernel_rfl
theorem Vu:Tryz.prog.globalNamed "demesne/word.marks"=some 1:=by kernel_rfl
def CS:TypeId:=236
def Lw:TypeId:=237
theorem PM:(Tryz.prog.globals[0]?).map (·.type)=some CS:=by kernel_rfl
theorem Vv:(Tryz.prog.globals[1]?).map (·.type)=some Lw:=by kernel_rfl
def aaa:DataW Unit→Value
 |.lit (.int k n)=>.int k n
 |_=>.int .u8 0
def aab:DataW Unit→List Value
 |.agg l=>l.map aaa
 |_=>[]
noncomputable def UD (os:Os):World:=
 let w0:=World.doorLaid Tryz.prog 400 os
 {w0 with heap:=w0.heap.modify 3 fun
  |.cells _ t fr=>.cells (aab YtihohjnkkalgiaaGreatDoor.Rows.laid_unicode_utf8_first).toArray t fr
  |o=>o}
abbrev vo:List (String×DataW Unit):=[("unicode/utf8.acceptRanges",YtihohjnkkalgiaaGreatDoor.Rows.laid_unicode_utf8_acceptRanges),("demesne/word.letters",YtihohjnkkalgiaaGreatDoor.Rows.laid_demesne_word_letters),("demesne/word.marks",YtihohjnkkalgiaaGreatDoor.Rows.laid_demesne_word_marks),("unicode/utf8.first",YtihohjnkkalgiaaGreatDoor.Rows.laid_unicode_utf8_first)]
theorem PN (os:Os) (args:Array Value):laidMetH Tryz.prog vo ((UD os).forCall (fun _ _=>0) ⟨#[],args,[]⟩).memory:=
 laidMetH_of_parts3 (fuel:=8) (laidMet_of_run' 8 (by kernel_rfl) (by kernel_rfl)) (by kernel_rfl) (by kernel_rfl)
theorem tyL:F9 Tryz.prog 8 CS=some [.int .i32,.int .i32,.int .i32,.int .i32,.int .i32,.int .i32]:=by kernel_rfl
theorem tyM:F9 Tryz.prog 8 Lw=some [.int .i32,.int .i32,.int .i32,.int .i32]:=by kernel_rfl
theorem Eg {w:World} {ok:Nat→Prop} {blk:Nat}:∀{ds:List D} {vs:List Value} (off:Nat),cG w ok ds vs→(∀i v,vs[i]?=some v→w.cell? ⟨blk,off+i,none⟩=some v)→aX w ok blk ds off
 |[],_,_,_,_=>by simp [aX]
 |d::ds,vs,off,h,hc=>by
  simp only [cG] at h
  obtain ⟨v,r,rfl,h1,h2⟩:=h
  simp only [aX]
  refine ⟨⟨v,hc 0 v rfl,h1⟩,Eg (off+1) h2 fun i u hu=>?_⟩
  rw [show off+1+i=off+(i+1) by omega]
  exact hc (i+1) u (by simpa using hu)
theorem GV {W:World} (h:laidMetH Tryz.prog vo W):cJ gl (fun _=>0) [] W (fun _=>False):=by
 rw [MakeChecks.laidMetH_plain _ _ _ (by kernel_rfl)] at h
 obtain ⟨ps,⟨_,_,_,_,_,_,_,_,_,_,⟨g0,t0,cs0,f0,p0,q0,Ve,ht0,Vw,Y4,⟨g1,t1,cs1,f1,p1,q1,hg1,ht1,hv1,Xf,_,_⟩,_⟩,_⟩,_,_⟩:=h
 obtain rfl:=Option.some.inj (PL.symm.trans Ve)
 obtain rfl:=Option.some.inj (Vu.symm.trans hg1)
 obtain rfl:=Option.some.inj (PM.symm.trans ht0)
 obtain rfl:=Option.some.inj (Vv.symm.trans ht1)
 have hok:∀blk,blk<W.heap.size→bg (fun _=>0) [] W (fun _=>False) blk:=fun blk hb=>⟨hb,fun h=>h,fun i b hb=>by simp at hb⟩
 obtain ⟨r0,_⟩:=uS hok 8 _ _ _ _ _ Y4 tyL
 obtain ⟨r1,_⟩:=uS hok 8 _ _ _ _ _ Xf tyM
 have c0:=fun i=>World.var?_cell Ve Vw i
 have c1:=fun i=>World.var?_cell hg1 hv1 i
 refine ⟨fun _ h=>h.elim,?_,by simp,by simp,by simp⟩
 intro g ds hg
 unfold gl at hg
 have hlt:∀{i:Nat} {a:Addr} {v:Value},W.cell? a=some v→a.block<W.heap.size:=by
  intro i a v hc
  rcases Nat.lt_or_ge a.block W.heap.size with h|h
  ·exact h
  simp [World.cell?,h] at hc
 cases e0:Nat.beq g 0 with
 |true=>
  rw [e0] at hg
  simp only [cond_true,osI] at hg
  obtain rfl:=Nat.eq_of_beq_eq_true e0
  have hrow:aX W (bg (fun _=>0) [] W (fun _=>False)) 0 ds 0:=by
   rw [←hg];exact Eg 0 r0 fun i v hv=>by rw [Nat.zero_add,c0 i];simpa using hv
  refine ⟨hok _ ?_,hrow⟩
  rw [←hg] at hrow
  simp only [aX] at hrow
  obtain ⟨⟨u,hu,_⟩,_⟩:=hrow
  exact hlt (i:=0) hu
 |false=>
  rw [e0] at hg
  simp only [cond_false] at hg
  cases e1:Nat.beq g 1 with
  |true=>
   rw [e1] at hg
   simp only [cond_true,osI] at hg
   obtain rfl:=Nat.eq_of_beq_eq_true e1
   have hrow:aX W (bg (fun _=>0) [] W (fun _=>False)) 1 ds 0:=by
    rw [←hg];exact Eg 0 r1 fun i v hv=>by rw [Nat.zero_add,c1 i];simpa using hv
   refine ⟨hok _ ?_,hrow⟩
   rw [←hg] at hrow
   simp only [aX] at hrow
   obtain ⟨⟨u,hu,_⟩,_⟩:=hrow
   exact hlt (i:=0) hu
  |false=>rw [e1] at hg;cases hg
theorem Jq {f:Nat} {args:List AV} {vs:List Value} {W:World} (hL:laidMetH Tryz.prog vo W) (he:∀args w,(callFunc f args).run Tryz.prog w=.ok (.enter f args) w)
 (hx:ak (fun _=>0) [] W (bg (fun _=>0) [] W (fun _=>False)) args vs) (h:FC f args [] (.ret (.d (.bool true))) []):
 Calls Tryz.prog f ⟨vs⟩ W fun e w'=>e=.returned (.bool true)∧RowKit.Below W.heap.size W w':=by
 have hc:=h (fun _=>0) W vs (fun _=>False) (GV hL) hx
 rcases hc with ⟨_,hc⟩|⟨v,w',hc,_⟩
 ·refine hc.mono ?_
  rintro e w' ⟨β',ex,_,hr⟩
  cases e with
  |returned u=>
   simp only [mh,aj,aL] at hr
   subst hr
   exact ⟨rfl,⟨ex.os,ex.tape,ex.output,ex.size,fun k hk=>ex.block k hk (by simp)⟩⟩
  |_=>exact hr.elim
 rw [he] at hc;cases hc
theorem Cc {H:Type} {enc:TypeId×Value→H} {P:Program} (hl:laidOutB P=true) {W W':World} (hb:RowKit.Below W.heap.size W W'):∀(ts:List TypeId) (vs:List Value) (ds:List (DataW H)) (ps:List MemPlace),(ts.all fun t=>P.readableRec t&&decide (t<P.types.size))=true→
 (∀x∈ps,x.block<W.heap.size)→DataW.TrodAll enc P W 0 (fun _=>true) true ts vs ds ps→DataW.TrodAll enc P W' 0 (fun b=>decide (b<W.heap.size)) true ts vs ds ps:=by
 intro ts
 induction ts with
 |nil=>
  intro vs ds ps _ _ h
  cases vs with
  |nil=>cases ds with
   |nil=>exact h
   |cons d ds=>exact h.elim
  |cons v vs=>cases ds<;>exact h.elim
 |cons t ts ih=>
  intro vs ds ps ht hlt h
  cases vs with
  |nil=>cases ds<;>exact h.elim
  |cons v vs=>cases ds with
   |nil=>exact h.elim
   |cons d ds=>
    obtain ⟨p,q,h1,h2,rfl⟩:=h
    simp only [List.all_cons,Bool.and_eq_true,decide_eq_true_eq] at ht
    exact ⟨p,q,RowKit.Below.trod hl ht.1.1 ht.1.2 h1 hb (fun x hx=>hlt x (List.mem_append_left _ hx)),ih vs ds q ht.2 (fun x hx=>hlt x (List.mem_append_right _ hx)) h2,rfl⟩
theorem GW {H:Type} {enc:TypeId×Value→H} {P:Program} {W:World}:∀(ts:List TypeId) (vs:List Value) (ds:List (DataW H)) (ps:List MemPlace),DataW.TrodAll enc P W 0 (fun _=>true) true ts vs ds ps→ds.length=ts.length:=by
 intro ts
 induction ts with
 |nil=>
  intro vs ds ps h
  cases vs with
  |nil=>cases ds with
   |nil=>rfl
   |cons d ds=>exact h.elim
  |cons v vs=>cases ds<;>exact h.elim
 |cons t ts ih=>
  intro vs ds ps h
  cases vs with
  |nil=>cases ds<;>exact h.elim
  |cons v vs=>cases ds with
   |nil=>exact h.elim
   |cons d ds=>obtain ⟨_,_,_,h2,_⟩:=h;simp [ih _ _ _ h2]
theorem Cd {W W':World} (hb:RowKit.Below W.heap.size W W') (may:MemPlace→Prop):W.keptBut W' may:=by
 refine ⟨hb.os,hb.output,fun i hi=>?_⟩
 rw [hb.block i hi]
 generalize W.heap[i]?=o
 cases o with
 |none=>rfl
 |some o=>cases o<;>first|exact ⟨rfl,rfl,rfl,fun _ _=>rfl⟩|exact .inr ⟨rfl,rfl⟩|rfl
theorem X9:Tryz.prog.underlying 4=some .bool:=by kernel_rfl
theorem MJ {H:Type} {enc:TypeId×Value→H} {os:Os} (started:os.Started) {F:FuncId} {fn:Func} {s:ChangeSpec} (hfn:Tryz.checked.prog.funcs[F]?=some fn) (hni:Tryz.checked.prog.inits.idxOf? F=none) (hv:s.vars=[]) (hrt:fn.resultTypes=#[4])
 (hts:(fn.params.toList.all fun t=>Tryz.prog.readableRec t&&decide (t<Tryz.prog.types.size))=true)
 (hs:∀ds:List (DataW H),ds.length=fn.params.toList.length→(s.fn H ds).results=[.lit (.bool true)]∧(s.fn H ds).args=ds∧(s.fn H ds).vars=[])
 (witness:∃(w:World) (tape:Tape) (i:Input),w.os=os∧(w.forCall tape i).Shaped Tryz.checked.prog∧i.vars=[]∧Input.okWide Tryz.checked.prog (w.forCall tape i) .any w.heap.size F i∧
  ((s.pre enc Tryz.checked.prog fn [] false (w.forCall tape i).memory i.args∧laidMetH Tryz.prog vo (w.forCall tape i).memory)∧sizedMet enc Tryz.checked.prog fn (OpenSpec.ofChange s) false (w.forCall tape i).memory i.args)∧({}:Assume).holds Tryz.checked.prog (lone (Frame.enter Tryz.checked.prog F i.args .normal) [] (w.forCall tape i)))
 (Vx:∀(W:World) (args:Array Value) (ds:List (DataW H)) (p:List MemPlace),laidMetH Tryz.prog vo W→DataW.TrodAll enc Tryz.prog W 0 (fun _=>true) true fn.params.toList args.toList ds p→
  (∀(j:Nat) t v,fn.params[j]?=some t→args[j]?=some v→∃base,Value.okWide Tryz.prog W .any base t v)→
  Calls Tryz.prog F args W fun e w'=>e=.returned (.bool true)∧RowKit.Below W.heap.size W w'):
 ReturnsInHanded {} Tryz.checked os F .any (fun w args=>(s.pre enc Tryz.checked.prog fn [] false w args∧laidMetH Tryz.prog vo w)∧sizedMet enc Tryz.checked.prog fn (OpenSpec.ofChange s) false w args) (s.post enc Tryz.checked.prog fn false true false false):=by
 refine returnsInHanded_of_change_and (C:=Tryz.checked) (X:=fun w _=>laidMetH Tryz.prog vo w) (fun _ _ _ hh h=>h.of_heap hh) own started hni hfn witness ?_
 intro W base args ds gs before hval hW _ _ hL _
 have hW':=hW
 obtain ⟨p,q,hA,hV,rfl,hfz,hnd⟩:=hW
 rw [hv] at hV
 obtain ⟨rfl,rfl⟩:=trodVars_none hV
 have hlen:ds.length=fn.params.toList.length:=GW _ _ _ _ hA
 obtain ⟨s1,s2,s3⟩:=hs ds hlen
 refine (Vx W args ds p hL hA (fun j t v h1 h2=>⟨base,hval j t v h1 h2⟩)).mono fun e w' ⟨he,hb⟩=>?_
 refine ⟨.bool true,he,ds,[],p++[],[],p,[],hW',?_,?_,?_,Cd hb _,fun h=>by cases h⟩
 ·rw [List.append_nil,s1,hrt]
  exact trodAll_mk1 (shut_bool X9 _)
 ·rw [List.append_nil,s2]
  exact Cc laidOut hb _ _ _ _ hts (fun x hx=>hW'.lt x (by simpa using hx)) hA
 rw [List.append_nil,s3,hv]
 rfl
end Dem
end
section
open Go
namespace Dem
def dec (s:aI) (pos:Nat):Nat×Nat:=Utf8.decode ⟨s.toArray⟩ pos
theorem Lx (s:aI) (pos:Nat) (h:pos<s.length):1≤(dec s pos).2:=Lib.decode_width_pos _ pos (by show pos<s.toArray.size;simpa using h)
def iK (s:aI):Nat→Nat→List (Nat×Nat)
 |0,_=>[]
 |n+1,pos=>if pos<s.length then (pos,(dec s pos).1)::iK s n (pos+(dec s pos).2) else []
def CT (s:aI):List (Nat×Nat):=iK s s.length 0
def Eh:List (Int×Int):=[(97,122),(945,969),(1072,1103)]
def marks:List (Int×Int):=[(48,57),(45,45)]
def GX (r:Int) (l:List (Int×Int)):Bool:=l.any fun x=>decide (x.1≤r)&&decide (r≤x.2)
def qy (s:aI):Nat:=(CT s).length
def Vy (x:Nat×Nat):Bool:=GX x.2 Eh||(!decide (x.1=0)&&GX x.2 marks)
def dY (s:aI):Bool:=(CT s).all Vy&&!decide (s=[])&&decide (qy s≤16)
theorem AJ (s:aI):∀(n pos:Nat),(iK s n pos).length≤n
 |0,_=>by simp [iK]
 |n+1,pos=>by
  unfold iK;split
  ·simp;exact AJ s n _
  simp
structure dh where
 key:aI
 value:aI
deriving DecidableEq
abbrev dh.cells (p:dh):List D:=[.str p.key,.str p.value]
def sle (x y:aI):Bool:=Op.bytesLess x y||decide (x=y)
def jG:Option aI→List dh→Bool
 |_,[]=>true
 |q,p::r=>dY p.key&&dY p.value&&(match q with|none=>true|some q=>!sle p.key q)&&jG (some p.key) r
def tM (l:List dh):Bool:=jG none l&&decide (l.length≤8)
def lJ (l:List dh) (k:Nat):Option aI:=match k with
 |0=>none
 |k+1=>(l[k]?).map (·.key)
def dh.sm (p:dh):Prop:=p.key.length<9223372036854775807∧p.value.length<9223372036854775807
structure Node where
 name:aI
 cap:bG
 labels:List dh
 up:Bool
structure Place where
 bz:Int
 node:aI
 v:bG
abbrev Node.cells (x:Node):List D:=[.str x.name,.int .u64 x.cap.a,.int .u64 x.cap.b,.int .u64 x.cap.c,.int .u64 x.cap.d,.sl (x.labels.map dh.cells),.bool x.up]
abbrev Place.cells (x:Place):List D:=[.int .u64 x.bz,.str x.node,.int .u64 x.v.a,.int .u64 x.v.b,.int .u64 x.v.c,.int .u64 x.v.d]
theorem nX {α:Type} {p:α→Bool} {l:List α} (h:idxOf p l=-1):∀x∈l,p x=false:=by
 unfold idxOf at h
 split at h
 ·omega
 rename_i hn
 rw [List.findIdx?_eq_none_iff] at hn
 exact fun x hx=>by simpa using hn x hx
theorem nY {α:Type} {p:α→Bool} {l:List α} (h:idxOf p l≠-1):∃(i:Nat) (x:α),idxOf p l=i∧l[i]?=some x∧p x=true∧∀y∈l.take i,p y=false:=by
 unfold idxOf at h ⊢
 split at h
 ·rename_i k hk
  obtain ⟨hlt,hp,hb⟩:=List.findIdx?_eq_some_iff_getElem.1 hk
  refine ⟨k,l[k],rfl,by simp [hlt],hp,?_⟩
  intro y hy
  obtain ⟨j,hj⟩:=List.getElem?_of_mem hy
  rw [List.getElem?_take] at hj
  split at hj
  ·rename_i U3
   have hjl:j<l.length:=by omega
   rw [List.getElem?_eq_getElem hjl] at hj
   cases hj
   simpa using hb j U3
  cases hj
 exact absurd rfl h
theorem filter_all {α:Type} {p:α→Bool} {l:List α} (h:∀x∈l,p x=false):l.filter (fun x=>!p x)=l:=by
 rw [List.filter_eq_self]
 intro x hx;rw [h x hx];rfl
theorem dy {α:Type} {l:List α} {i:Nat} {x:α} (h:l[i]?=some x):l.take (i+1)=l.take i++[x]:=by
 rw [List.take_add_one,h];rfl
def Node.zero:Node:=⟨[],bG.zero,[],false⟩
def dM (name:aI) (l:List Node):Node×Bool:=match l.find? (fun x=>decide (x.name=name)) with
 |some x=>(x,true)
 |none=>(Node.zero,false)
theorem MK {name:aI} {l:List Node} (h:idxOf (fun x=>decide (x.name=name)) l=-1):dM name l=(Node.zero,false):=by
 have hn:=nX h
 have:l.find? (fun x=>decide (x.name=name))=none:=by rw [List.find?_eq_none];intro x hx;rw [hn x hx];simp
 unfold dM;rw [this]
theorem Ei {α:Type} {p:α→Bool}:∀{l:List α} {i:Nat} {x:α},l[i]?=some x→p x=true→(∀y∈l.take i,p y=false)→l.find? p=some x
 |[],_,_,h,_,_=>by simp at h
 |y::r,0,x,h,hp,_=>by simp at h;subst h;simp [hp]
 |y::r,i+1,x,h,hp,hb=>by
  have hy:p y=false:=hb y (by simp)
  simp only [List.getElem?_cons_succ] at h
  rw [List.find?_cons,hy]
  exact Ei h hp fun z hz=>hb z (by simp [hz])
theorem ML {name:aI} {l:List Node} (h:idxOf (fun x=>decide (x.name=name)) l≠-1):∃(i:Nat) (x:Node),idxOf (fun x=>decide (x.name=name)) l=i∧l[i]?=some x∧dM name l=(x,true):=by
 obtain ⟨i,x,h1,h2,h3,h4⟩:=nY h
 refine ⟨i,x,h1,h2,?_⟩
 unfold dM;rw [Ei h2 h3 h4]
def cH (name:aI) (s:bG×Bool) (x:Place):bG×Bool:=if s.2&&decide (x.node=name) then dO s.1 x.v else s
def cB (name:aI) (l:List Node) (ps:List Place):bG×Bool:=
 let s:=ps.foldl (cH name) ((dM name l).1.cap,(dM name l).2)
 if s.2 then s else (bG.zero,false)
def m8 (name:aI) (v:bG) (l:List Node) (ps:List Place):Int:=
 if !(dM name l).2 then 7 else if !(dM name l).1.up then 12 else if !(cB name l ps).2||!lg v (cB name l ps).1 then 11 else 0
def mO (bz:Int) (ps:List Place):List aI:=(ps.filter (fun x=>decide (x.bz=bz))).map (·.node)
structure cA where
 nodes:List Node
 places:List Place
deriving instance DecidableEq for Place
deriving instance DecidableEq for Node
theorem Vz {x y:bG}:x=y↔x.a=y.a∧x.b=y.b∧x.c=y.c∧x.d=y.d:=by cases x;cases y;simp
instance:Inhabited bG:=⟨bG.zero⟩
instance:Inhabited Node:=⟨Node.zero⟩
instance:Inhabited Place:=⟨⟨0,[],bG.zero⟩⟩
instance:Inhabited dh:=⟨⟨[],[]⟩⟩
theorem gW {α:Type} {l:List α} {k:Nat} {x:α} (h:l[k]?=some x):l.drop k=x::l.drop (k+1):=by
 obtain ⟨hk,rfl⟩:=List.getElem?_eq_some_iff.1 h
 exact List.drop_eq_getElem_cons hk
structure bL where
 node:aI
 free:bG
 labels:List dh
def fB (l:List Node) (bz:Int) (v:bG):List aI→List Place→Option Int×List Place
 |[],ps=>(none,ps)
 |n::r,ps=>if m8 n v l ps≠0 then (some (m8 n v l ps),ps) else fB l bz v r (ps++[⟨bz,n,v⟩])
def tN (p:cA) (bz:Int) (names:List aI) (v:bG):cA×Int:=
 match (fB p.nodes bz v names p.places).1 with
 |some e=>(p,e)
 |none=>(⟨p.nodes,(fB p.nodes bz v names p.places).2⟩,0)
theorem cC {α:Type} {p:α→Bool} {l:List α} {r:Int} (h:r=idxOf p l):(r=-1∧l.findIdx? p=none∧l.find? p=none)∨∃(i:Nat) (x:α),r=i∧i<l.length∧l[i]?=some x∧p x=true∧l.findIdx? p=some i∧l.find? p=some x:=by
 by_cases hn:idxOf p l=-1
 ·have hno:=nX hn
  refine .inl ⟨by rw [h,hn],?_,?_⟩
  ·rw [List.findIdx?_eq_none_iff];intro x hx;simp [hno x hx]
  rw [List.find?_eq_none];intro x hx;simp [hno x hx]
 obtain ⟨i,x,h1,h2,h3,h4⟩:=nY hn
 refine .inr ⟨i,x,by rw [h,h1],(List.getElem?_eq_some_iff.1 h2).1,h2,h3,?_,Ei h2 h3 h4⟩
 unfold idxOf at h1
 split at h1
 ·rename_i k hk;rw [hk];congr 1;omega
 omega
def fJ (p:cA) (name:aI) (up:Bool):cA×Int:=
 match p.nodes.findIdx? (fun x=>decide (x.name=name)),p.nodes.find? (fun x=>decide (x.name=name)) with
 |some i,some x=>if x.up=up then (p,15) else (⟨p.nodes.set i {x with up:=up},p.places⟩,0)
 |_,_=>(p,7)
def nZ (l:List Node) (ps:List Place) (n:Node):Option bL:=if (cB n.name l ps).2&&n.up then some ⟨n.name,(cB n.name l ps).1,n.labels⟩ else none
def Jr (q:Option aI) (x:aI):Bool:=match q with|none=>true|some q=>!sle x q
def vp (l:List Node) (ps:List Place):Option aI→List Node→Bool
 |_,[]=>true
 |q,n::r=>(cB n.name l ps).2&&dY n.name&&tM n.labels&&Jr q n.name&&vp l ps (some n.name) r
def UE (l:List Node) (x:Place):Bool:=!(l.any fun n=>decide (n.name=x.node))
def Ej (p:cA):Bool:=vp p.nodes p.places none p.nodes&&decide (p.nodes.length≤16)&&!(p.places.any (UE p.nodes))
def Node.sm (x:Node):Prop:=x.name.length<9223372036854775807∧x.labels.length<1000000000∧∀p∈x.labels,p.sm
def pat (l:List Node) (nm:aI):Nat:=match l.findIdx? (fun o=>!Op.bytesLess o.name nm) with
 |some k=>k
 |none=>l.length
def qz (p:cA) (n:Node):cA×Int:=
 if !dY n.name then (p,6) else if !tM n.labels then (p,2) else if decide (0≤idxOf (fun x=>decide (x.name=n.name)) p.nodes) then (p,8) else if 16≤p.nodes.length then (p,9) else
 (⟨p.nodes.take (pat p.nodes n.name)++{n with up:=true}::p.nodes.drop (pat p.nodes n.name),p.places⟩,0)
end Dem
end
section
open Go Dem Go.Proofs
namespace Dem
abbrev bf (s:aI):List D:=[.str s]
def kS (r:Int):AV:=bF r
def dH (r:Bool):AV:=BL r
def SK (r:aI):AV:=ST r
def Za (r:bG×Bool):AV:=.dV [V4 r.1.a r.1.b r.1.c r.1.d,BL r.2]
def Node.bw (t:Th) (x:Node):List D:=[.str x.name,.int .u64 x.cap.a,.int .u64 x.cap.b,.int .u64 x.cap.c,.int .u64 x.cap.d,.sl (t _ fun _=>x.labels.map dh.cells),.bool x.up]
def Place.bw (_:Th) (x:Place):List D:=[.int .u64 x.bz,.str x.node,.int .u64 x.v.a,.int .u64 x.v.b,.int .u64 x.v.c,.int .u64 x.v.d]
def UF (t:Th) (x:Node):AV:=.agg [ST x.name,aB x.cap.a,aB x.cap.b,aB x.cap.c,aB x.cap.d,SL (t _ fun _=>x.labels.map dh.cells),BL x.up]
def Js (t:Th) (r:Node×Bool):AV:=.dV [UF t r.1,BL r.2]
def Ly (t:Th) (p:cA):AV:=.agg [SL (t _ fun _=>p.nodes.map Node.cells),SL (t _ fun _=>p.places.map Place.cells)]
def Ek (t:Th) (r:cA×Int):AV:=.dV [Ly t r.1,bF r.2]
def AK (t:Th) (l:List aI):AV:=SL (t _ fun _=>l.map bf)
def eL (_:Th) (s:aI):List D:=[.str s]
theorem yR {t:Th} (ht:TT t) {α:Type} {l:List α} {cells cT:α→List D} {es:List (List D)} (aD:es=l.map cells) {z:Int} {i n:Nat} {x:α} {K:List D→Prop} (hx:l[i]?=some x) (hz:z=i) (hn:∀x,(cells x).length=n) (hT:∀x,cells x=cT x)
 (hK:K (cT x)):nL true (t Prop fun _=>0≤z∧z<es.length∧∀r∈es,r.length=n) (t _ fun _=>es.getD z.toNat []) K:=by
 have hi:=(List.getElem?_eq_some_iff.1 hx).1
 refine kL ht aD (by omega) (by omega) hn hT ?_
 intro y hy
 rw [hz,Int.toNat_natCast,hx] at hy
 cases hy;exact hK
theorem UG {α:Type} {l:List α} {cells:α→List D} {u:List (List D)} (hu:u=l.map cells) {row:List D} {sz b:Nat} (hn:∀x,(cells x).length=sz) (hr:row.length=sz) (hl:l.length<1000000000) (hb:b≤10000):
 (u.length+[row].length)*b≤140737488355328∧∀r∈u++[row],r.length=sz:=by
 refine ⟨?_,?_⟩
 ·rw [hu,lgM]
  exact Nat.le_trans (Nat.mul_le_mul (show l.length+[row].length≤1000000000 by simp;omega) hb) (by decide)
 intro r hr'
 rcases List.mem_append.1 hr' with h|h
 ·rw [hu] at h;obtain ⟨y,_,rfl⟩:=List.mem_map.1 h;exact hn y
 simp at h;subst h;exact hr
def bL.cells (x:bL):List D:=[.str x.node,.int .u64 x.free.a,.int .u64 x.free.b,.int .u64 x.free.c,.int .u64 x.free.d,.sl (x.labels.map dh.cells)]
def bL.bw (t:Th) (x:bL):List D:=[.str x.node,.int .u64 x.free.a,.int .u64 x.free.b,.int .u64 x.free.c,.int .u64 x.free.d,.sl (t _ fun _=>x.labels.map dh.cells)]
def VA (t:Th) (l:List bL):AV:=SL (t _ fun _=>l.map bL.cells)
theorem El {k:Nat} (h:0<k) (h2:k<9223372036854775807):IntKind.i64.wrap ((k:Int)-1)=((k-1:Nat):Int):=by rw [wrap64 (by omega) (by omega)];omega
theorem Ya {t:Th} (ht:TT t) {α:Type} [Inhabited α] {l:List α} {cells cT:α→List D} {es:List (List D)} (aD:es=l.map cells) {g:Bool} {G:Prop} {z:Int} (i:Nat) {n:Nat} {K:List D→Prop} (hg:g=true→G) (hi:g=true→z=i∧i<l.length) (hn:∀x,(cells x).length=n) (hT:∀x,cells x=cT x)
 (hK:∀x,(g=true→l[i]?=some x)→K (cT x)):nL g (G∧t Prop fun _=>0≤z∧z<es.length∧∀r∈es,r.length=n) (t _ fun _=>es.getD z.toNat []) K:=by
 cases WK:g with
 |true=>
  subst WK
  obtain ⟨h1,h2⟩:=hi rfl
  refine SI (cT l[i]) (fun _=>⟨⟨hg rfl,?_⟩,?_⟩) (hK _ (fun _=>List.getElem?_eq_getElem h2))
  ·simp only [ht];refine ⟨by omega,by rw [aD,lgM];omega,?_⟩
   rw [aD];intro r hr;obtain ⟨y,_,rfl⟩:=List.mem_map.1 hr;exact hn y
  simp only [ht];rw [h1,aD,←hT];simp [h2]
 |false=>
  subst WK
  exact SI (cT default) (fun h=>Bool.noConfusion h) (hK default (fun h=>Bool.noConfusion h))
theorem oT {P:Program} {G:Nat→Option (List D)} {f:Nat} {args args':List AV} {bx aR:List az} {res:iU} (h:∀β w ok vs,ak β bx w ok args vs→ak β bx w ok args' vs) (hc:bA P G f args' bx res aR):bA P G f args bx res aR:=
 fun β w vs X cx hx=>hc β w vs X cx (h _ _ _ _ hx)
theorem LA {β:Nat→Nat} {bx:List az} {w:World} {ok:Nat→Prop} {es:List (List D)} {u:Value} (h:aj β bx w ok (.cl es) u):aj β bx w ok (.d (.sl es)) u:=by
 simp only [aj,aL] at h ⊢
 obtain ⟨base,h1,h2⟩:=h
 exact ⟨base,_,h1,Nat.le_refl _,h2⟩
abbrev small:Nat:=9223372036854775807
end Dem
end
section
open Go
namespace Dem
end Dem
namespace Dem
theorem oU (x:Int):IntKind.u64.wrap x=x%18446744073709551616:=by simp [IntKind.wrap,IntKind.signed,IntKind.bits]
theorem lK {x:Int} (h0:-9223372036854775808≤x) (h1:x<9223372036854775808):IntKind.i64.wrap x=x:=by
 simp [IntKind.wrap,IntKind.signed,IntKind.bits];omega
end Dem
namespace Dem
end Dem
namespace Dem
end Dem
namespace Dem
end Dem
end
section
open Go
namespace Dem
structure Term where
 key:aI
 no:Bool
 mR:List aI
deriving DecidableEq
instance:Inhabited Term:=⟨⟨[],false,[]⟩⟩
def Term.cells (x:Term):List D:=[.str x.key,.bool x.no,.sl (x.mR.map bf)]
def yf:Option aI→List aI→Bool
 |_,[]=>true
 |q,v::r=>dY v&&Jr q v&&yf (some v) r
def mright (x:Term):Bool:=if yf none x.mR then dY x.key&&decide (x.mR.length≤4) else false
def AL (l:List Term):Bool:=if l.length≤4 then !(l.any fun x=>!mright x) else false
def GY (l:List dh) (k:aI):aI×Bool:=match l.find? (fun x=>decide (x.key=k)) with
 |some x=>(x.value,true)
 |none=>([],false)
def kT (x:Term) (l:List dh):Bool:=
 (if (GY l x.key).2 then (if x.mR.length=0 then true else x.mR.contains (GY l x.key).1) else false)!=x.no
def iL (x:List Term) (l:List dh):Bool:=!(x.any fun m=>!kT m l)
abbrev bG.u' (v:bG):Prop:=(0≤v.a∧v.a<18446744073709551616)∧(0≤v.b∧v.b<18446744073709551616)∧(0≤v.c∧v.c<18446744073709551616)∧(0≤v.d∧v.d<18446744073709551616)
def MM (x y:Int):Int×Bool:=if x.toNat*y.toNat<18446744073709551616 then (((x.toNat*y.toNat:Nat):Int),true) else (0,false)
def Jt (v:bG) (n:Int):bG×Bool:=both (fun x _=>MM x n) v bG.zero
def iX (x y:Int):Int:=if x<y then -1 else if y<x then 1 else 0
def qA (a b:bG):Int:=
 if iX a.a b.a≠0 then iX a.a b.a else if iX a.b b.b≠0 then iX a.b b.b else if iX a.c b.c≠0 then iX a.c b.c else iX a.d b.d
structure ct where
 id:Int
 prio:Int
deriving DecidableEq
instance:Inhabited ct:=⟨⟨0,0⟩⟩
def ct.cells (q:ct):List D:=[.int .u64 q.id,.int .i64 q.prio]
def bQ (a b:ct):Bool:=decide (b.prio<a.prio)||(decide (a.prio=b.prio)&&decide (a.id<b.id))
def vq (l:List ct) (e:ct):Nat:=match l.findIdx? (fun x=>bQ e x) with
 |some k=>k
 |none=>l.length
def nG (l:List ct) (id:Int):Int:=idxOf (fun x=>decide (x.id=id)) l
def kU (e:ct):Bool:=decide (e.prio<0)||decide (9<e.prio)
def jW (l:List ct) (e:ct):List ct×Int:=
 if kU e then (l,1) else if 0≤nG l e.id then (l,8) else if 32≤l.length then (l,9) else
 (l.take (vq l e)++e::l.drop (vq l e),0)
def AM (l:List ct) (id:Int):List ct×Bool:=match l.findIdx? (fun x=>decide (x.id=id)) with
 |some k=>(l.eraseIdx k,true)
 |none=>(l,false)
def Yb (q:Option ct) (e:ct):Bool:=match q with|none=>true|some q=>bQ q e
def zk (all:List ct):Option ct→Nat→List ct→Bool
 |_,_,[]=>true
 |q,k,e::r=>!kU e&&decide (nG all e.id=k)&&Yb q e&&zk all (some e) (k+1) r
def Em (l:List ct):Bool:=zk l none 0 l&&decide (l.length≤32)
def bR (c:UInt8):aI→List aI
 |[]=>[[]]
 |x::xs=>if x=c then []::bR c xs else match bR c xs with
  |h::r=>(x::h)::r
  |[]=>[[x]]
theorem oV (c:UInt8):∀s:aI,(bR c s).length=s.count c+1
 |[]=>rfl
 |x::xs=>by
  have ih:=oV c xs
  unfold bR
  by_cases h:x=c
  ·simp [h,ih]
  simp only [h,if_false,List.count_cons,beq_iff_eq]
  split<;>simp_all
theorem CU (c:UInt8) (s:aI):bR c s≠[]:=fun h=>by have:=oV c s;rw [h] at this;simp at this
theorem qB (c:UInt8):∀s:aI,Lib.indexByte s c<0→bR c s=[s]
 |[],_=>rfl
 |x::xs,h=>by
  have hg:=Lib.indexByte_ge xs c
  unfold Lib.indexByte at h
  have hx:x≠c:=by rintro rfl;simp at h
  have h2:Lib.indexByte xs c<0:=by
   simp only [beq_iff_eq,hx,if_false] at h
   split at h
   ·omega
   omega
  simp [bR,hx,qB c xs h2]
theorem yg (c:UInt8):∀(s:aI) (j:Nat),Lib.indexByte s c=j→j<s.length∧bR c s=s.take j::bR c (s.drop (j+1))∧s.count c=(s.drop (j+1)).count c+1
 |[],j,h=>by simp [Lib.indexByte] at h
 |x::xs,j,h=>by
  have hg:=Lib.indexByte_ge xs c
  unfold Lib.indexByte at h
  by_cases hx:x=c
  ·simp only [beq_iff_eq,hx,if_true] at h
   have:j=0:=by omega
   subst this;simp [bR,hx]
  simp only [beq_iff_eq,hx,if_false] at h
  split at h
  ·omega
  obtain ⟨i,rfl⟩:∃i,j=i+1:=⟨j-1,by omega⟩
  obtain ⟨h1,h2,h3⟩:=yg c xs i (by omega)
  refine ⟨by simp;omega,?_,?_⟩
  ·simp [bR,hx,h2]
  simp [hx,h3]
theorem En {s:aI} {r:Int} (h:r=Lib.indexByte s 47) (h0:r<0):s.count 47=0:=by
 have e:=oV 47 s
 rw [qB 47 s (h▸h0)] at e
 simp at e;simpa using e
theorem Eo {s:aI} {r:Int} (h:r=Lib.indexByte s 47) (h0:0≤r):∃j:Nat,r=j∧j<s.length∧bR 47 s=s.take j::bR 47 (s.drop (j+1))∧s.count 47=(s.drop (j+1)).count 47+1:=by
 obtain ⟨j,rfl⟩:=Int.eq_ofNat_of_zero_le h0
 obtain ⟨h1,h2,h3⟩:=yg 47 s j h.symm
 exact ⟨j,rfl,h1,h2,h3⟩
theorem AN {s:aI} (h:s.count 47=0):bR 47 s=[s]:=by
 refine qB 47 s (Int.not_le.1 fun h0=>?_)
 obtain ⟨j,_,_,_,e⟩:=Eo rfl h0
 omega
def fm (l:List aI):aI:=Lib.join l [47]
def parts (s:aI):List aI:=if decide (3<(bR 47 s).length)||(bR 47 s).any (fun n=>!dY n) then [] else bR 47 s
def mB (s:aI):List aI:=(List.range (parts s).length).map fun k=>fm ((parts s).take (k+1))
def nH (a b:aI):Bool:=(mB b).contains a
def named (p:aI):Bool:=decide (p=[])||nH p p
def above (p:aI):List aI:=[]::mB p
def parent (p:aI):aI:=(above p).getD ((above p).length-2) []
theorem ki (s:aI):(parts s).length≤3:=by
 unfold parts;split
 ·simp
 rename_i h;simp at h;omega
theorem iu (s:aI):(mB s).length=(parts s).length:=by simp [mB]
theorem sM (x:aI) (r:List aI):Lib.joinTail [47] (x::r)=47::fm (x::r):=by
 rw [fm,Lib.join_cons];simp [Lib.joinTail]
theorem yh:∀s:aI,fm (bR 47 s)=s
 |[]=>rfl
 |c::s=>by
  have ih:=yh s
  unfold bR
  cases e:bR 47 s with
  |nil=>exact absurd e (CU 47 s)
  |cons h r=>
   rw [e] at ih
   split
   ·rename_i hc
    show Lib.join ([]::h::r) [47]=_
    rw [Lib.join_cons,sM,ih,hc];rfl
   show Lib.join ((c::h)::r) [47]=_
   rw [Lib.join_cons,List.cons_append,←Lib.join_cons]
   exact congrArg _ ih
theorem Ce (l:List aI) (k:Nat):(Lib.joinTail [47] (l.take k)).length≤(Lib.joinTail [47] l).length:=by
 have e:Lib.joinTail [47] l=Lib.joinTail [47] (l.take k)++Lib.joinTail [47] (l.drop k):=by
  simp only [Lib.joinTail];rw [←List.flatten_append,←List.map_append,List.take_append_drop]
 rw [e,List.length_append];omega
theorem Ju (l:List aI) (k:Nat):(fm (l.take k)).length≤(fm l).length:=by
 cases l with
 |nil=>simp
 |cons x r=>
  cases k with
  |zero=>simp [fm,Lib.join_nil]
  |succ k=>
   simp only [List.take_succ_cons,fm,Lib.join_cons,List.length_append]
   have:=Ce r k
   omega
theorem CV (s:aI) (k:Nat):(fm ((parts s).take k)).length≤s.length:=by
 refine Nat.le_trans (Ju _ k) ?_
 unfold parts
 split
 ·simp [fm,Lib.join_nil]
 rw [yh];exact Nat.le_refl _
theorem SM {s:aI} {k:Nat} (hk:k<(parts s).length):(mB s)[k]?=some (fm ((parts s).take (k+1))):=by simp [mB,hk]
theorem CW {s:aI} {k:Nat} (hk:k<(parts s).length):(mB s).take (k+1)=(mB s).take k++[fm ((parts s).take (k+1))]:=by
 have hl:k<(mB s).length:=by rw [iu];exact hk
 rw [List.take_add_one,SM hk];rfl
def bG.at_ (v:bG):Nat→Int
 |0=>v.a
 |1=>v.b
 |2=>v.c
 |_=>v.d
structure Ask where
 path:aI
 fY:bG
 count:Int
 prio:Int
 eI:Int
 cg:List Term
deriving DecidableEq
instance:Inhabited Ask:=⟨⟨[],bG.zero,0,0,0,[]⟩⟩
def Ask.zero:Ask:=⟨[],bG.zero,0,0,0,[]⟩
def cV (x:Ask):bG×Bool:=Jt x.fY (x.count%18446744073709551616)
def RJ (n a b:Int):Bool:=decide (a≤n)&&decide (n≤b)
def eS (x:Ask):Int:=
 if !nH x.path x.path then 6 else if !RJ x.count 1 8||!RJ x.prio 0 9||!RJ x.eI 1 100 then 1 else if !AL x.cg then 2 else if !(cV x).2 then 5 else 0
def fitting (l:List bL) (x:List Term):List bL:=l.filter fun s=>iL x s.labels
structure Ep where
 at_:Nat
 left:bG
 ok:Bool
def mC (v:bG):List bL→Nat→Ep→Ep
 |[],_,b=>b
 |s::r,k,b=>mC v r (k+1) (if (dO s.free v).2&&(!b.ok||decide (qA (dO s.free v).1 b.left<0)) then ⟨k,(dO s.free v).1,true⟩ else b)
def best (l:List bL) (v:bG):Ep:=mC v l 0 ⟨0,bG.zero,false⟩
instance:Inhabited bL:=⟨⟨[],bG.zero,[]⟩⟩
def mS (v:bG):Nat→List bL→List aI→List aI×Bool
 |0,_,out=>(out,true)
 |n+1,l,out=>if !(best l v).ok then ([],false) else
  mS v n (l.set (best l v).at_ {l.getD (best l v).at_ default with free:=(best l v).left}) (out++[(l.getD (best l v).at_ default).node])
def fit (l:List bL) (x:List Term) (v:bG) (count:Int):List aI×Bool:=
 if 8<count then ([],false) else mS v (max count 0).toNat (fitting l x) []
structure bc where
 path:aI
 eX:bG
 used:bG
deriving DecidableEq
abbrev bc.cells (e:bc):List D:=[.str e.path,.int .u64 e.eX.a,.int .u64 e.eX.b,.int .u64 e.eX.c,.int .u64 e.eX.d,.int .u64 e.used.a,.int .u64 e.used.b,.int .u64 e.used.c,.int .u64 e.used.d]
def bc.zero:bc:=⟨[],bG.zero,bG.zero⟩
instance:Inhabited bc:=⟨bc.zero⟩
def bU (t:List bc) (p:aI):Int:=idxOf (fun e=>decide (e.path=p)) t
def qD (t:List bc) (p:aI):bc×Bool:=match t.find? (fun e=>decide (e.path=p)) with
 |some e=>(e,true)
 |none=>(bc.zero,false)
def vt (t:List bc) (p:aI) (v:bG):List bc×Int:=
 if !named p then (t,6) else
 if !decide (p=[])&&decide (bU t (parent p)<0) then (t,7) else
 if decide (bU t p<0)&&decide (16≤t.length) then (t,9) else
 match t.findIdx? (fun e=>decide (e.path=p)) with
 |some k=>if !lg ((t.getD k bc.zero).used) v then (t,10) else (t.set k {t.getD k bc.zero with eX:=v},0)
 |none=>match t.findIdx? (fun e=>!Op.bytesLess e.path p) with
  |some k=>(t.take k++⟨p,v,bG.zero⟩::t.drop k,0)
  |none=>(t++[⟨p,v,bG.zero⟩],0)
def fM (v:bG) (e:bc):bc×Int:=
 if !(jR e.used v).2 then (e,5) else if !lg (jR e.used v).1 e.eX then (e,10) else ({e with used:=(jR e.used v).1},0)
def eF (v:bG) (e:bc):bc×Int:=
 if !(dO e.used v).2 then (e,15) else ({e with used:=(dO e.used v).1},0)
def kj (f:bc→bc×Int) (t:List bc):List aI→List bc→List bc×Int
 |[],out=>(out,0)
 |p::r,out=>if (f (t.getD (bU t p).toNat bc.zero)).2≠0 then (t,(f (t.getD (bU t p).toNat bc.zero)).2) else kj f t r (out.set (bU t p).toNat (f (t.getD (bU t p).toNat bc.zero)).1)
def pF (f:bc→bc×Int) (t:List bc) (p:aI):List bc×Int:=
 if !named p then (t,6) else if (above p).any (fun q=>decide (bU t q<0)) then (t,7) else kj f t (above p) t
def cY (t:List bc) (p:aI) (v:bG):List bc×Int:=pF (fM v) t p
def rR (t:List bc) (p:aI) (v:bG):List bc×Int:=pF (eF v) t p
def CX (p:aI):List bc→bG→Option bG
 |[],s=>some s
 |x::r,s=>if x.path=[] then CX p r s else if parent x.path≠p then CX p r s else if (jR s x.used).2 then CX p r (jR s x.used).1 else none
def Er (l:List bc) (e:bc):Bool:=match CX e.path l bG.zero with
 |none=>false
 |some s=>lg e.used e.eX&&lg s e.used
def oW (all:List bc):Option aI→List bc→Bool
 |_,[]=>true
 |none,e::r=>oW all (some e.path) r
 |some q,e::r=>!sle e.path q&&named e.path&&!decide (bU all (parent e.path)<0)&&oW all (some e.path) r
def Es (l:List bc):Bool:=
 if l.length<1 then false else if 16<l.length then false else if (l.getD 0 bc.zero).path≠[] then false else oW l none l&&!(l.any fun e=>!Er l e)
theorem CY:∀(x y:aI),Op.bytesLess x y=decide (x<y)
 |[],[]=>by simp [Op.bytesLess]
 |a::x,[]=>by simp [Op.bytesLess]
 |[],b::y=>by simp [Op.bytesLess]
 |a::x,b::y=>by
  have ih:=CY x y
  simp only [Op.bytesLess,ih]
  rw [Bool.eq_iff_iff]
  simp [List.cons_lt_cons_iff]
theorem kn (x:aI):¬x<x:=List.lt_irrefl x
theorem wS {x y z:aI} (h:x<y) (g:y<z):x<z:=List.lt_trans h g
theorem LB (x y:aI):x<y∨x=y∨y<x:=by
 by_cases h:x<y
 ·exact .inl h
 by_cases g:y<x
 ·exact .inr (.inr g)
 exact .inr (.inl (List.le_antisymm (List.not_lt.1 g) (List.not_lt.1 h)))
theorem CZ {x y:aI} (h:x<y) (g:y<x):False:=kn x (wS h g)
theorem LC {x y:aI}:(!sle x y)=true↔y<x:=by
 rcases LB x y with h|rfl|h
 ·have:¬y<x:=fun g=>CZ h g
  simp [sle,CY,h,this]
 ·simp [sle]
 simp only [sle,CY]
 have h1:¬x<y:=fun g=>CZ h g
 have h2:x≠y:=fun e=>by subst e;exact kn x h
 simp [h1,h2,h]
abbrev Jv (l:List Node):Prop:=l.Pairwise (fun x y=>x.name<y.name)
def Node.yS (n:Node):Bool:=dY n.name&&tM n.labels
structure cA.ok (p:cA):Prop where
 wT:Jv p.nodes
 yS:∀n∈p.nodes,n.yS=true
 free:∀n∈p.nodes,(cB n.name p.nodes p.places).2=true
 most:p.nodes.length≤16
 here:∀x∈p.places,∃n∈p.nodes,n.name=x.node
theorem yj {l:List Node} {ps:List Place}:∀(r:List Node) (q:Option aI),vp l ps q r=true↔
 ((∀n∈r,n.yS=true)∧(∀n∈r,(cB n.name l ps).2=true)∧Jv r∧∀a,q=some a→∀n∈r,a<n.name)
 |[],q=>by simp [vp]
 |n::r,q=>by
  have ih:=yj (l:=l) (ps:=ps) r (some n.name)
  simp only [vp,Bool.and_eq_true,ih]
  have hp:Jr q n.name=true↔∀a,q=some a→a<n.name:=by
   cases q with
   |none=>simp [Jr]
   |some a=>simp only [Jr,LC];simp
  rw [hp]
  constructor
  ·rintro ⟨⟨⟨⟨h1,h2⟩,h3⟩,h4⟩,g1,g2,g3,g4⟩
   refine ⟨?_,?_,?_,?_⟩
   ·intro m hm;rcases List.mem_cons.1 hm with rfl|hm
    ·simp [Node.yS,h2,h3]
    exact g1 m hm
   ·intro m hm;rcases List.mem_cons.1 hm with rfl|hm
    ·exact h1
    exact g2 m hm
   ·exact List.pairwise_cons.2 ⟨fun m hm=>g4 _ rfl m hm,g3⟩
   intro a ha m hm;rcases List.mem_cons.1 hm with rfl|hm
   ·exact h4 a ha
   exact wS (h4 a ha) (g4 _ rfl m hm)
  rintro ⟨h1,h2,h3,h4⟩
  have f:=h1 n (by simp)
  simp only [Node.yS,Bool.and_eq_true] at f
  have h3':=List.pairwise_cons.1 h3
  exact ⟨⟨⟨⟨h2 n (by simp),f.1⟩,f.2⟩,fun a ha=>h4 a ha n (by simp)⟩,fun m hm=>h1 m (by simp [hm]),fun m hm=>h2 m (by simp [hm]),h3'.2,fun a ha m hm=>by cases ha;exact h3'.1 m hm⟩
theorem Jw {p:cA}:Ej p=true↔p.ok:=by
 unfold Ej
 simp only [Bool.and_eq_true,yj,decide_eq_true_eq,Bool.not_eq_true',List.any_eq_false,UE]
 constructor
 ·rintro ⟨⟨⟨h1,h2,h3,_⟩,h5⟩,h6⟩
  refine ⟨h3,h1,h2,h5,fun x hx=>?_⟩
  have:=h6 x hx
  simpa using this
 rintro ⟨h1,h2,h3,h4,h5⟩
 refine ⟨⟨⟨h2,h3,h1,by simp⟩,h4⟩,fun x hx=>?_⟩
 obtain ⟨n,hn,e⟩:=h5 x hx
 simp;exact ⟨n,hn,e⟩
theorem PO {l:List Node} (ha:Jv l) {n:Node} (hn:n∈l):l.find? (fun x=>decide (x.name=n.name))=some n:=by
 induction l with
 |nil=>cases hn
 |cons m r ih=>
  rw [List.find?_cons]
  have Yc:=List.pairwise_cons.1 ha
  rcases List.mem_cons.1 hn with rfl|hn
  ·simp
  have:m.name≠n.name:=fun e=>by have:=Yc.1 n hn;rw [e] at this;exact kn _ this
  simp [this,ih Yc.2 hn]
theorem wU {l:List Node} (ha:Jv l) {n:Node} (hn:n∈l):dM n.name l=(n,true):=by
 unfold dM;rw [PO ha hn]
theorem Jx {l:List Node} {name:aI} (h:(dM name l).2=true):(dM name l).1∈l∧(dM name l).1.name=name:=by
 unfold dM at h ⊢
 split at h
 ·rename_i x hx
  have h1:=List.mem_of_find?_eq_some hx
  have h2:=List.find?_some hx
  exact ⟨h1,by simpa using h2⟩
 cases h
def left (name:aI) (ps:List Place) (v:bG×Bool):bG×Bool:=ps.foldl (cH name) v
theorem wV {l:List Node} (ha:Jv l) {n:Node} (hn:n∈l) (ps:List Place):cB n.name l ps=if (left n.name ps (n.cap,true)).2 then left n.name ps (n.cap,true) else (bG.zero,false):=by
 unfold cB;rw [wU ha hn];rfl
theorem gS {l:List Node} (ha:Jv l) {n:Node} (hn:n∈l) (ps:List Place):(cB n.name l ps).2=(left n.name ps (n.cap,true)).2:=by
 rw [wV ha hn]
 split
 ·rfl
 rename_i h;simp at h;simp [h]
theorem Jy (name:aI) (ps:List Place):∀v,(left name ps (v,false))=(v,false):=by
 induction ps with
 |nil=>intro v;rfl
 |cons x r ih=>intro v;simp only [left,List.foldl_cons];rw [show cH name (v,false) x=(v,false) by simp [cH]];exact ih v
theorem MN (name:aI) (ps:List Place) (x:Place) (v:bG×Bool):left name (ps++[x]) v=cH name (left name ps v) x:=by simp [left]
def bG.w (v:bG):Prop:=∀k<4,0≤v.at_ k∧v.at_ k<18446744073709551616
theorem bG.VB {a b:bG} (h:∀k<4,a.at_ k=b.at_ k):a=b:=by
 rw [Vz];exact ⟨h 0 (by decide),h 1 (by decide),h 2 (by decide),h 3 (by decide)⟩
theorem Zb {P:Nat→Prop}:(∀k<4,P k)↔P 0∧P 1∧P 2∧P 3:=by
 constructor
 ·intro h;exact ⟨h 0 (by decide),h 1 (by decide),h 2 (by decide),h 3 (by decide)⟩
 rintro ⟨h0,h1,h2,h3⟩ k hk
 match k,hk with
 |0,_=>exact h0
 |1,_=>exact h1
 |2,_=>exact h2
 |3,_=>exact h3
theorem SN {x y:Int}:(GU x y).2=true↔y.toNat≤x.toNat:=by
 unfold GU;split<;>simp<;>omega
theorem SO {x y:Int}:(GS x y).2=true↔x.toNat+y.toNat<18446744073709551616:=by
 unfold GS;split<;>simp<;>omega
theorem m9 {a b:bG}:(dO a b).2=true↔∀k<4,(b.at_ k).toNat≤(a.at_ k).toNat:=by
 rw [Zb];simp only [bG.at_,←SN]
 unfold dO both;split
 ·rename_i h;simp only [Bool.and_eq_true] at h;simp [h]
 rename_i h;simp only [Bool.and_eq_true,not_and] at h;simp;intro h1 h2 h3;simpa using h ⟨⟨h1,h2⟩,h3⟩
theorem Et {a b:bG}:(jR a b).2=true↔∀k<4,(a.at_ k).toNat+(b.at_ k).toNat<18446744073709551616:=by
 rw [Zb];simp only [bG.at_,←SO]
 unfold jR both;split
 ·rename_i h;simp only [Bool.and_eq_true] at h;simp [h]
 rename_i h;simp only [Bool.and_eq_true,not_and] at h;simp;intro h1 h2 h3;simpa using h ⟨⟨h1,h2⟩,h3⟩
theorem Eu {a b:bG} (h:(dO a b).2=true):∀k<4,(dO a b).1.at_ k=((((a.at_ k).toNat-(b.at_ k).toNat)%18446744073709551616:Nat):Int):=by
 have h':=m9.1 h
 rw [Zb] at h' ⊢
 simp only [bG.at_] at h' ⊢
 unfold dO both at h ⊢
 split at h
 ·rename_i g
  rw [if_pos g]
  simp only [GU]
  rw [if_neg (by omega),if_neg (by omega),if_neg (by omega),if_neg (by omega)]
  simp
 cases h
theorem LD {a b:bG} (h:(jR a b).2=true):∀k<4,(jR a b).1.at_ k=(((a.at_ k).toNat+(b.at_ k).toNat:Nat):Int):=by
 have h':=Et.1 h
 rw [Zb] at h' ⊢
 simp only [bG.at_] at h' ⊢
 unfold jR both at h ⊢
 split at h
 ·rename_i g
  rw [if_pos g]
  simp only [GS]
  rw [if_pos (by omega),if_pos (by omega),if_pos (by omega),if_pos (by omega)]
  simp
 cases h
theorem Ev {a b:bG} (h:(dO a b).2=true):(dO a b).1.w:=by
 intro k hk;rw [Eu h k hk];omega
def here (name:aI) (ps:List Place):List Place:=ps.filter (fun x=>decide (x.node=name))
def gA (k:Nat) (l:List Place):Nat:=(l.map (fun x=>(x.v.at_ k).toNat)).sum
theorem n6 (name:aI):∀(ps:List Place) (v:bG),v.w→((left name ps (v,true)).2=true↔∀k<4,gA k (here name ps)≤(v.at_ k).toNat)∧
 ((left name ps (v,true)).2=true→∀k<4,(left name ps (v,true)).1.at_ k=(((v.at_ k).toNat-gA k (here name ps):Nat):Int))
 |[],v,hv=>by
  simp only [left,List.foldl_nil,here,List.filter_nil,gA,List.map_nil,List.sum_nil]
  exact ⟨by simp,fun _ k hk=>by have:=hv k hk;omega⟩
 |x::r,v,hv=>by
  by_cases hx:x.node=name
  ·have e1:left name (x::r) (v,true)=left name r (dO v x.v):=by simp [left,cH,hx]
   have e2:here name (x::r)=x::here name r:=by simp [here,hx]
   rw [e1,e2]
   cases hs:(dO v x.v).2 with
   |false=>
    have e3:dO v x.v=((dO v x.v).1,false):=by rw [←hs]
    rw [e3,Jy]
    refine ⟨⟨fun h=>Bool.noConfusion h,fun h=>?_⟩,fun h=>Bool.noConfusion h⟩
    have:(dO v x.v).2=true:=m9.2 fun k hk=>by have:=h k hk;simp [gA] at this;omega
    rw [hs] at this;cases this
   |true=>
    have e3:dO v x.v=((dO v x.v).1,true):=by rw [←hs]
    rw [e3]
    obtain ⟨i1,i2⟩:=n6 name r (dO v x.v).1 (Ev hs)
    have hat:=Eu hs
    have hok:=m9.1 hs
    constructor
    ·rw [i1]
     constructor
     ·intro h k hk;have a1:=h k hk;have a2:=hat k hk;have a3:=hok k hk;have a4:=hv k hk
      rw [a2] at a1;simp only [gA,List.map_cons,List.sum_cons] at a1 ⊢;omega
     intro h k hk;have a1:=h k hk;have a2:=hat k hk;have a3:=hok k hk;have a4:=hv k hk
     rw [a2];simp only [gA,List.map_cons,List.sum_cons] at a1 ⊢;omega
    intro h k hk
    rw [i2 h k hk];have a1:=(i1.1 h) k hk;have a2:=hat k hk;have a3:=hok k hk;have a4:=hv k hk
    rw [a2] at a1 ⊢;simp only [gA,List.map_cons,List.sum_cons] at a1 ⊢;omega
  have e1:left name (x::r) (v,true)=left name r (v,true):=by simp [left,cH,hx]
  have e2:here name (x::r)=here name r:=by simp [here,hx]
  rw [e1,e2];exact n6 name r v hv
theorem AO {k:Nat} {l m:List Place} (h:l.Sublist m):gA k l≤gA k m:=by
 unfold gA
 induction h with
 |slnil=>simp
 |cons a _ ih=>simp;omega
 |cons_cons a _ ih=>simp;omega
structure cA.w (p:cA):Prop where
 cap:∀n∈p.nodes,n.cap.w
 v:∀x∈p.places,x.v.w
theorem cA.SP {p:cA} (h:p.ok) (hw:p.w) {n:Node} (hn:n∈p.nodes):∀k<4,gA k (Dem.here n.name p.places)≤(n.cap.at_ k).toNat:=by
 have:=h.free n hn
 rw [gS h.wT hn] at this
 exact (n6 n.name p.places n.cap (hw.cap n hn)).1.1 this
theorem Jz {p:cA} (ha:Jv p.nodes) (hc:∀n∈p.nodes,n.cap.w) {n:Node} (hn:n∈p.nodes) (h:∀k<4,gA k (here n.name p.places)≤(n.cap.at_ k).toNat):(cB n.name p.nodes p.places).2=true:=by
 rw [gS ha hn];exact (n6 n.name p.places n.cap (hc n hn)).1.2 h
theorem SQ {p:cA} (h:p.ok) (hw:p.w) (f:Place→Bool):cA.ok ⟨p.nodes,p.places.filter f⟩:=by
 refine ⟨h.wT,h.yS,fun n hn=>?_,h.most,fun x hx=>h.here x (List.mem_filter.1 hx).1⟩
 refine Jz (p:=⟨p.nodes,p.places.filter f⟩) h.wT hw.cap hn fun k hk=>?_
 refine Nat.le_trans (AO ?_) (cA.SP h hw hn k hk)
 exact (List.filter_sublist (l:=p.places) (p:=f)).filter _
theorem VC {p:cA} (hw:p.w) (f:Place→Bool):cA.w ⟨p.nodes,p.places.filter f⟩:=⟨hw.cap,fun x hx=>hw.v x (List.mem_filter.1 hx).1⟩
theorem wW:bG.zero.w:=by
 intro k hk;have:bG.zero.at_ k=0:=by unfold bG.at_;split<;>rfl
 rw [this];omega
theorem rS {α:Type} {l:List α} {i:Nat} {x y:α} (h:y∈l.set i x):y∈l∨y=x:=by
 rcases List.mem_or_eq_of_mem_set h with h|h
 ·exact .inl h
 exact .inr h
theorem PR {l:List Node} {i:Nat} {x:Node} {up:Bool} (hx:l[i]?=some x) (name:aI):
 (dM name (l.set i {x with up:=up})).1.cap=(dM name l).1.cap∧(dM name (l.set i {x with up:=up})).2=(dM name l).2:=by
 have key:(l.set i {x with up:=up}).find? (fun y=>decide (y.name=name))=(l.find? (fun y=>decide (y.name=name))).map (fun y=>if y=x∧l.findIdx? (fun y=>decide (y.name=name))=some i then {x with up:=up} else y):=by
  induction l generalizing i with
  |nil=>simp at hx
  |cons m r ih=>
   cases i with
   |zero=>
    simp at hx;subst hx
    simp only [List.set_cons_zero,List.find?_cons,List.findIdx?_cons]
    by_cases hm:m.name=name
    ·simp [hm]
    simp only [hm,decide_false]
    cases hf:r.find? (fun y=>decide (y.name=name)) with
    |none=>simp
    |some z=>simp
   |succ i=>
    simp only [List.getElem?_cons_succ] at hx
    have:=ih hx
    simp only [List.set_cons_succ,List.find?_cons,List.findIdx?_cons]
    by_cases hm:m.name=name
    ·simp [hm]
    simp only [hm,decide_false]
    rw [this]
    simp
 unfold dM
 rw [key]
 cases hf:l.find? (fun y=>decide (y.name=name)) with
 |none=>simp
 |some z=>
  simp only [Option.map_some]
  split
  ·rename_i h;rw [h.1];simp
  simp
theorem MO {l:List Node} {i:Nat} {x:Node} {up:Bool} (hx:l[i]?=some x) (name:aI) (ps:List Place):cB name (l.set i {x with up:=up}) ps=cB name l ps:=by
 obtain ⟨h1,h2⟩:=PR (up:=up) hx name
 unfold cB;rw [h1,h2]
theorem C0 {l:List Node} {i:Nat} {x:Node} {up:Bool} (hx:l[i]?=some x):(l.set i {x with up:=up}).map (·.name)=l.map (·.name):=by
 apply List.ext_getElem?
 intro j
 simp only [List.getElem?_map,List.getElem?_set]
 split
 ·rename_i e;subst e;rw [hx];split<;>simp;
  rename_i h;have:=(List.getElem?_eq_some_iff.1 hx).1;omega
 rfl
theorem MP {l m:List Node} (h:l.map (·.name)=m.map (·.name)) (ha:Jv m):Jv l:=by
 have h1:(m.map (·.name)).Pairwise (fun a b=>a<b):=List.pairwise_map.2 ha
 rw [←h] at h1
 exact List.pairwise_map.1 h1
theorem SR {p:cA} (h:p.ok) (hw:p.w) (name:aI) (up:Bool):(fJ p name up).1.ok∧(fJ p name up).1.w:=by
 unfold fJ
 split
 ·rename_i i x h1 h2
  split
  ·exact ⟨h,hw⟩
  obtain ⟨hi,hp,_⟩:=List.findIdx?_eq_some_iff_getElem.1 h1
  have hx:p.nodes[i]?=some x:=by
   have:=cC (p:=fun x:Node=>decide (x.name=name)) (l:=p.nodes) rfl
   rcases this with ⟨_,h3,_⟩|⟨j,y,_,_,hy,_,h3,h4⟩
   ·rw [h1] at h3;cases h3
   rw [h1] at h3;cases h3;rw [h2] at h4;cases h4;exact hy
  have hm:x∈p.nodes:=List.mem_of_getElem? hx
  refine ⟨⟨MP (C0 hx) h.wT,?_,?_,by simpa using h.most,?_⟩,⟨?_,hw.v⟩⟩
  ·intro n hn;rcases rS hn with hn|rfl
   ·exact h.yS n hn
   exact h.yS x hm
  ·intro n hn
   show (cB n.name (p.nodes.set i {x with up:=up}) p.places).2=true
   rw [MO hx]
   rcases rS hn with hn|rfl
   ·exact h.free n hn
   exact h.free x hm
  ·intro y hy
   obtain ⟨n,hn,e⟩:=h.here y hy
   have:n.name∈(p.nodes.set i {x with up:=up}).map (·.name):=by rw [C0 hx];exact List.mem_map.2 ⟨n,hn,rfl⟩
   obtain ⟨m,hm,em⟩:=List.mem_map.1 this
   exact ⟨m,hm,by rw [em,e]⟩
  intro n hn;rcases rS hn with hn|rfl
  ·exact hw.cap n hn
  exact hw.cap x hm
 exact ⟨h,hw⟩
theorem tO {name:aI} {v:bG} {l:List Node} {ps:List Place} (h:m8 name v l ps=0):(dM name l).2=true∧(dM name l).1.up=true∧(cB name l ps).2=true∧lg v (cB name l ps).1=true:=by
 unfold m8 at h
 split at h
 ·omega
 split at h
 ·omega
 split at h
 ·omega
 rename_i h1 h2 h3
 simp only [Bool.or_eq_true,not_or,Bool.not_eq_true',Bool.not_eq_false] at h1 h2 h3
 exact ⟨h1,h2,h3.1,h3.2⟩
theorem LF {p:cA} (h:p.ok) (hw:p.w) {name:aI} {v:bG} (hv:v.w) (bz:Int) (h0:m8 name v p.nodes p.places=0):cA.ok ⟨p.nodes,p.places++[⟨bz,name,v⟩]⟩∧cA.w ⟨p.nodes,p.places++[⟨bz,name,v⟩]⟩:=by
 obtain ⟨r1,r2,r3,r4⟩:=tO h0
 obtain ⟨m1,m2⟩:=Jx r1
 refine ⟨⟨h.wT,h.yS,fun n hn=>?_,h.most,?_⟩,⟨hw.cap,?_⟩⟩
 ·show (cB n.name p.nodes (p.places++[⟨bz,name,v⟩])).2=true
  rw [gS h.wT hn,MN]
  have hl:=h.free n hn
  rw [gS h.wT hn] at hl
  unfold cH
  split
  ·rename_i g
   simp only [Bool.and_eq_true,decide_eq_true_eq] at g
   obtain ⟨g1,g2⟩:=g
   rw [cB,g2,] at r4
   have e:cB name p.nodes p.places=left n.name p.places (n.cap,true):=by
    rw [g2,wV h.wT hn,if_pos hl]
   rw [←g2] at r4
   have r4':lg v (left n.name p.places (n.cap,true)).1=true:=by rw [←e,g2];unfold cB;rw [←g2];exact r4
   exact r4'
  exact hl
 ·intro x hx
  rcases List.mem_append.1 hx with hx|hx
  ·exact h.here x hx
  simp at hx;subst hx;exact ⟨_,m1,m2⟩
 intro x hx
 rcases List.mem_append.1 hx with hx|hx
 ·exact hw.v x hx
 simp at hx;subst hx;exact hv
theorem C1 (l:List Node) (bz:Int) {v:bG} (hv:v.w):∀(names:List aI) (ps:List Place),cA.ok ⟨l,ps⟩→cA.w ⟨l,ps⟩→(fB l bz v names ps).1=none→cA.ok ⟨l,(fB l bz v names ps).2⟩∧cA.w ⟨l,(fB l bz v names ps).2⟩
 |[],ps,h,hw,_=>⟨h,hw⟩
 |n::r,ps,h,hw,g=>by
  unfold fB at g ⊢
  split
  ·rename_i h1;rw [if_pos h1] at g;cases g
  rename_i h1
  rw [if_neg h1] at g
  have h0:m8 n v l ps=0:=by omega
  obtain ⟨a,b⟩:=LF (p:=⟨l,ps⟩) h hw hv bz h0
  exact C1 l bz hv r _ a b g
theorem VD {p:cA} (h:p.ok) (hw:p.w) (bz:Int) (names:List aI) {v:bG} (hv:v.w):(tN p bz names v).1.ok∧(tN p bz names v).1.w:=by
 unfold tN
 split
 ·exact ⟨h,hw⟩
 rename_i g;exact C1 p.nodes bz hv names p.places h hw g
theorem GZ (l:List Node) (nm:aI):pat l nm≤l.length∧(∀n∈l.take (pat l nm),n.name<nm)∧(∀n,l[pat l nm]?=some n→¬n.name<nm):=by
 unfold pat
 split
 ·rename_i k hk
  obtain ⟨wi,hp,hb⟩:=List.findIdx?_eq_some_iff_getElem.1 hk
  refine ⟨by omega,?_,?_⟩
  ·intro n hn
   obtain ⟨j,hj⟩:=List.getElem?_of_mem hn
   rw [List.getElem?_take] at hj
   split at hj
   ·rename_i U3
    rw [List.getElem?_eq_getElem (by omega)] at hj
    cases hj
    have:=hb j U3
    simpa [CY] using this
   cases hj
  intro n hn
  rw [List.getElem?_eq_getElem wi] at hn;cases hn
  simpa [CY] using hp
 rename_i hk
 rw [List.findIdx?_eq_none_iff] at hk
 refine ⟨Nat.le_refl _,?_,?_⟩
 ·intro n hn
  rw [List.take_length] at hn
  have:=hk n hn
  simpa [CY] using this
 intro n hn;simp at hn
theorem zl {l:List Node} {k:Nat} {x y:Node}:y∈l.take k++x::l.drop k↔y∈l∨y=x:=by
 rw [List.mem_append,List.mem_cons]
 constructor
 ·rintro (h|h|h)
  ·exact .inl (List.mem_of_mem_take h)
  ·exact .inr h
  exact .inl (List.mem_of_mem_drop h)
 rintro (h|h)
 ·rw [←List.take_append_drop k l,List.mem_append] at h
  rcases h with h|h
  ·exact .inl h
  exact .inr (.inr h)
 exact .inr (.inl h)
theorem SS {l:List Node} (ha:Jv l) {x:Node} (hn:∀n∈l,n.name≠x.name):Jv (l.take (pat l x.name)++x::l.drop (pat l x.name)):=by
 obtain ⟨h1,h2,h3⟩:=GZ l x.name
 have hs:=ha
 rw [←List.take_append_drop (pat l x.name) l] at hs
 have hs':=List.pairwise_append.1 hs
 have hd:∀n∈l.drop (pat l x.name),x.name<n.name:=by
  intro n hm
  cases hc:l.drop (pat l x.name) with
  |nil=>rw [hc] at hm;cases hm
  |cons m r=>
   have hlt:pat l x.name<l.length:=by
    rcases Nat.lt_or_ge (pat l x.name) l.length with h|h
    ·exact h
    rw [List.drop_eq_nil_of_le h] at hc;cases hc
   have hg:l[pat l x.name]?=some m:=by
    have:(l.drop (pat l x.name))[0]?=some m:=by rw [hc];rfl
    simpa using this
   have ZF:m∈l:=List.mem_of_getElem? hg
   have Zc:x.name<m.name:=by
    rcases LB x.name m.name with h|h|h
    ·exact h
    ·exact absurd h.symm (hn m ZF)
    exact absurd h (h3 m hg)
   rw [hc] at hm
   rcases List.mem_cons.1 hm with rfl|hm
   ·exact Zc
   have:=hs'.2.1;rw [hc] at this
   exact wS Zc ((List.pairwise_cons.1 this).1 n hm)
 refine List.pairwise_append.2 ⟨hs'.1,List.pairwise_cons.2 ⟨hd,hs'.2.1⟩,?_⟩
 intro a Yc b hb
 rcases List.mem_cons.1 hb with rfl|hb
 ·exact h2 a Yc
 exact hs'.2.2 a Yc b hb
theorem tP (p:cA) (n:Node):((qz p n).1=p∧(qz p n).2≠0)∨(n.yS=true∧(∀m∈p.nodes,m.name≠n.name)∧p.nodes.length<16∧
 qz p n=(⟨p.nodes.take (pat p.nodes n.name)++{n with up:=true}::p.nodes.drop (pat p.nodes n.name),p.places⟩,0)):=by
 unfold qz
 split
 ·exact .inl ⟨rfl,by simp⟩
 split
 ·exact .inl ⟨rfl,by simp⟩
 split
 ·exact .inl ⟨rfl,by simp⟩
 split
 ·exact .inl ⟨rfl,by simp⟩
 rename_i h1 h2 h3 h4
 simp only [Bool.not_eq_true',Bool.not_eq_false] at h1 h2
 refine .inr ⟨by simp [Node.yS,h1,h2],?_,by omega,rfl⟩
 rw [←iR] at h3
 intro m hm e
 exact h3 (List.any_eq_true.2 ⟨m,hm,by simp [e]⟩)
theorem MQ {name:aI} {ps:List Place} (h:∀x∈ps,x.node≠name) (v:bG×Bool):left name ps v=v:=by
 unfold left
 induction ps generalizing v with
 |nil=>rfl
 |cons x r ih=>
  rw [List.foldl_cons,show cH name v x=v by simp [cH,h x (by simp)]]
  exact ih (fun y hy=>h y (by simp [hy])) v
theorem VE {p:cA} (h:p.ok) (hw:p.w) {n:Node} (hc:n.cap.w):(qz p n).1.ok∧(qz p n).1.w:=by
 rcases tP p n with ⟨e,_⟩|⟨h1,h2,h3,e⟩
 ·rw [e];exact ⟨h,hw⟩
 rw [e]
 have ha:Jv (p.nodes.take (pat p.nodes n.name)++{n with up:=true}::p.nodes.drop (pat p.nodes n.name)):=SS (x:={n with up:=true}) h.wT h2
 refine ⟨⟨ha,?_,?_,?_,?_⟩,⟨?_,hw.v⟩⟩
 ·intro m hm;rcases zl.1 hm with hm|rfl
  ·exact h.yS m hm
  exact h1
 ·intro m hm
  show (cB m.name (p.nodes.take (pat p.nodes n.name)++{n with up:=true}::p.nodes.drop (pat p.nodes n.name)) p.places).2=true
  rw [gS ha hm]
  rcases zl.1 hm with hm|rfl
  ·have:=h.free m hm;rwa [gS h.wT hm] at this
  rw [MQ]
  intro x hx e
  obtain ⟨m,hm,em⟩:=h.here x hx
  exact h2 m hm (by rw [em,e])
 ·have:=(GZ p.nodes n.name).1;simp;omega
 ·intro x hx
  obtain ⟨m,hm,em⟩:=h.here x hx
  exact ⟨m,zl.2 (.inl hm),em⟩
 intro m hm;rcases zl.1 hm with hm|rfl
 ·exact hw.cap m hm
 exact hc
def SU:aI:=[122,111,110,101]
def qE (p:cA) (bz:Int):cA:=⟨p.nodes,p.places.filter (fun x=>!decide (x.bz=bz))⟩
theorem LG:cA.ok ⟨[],[]⟩:=⟨List.Pairwise.nil,by simp,by simp,by simp,by simp⟩
theorem PS:cA.w ⟨[],[]⟩:=⟨by simp,by simp⟩
theorem wX {α β:Type} {P:α→Prop} {f:α→β→α} (hf:∀a b,P a→P (f a b)):∀(l:List β) (a:α),P a→P (l.foldl f a)
 |[],_,h=>h
 |b::r,a,h=>wX hf r (f a b) (hf a b h)
structure Jb where
 id:Int
 x:Ask
 runs:Bool
 left:Int
deriving DecidableEq
def Jb.zero:Jb:=⟨0,Ask.zero,false,0⟩
instance:Inhabited Jb:=⟨Jb.zero⟩
structure dU where
 round:Int
 id:Int
 kind:Int
deriving DecidableEq
instance:Inhabited dU:=⟨⟨0,0,0⟩⟩
structure Cf where
 first:Int
 l:List dU
deriving DecidableEq
structure aU where
 round:Int
 next:Int
 aG:cA
 tree:List bc
 av:List Jb
 queue:List ct
 ev:Cf
 au:Cf
def dU.cells (n:dU):List D:=[.int .u64 n.round,.int .u64 n.id,.int .i64 n.kind]
def Jb.cells (j:Jb):List D:=[.int .u64 j.id,.str j.x.path,.int .u64 j.x.fY.a,.int .u64 j.x.fY.b,.int .u64 j.x.fY.c,.int .u64 j.x.fY.d,.int .i64 j.x.count,.int .i64 j.x.prio,.int .i64 j.x.eI,.sl (j.x.cg.map Term.cells),.bool j.runs,.int .i64 j.left]
def aU.zero:aU:=⟨0,0,⟨[],[]⟩,[],[],[],⟨0,[]⟩,⟨0,[]⟩⟩
def Cg:aU:={aU.zero with next:=1,tree:=[⟨[],bG.zero,bG.zero⟩]}
def Ew (l:List Jb) (id:Int):Int:=idxOf (fun j=>decide (j.id=id)) l
def bD (l:List Jb) (id:Int):Jb×Bool:=match l.find? (fun j=>decide (j.id=id)) with
 |some j=>(j,true)
 |none=>(Jb.zero,false)
def u64 (n:Int):Int:=n%18446744073709551616
def tell (x:Cf) (n:dU):Cf:=if 32<(x.l++[n]).length then ⟨u64 (x.first+1),(x.l++[n]).drop 1⟩ else ⟨x.first,x.l++[n]⟩
def jH (t:List bc) (p:aI):Bool:=!((mB p++[[]]).any fun q=>!(qD t q).2)
def iM (s:aU) (id kind:Int):aU:={s with ev:=tell s.ev ⟨s.round,id,kind⟩}
def c7 (s:aU) (x:Ask):aU×Int×Int:=
 if eS x≠0 then (s,0,eS x) else
 if !jH s.tree x.path then (s,0,7) else
 if 32≤s.av.length∨s.next=18446744073709551615 then (s,0,9) else
 if (jW s.queue ⟨s.next,x.prio⟩).2≠0 then (s,0,(jW s.queue ⟨s.next,x.prio⟩).2) else
 (iM {s with queue:=(jW s.queue ⟨s.next,x.prio⟩).1,av:=s.av++[⟨s.next,x,false,0⟩],next:=u64 (s.next+1)} s.next 1,s.next,0)
def C2 (s:aU) (k:Nat) (j:Jb):aU:={s with av:=s.av.set k j}
def jI (s:aU) (k:Nat) (j:Jb) (id:Int) (nodes:List aI):aU×Int:=
 if j.runs then (s,15) else if (nodes.length:Int)≠j.x.count then (s,1) else
 if !(cV j.x).2 then (s,5) else
 if (cY s.tree j.x.path (cV j.x).1).2≠0 then (s,(cY s.tree j.x.path (cV j.x).1).2) else
 if (tN s.aG id nodes j.x.fY).2≠0 then (s,(tN s.aG id nodes j.x.fY).2) else
 (iM (C2 {s with tree:=(cY s.tree j.x.path (cV j.x).1).1,aG:=(tN s.aG id nodes j.x.fY).1,queue:=(AM s.queue id).1} k {j with runs:=true,left:=j.x.eI}) id 2,0)
def bS (s:aU) (id:Int) (nodes:List aI):aU×Int:=match s.av.findIdx? (fun j=>decide (j.id=id)) with
 |none=>(s,7)
 |some k=>jI s k (s.av.getD k Jb.zero) id nodes
def ng (s:aU) (j:Jb):aU:=
 {s with tree:=(if (cV j.x).2 then (rR s.tree j.x.path (cV j.x).1).1 else s.tree),aG:=qE s.aG j.id}
def gC (s:aU) (id kind:Int):aU×Int:=match s.av.findIdx? (fun j=>decide (j.id=id)) with
 |none=>(s,7)
 |some k=>if !(s.av.getD k Jb.zero).runs then (s,15) else
  (iM (C2 {ng s (s.av.getD k Jb.zero) with queue:=(jW s.queue ⟨id,(s.av.getD k Jb.zero).x.prio⟩).1} k {s.av.getD k Jb.zero with runs:=false,left:=0}) id kind,0)
def send (s:aU) (id kind:Int):aU×Int:=match s.av.findIdx? (fun j=>decide (j.id=id)) with
 |none=>(s,7)
 |some k=>(iM {(if (s.av.getD k Jb.zero).runs then ng s (s.av.getD k Jb.zero) else {s with queue:=(AM s.queue id).1}) with av:=s.av.eraseIdx k} id kind,0)
end Dem
end
section
open Go Go.Proofs Go.ChangeShapes Go.WideShapes Go.RowKit
namespace Dem
theorem trodAll_nil {H:Type} {enc:TypeId×Value→H} {P:Program} {W:World} {vs:List Value} {ds:List (DataW H)} {ps:List MemPlace} (h:DataW.TrodAll enc P W 0 (fun _=>true) true [] vs ds ps):vs=[]∧ds=[]:=by
 cases vs with
 |nil=>cases ds with
  |nil=>exact ⟨rfl,rfl⟩
  |cons d ds=>exact h.elim
 |cons v vs=>cases ds<;>exact h.elim
theorem trodAll_cons {H:Type} {enc:TypeId×Value→H} {P:Program} {W:World} {t:TypeId} {ts:List TypeId} {vs:List Value} {ds:List (DataW H)} {ps:List MemPlace} (h:DataW.TrodAll enc P W 0 (fun _=>true) true (t::ts) vs ds ps):
 ∃v vs' d ds' p q,vs=v::vs'∧ds=d::ds'∧DataW.Trod enc P W 0 (fun _=>true) true t v d p∧DataW.TrodAll enc P W 0 (fun _=>true) true ts vs' ds' q:=by
 cases vs with
 |nil=>cases ds<;>exact h.elim
 |cons v vs=>cases ds with
  |nil=>exact h.elim
  |cons d ds=>
   obtain ⟨p,q,h1,h2,rfl⟩:=h
   exact ⟨v,vs,d,ds,p,q,rfl,rfl,h1,h2⟩
section
variable {H:Type} {enc:TypeId×Value→H} {W:World} {v:Value} {d:DataW H} {p:List MemPlace} {base:Nat}
abbrev okW (W:World):Nat→Prop:=bg (fun _=>0) [] W (fun _=>False)
theorem VF (W:World):∀blk,blk<W.heap.size→okW W blk:=fun blk hb=>⟨hb,fun h=>h,fun i b hb=>by simp at hb⟩
theorem LH {α:Type} {cells:α→List D} {Q:α→Prop}:∀(es:List (List D)),(∀r∈es,∃x,r=cells x∧Q x)→∃l:List α,es=l.map cells∧∀x∈l,Q x
 |[],_=>⟨[],rfl,by simp⟩
 |r::es,h=>by
  obtain ⟨x,rfl,hx⟩:=h r (by simp)
  obtain ⟨l,rfl,hl⟩:=LH es (fun r hr=>h r (by simp [hr]))
  exact ⟨x::l,rfl,fun y hy=>by rcases List.mem_cons.1 hy with rfl|hy;exact hx;exact hl y hy⟩
end
end Dem
end
section
open Go
namespace Dem
theorem C3 (c:UInt8):∀(s:aI),∀x∈bR c s,c ∉ x
 |[],x,h=>by simp [bR] at h;subst h;simp
 |y::ys,x,h=>by
  have ih:=C3 c ys
  unfold bR at h
  split at h
  ·rcases List.mem_cons.1 h with rfl|h
   ·simp
   exact ih x h
  rename_i hy
  split at h
  ·rename_i hd r e
   rcases List.mem_cons.1 h with rfl|h
   ·have:=ih hd (by rw [e];simp)
    intro g;rcases List.mem_cons.1 g with g|g
    ·exact hy g.symm
    exact this g
   exact ih x (by rw [e];simp [h])
  simp at h;subst h
  intro g;simp at g;exact hy g.symm
theorem AP (s:aI):∀(x:aI),(47:UInt8) ∉ x→bR 47 (x++47::s)=x::bR 47 s
 |[],_=>by simp [bR]
 |a::x,h=>by
  have ha:a≠47:=fun g=>h (by simp [g])
  have ih:=AP s x (fun g=>h (by simp [g]))
  rw [List.cons_append,bR,if_neg ha,ih]
theorem n7:fm []=[]:=Lib.join_nil _
theorem rT (x:aI):fm [x]=x:=by simp [fm,Lib.join_cons,Lib.joinTail]
theorem nh (x y:aI) (r:List aI):fm (x::y::r)=x++47::fm (y::r):=by
 show Lib.join (x::y::r) [47]=_
 rw [Lib.join_cons,sM]
theorem AQ (x:aI):∀l:List aI,l≠[]→fm (l++[x])=fm l++47::x
 |[],h=>absurd rfl h
 |[a],_=>by rw [List.singleton_append,nh,rT,rT]
 |a::b::l,_=>by
  have ih:=AQ x (b::l) (by simp)
  rw [List.cons_append] at ih
  rw [List.cons_append,List.cons_append,nh,ih,nh];simp
theorem yl:∀l:List aI,l≠[]→(∀x∈l,(47:UInt8) ∉ x)→bR 47 (fm l)=l
 |[],h,_=>absurd rfl h
 |[x],_,h=>by rw [rT];exact AN (List.count_eq_zero.2 (h x (by simp)))
 |x::y::r,_,h=>by
  rw [nh,AP _ x (h x (by simp)),yl (y::r) (by simp) (fun z hz=>h z (by simp [hz]))]
theorem ym (s:aI):parts s=[]∨(parts s=bR 47 s∧(bR 47 s).length≤3∧∀x∈bR 47 s,dY x=true):=by
 unfold parts
 split
 ·exact .inl rfl
 rename_i h
 simp only [Bool.or_eq_true,decide_eq_true_eq,List.any_eq_true,not_or] at h
 refine .inr ⟨rfl,by omega,fun x hx=>?_⟩
 cases e:dY x with
 |true=>rfl
 |false=>exact absurd ⟨x,hx,by simp [e]⟩ h.2
theorem yo {s x:aI} (h:x∈parts s):dY x=true:=by
 rcases ym s with e|⟨e,_,h2⟩
 ·rw [e] at h;cases h
 exact h2 x (by rw [←e];exact h)
theorem MR {x:aI} (h:dY x=true):x≠[]:=by
 rintro rfl;simp [dY] at h
theorem C4:parts []=[]:=by
 have:dY []=false:=by simp [dY]
 simp [parts,bR,this]
theorem parts_eq {s:aI} {l:List aI} (hs:bR 47 s=l) (hl:l.length≤3) (hr:l.any (fun n=>!dY n)=false):parts s=l:=by
 unfold parts;rw [hs,hr,if_neg (by simp;omega)]
theorem JA (s:aI) (k:Nat):parts (fm ((parts s).take k))=(parts s).take k:=by
 rcases ym s with e|⟨e,h1,h2⟩
 ·rw [e];simp [n7,C4]
 cases k with
 |zero=>simp [n7,C4]
 |succ k=>
  have hne:(parts s).take (k+1)≠[]:=by
   rw [e];have:=CU 47 s
   cases h:bR 47 s with
   |nil=>exact absurd h this
   |cons a r=>simp
  have hs:bR 47 (fm ((parts s).take (k+1)))=(parts s).take (k+1):=by
   refine yl _ hne fun x hx=>?_
   have:=List.mem_of_mem_take hx
   rw [e] at this
   exact C3 47 s x this
  have hl:((parts s).take (k+1)).length≤3:=by rw [List.length_take,e];omega
  have hr:((parts s).take (k+1)).any (fun n=>!dY n)=false:=by
   rw [List.any_eq_false];intro x hx
   rw [yo (List.mem_of_mem_take hx)];simp
  exact parts_eq hs hl hr
def mT (P:aI) (k:Nat):aI:=fm ((parts P).take k)
theorem C5 (P:aI):above P=(List.range ((parts P).length+1)).map (mT P):=by
 rw [List.range_succ_eq_map,List.map_cons,List.map_map]
 have h0:mT P 0=[]:=by simp [mT,n7]
 rw [above,h0];rfl
theorem rU {P q:aI}:q∈above P↔∃k,k≤(parts P).length∧q=mT P k:=by
 rw [C5,List.mem_map]
 constructor
 ·rintro ⟨k,h,rfl⟩;rw [List.mem_range] at h;exact ⟨k,by omega,rfl⟩
 rintro ⟨k,h,rfl⟩;exact ⟨k,List.mem_range.2 (by omega),rfl⟩
theorem C6 (P:aI):mT P 0=[]:=by simp [mT,n7]
theorem G0 (P:aI) (k:Nat):parts (mT P k)=(parts P).take k:=JA P k
theorem SV {P:aI} {i k:Nat} (h:i≤k):mT (mT P k) i=mT P i:=by
 show fm ((parts (mT P k)).take i)=fm ((parts P).take i)
 rw [G0,List.take_take,Nat.min_eq_left h]
theorem PU {P:aI} {k:Nat} (h:k<(parts P).length):(mT P k).length<(mT P (k+1)).length:=by
 have e:(parts P).take (k+1)=(parts P).take k++[(parts P)[k]]:=by rw [List.take_add_one,List.getElem?_eq_getElem h];rfl
 have hne:=MR (yo (List.getElem_mem h))
 unfold mT
 rw [e]
 cases k with
 |zero=>
  simp only [List.take_zero,List.nil_append,n7,rT]
  exact List.length_pos_iff.2 hne
 |succ k=>
  rw [AQ _ _ (by intro g;have:=congrArg List.length g;simp at this;rw [this] at h;simp at h)]
  simp
theorem Ey {P:aI} {i:Nat}:∀{j:Nat},i<j→j≤(parts P).length→(mT P i).length<(mT P j).length
 |0,h,_=>by omega
 |j+1,h,hj=>by
  have h1:=PU (P:=P) (k:=j) (by omega)
  by_cases e:i=j
  ·rw [e];exact h1
  exact Nat.lt_trans (Ey (by omega) (by omega)) h1
theorem PV {P:aI} {i j:Nat} (hi:i≤(parts P).length) (hj:j≤(parts P).length) (h:mT P i=mT P j):i=j:=by
 rcases Nat.lt_trichotomy i j with g|g|g
 ·have:=Ey g hj;rw [h] at this;omega
 ·exact g
 have:=Ey g hi;rw [h] at this;omega
theorem PW {P:aI} {k:Nat} (h:k≤(parts P).length):above (mT P k)=(List.range (k+1)).map (mT P):=by
 rw [C5,G0,List.length_take,Nat.min_eq_left h]
 refine List.map_congr_left fun i hi=>?_
 rw [List.mem_range] at hi
 exact SV (by omega)
theorem wY {P:aI} {k:Nat} (h:k≤(parts P).length):parent (mT P k)=mT P (k-1):=by
 unfold parent
 rw [PW h]
 simp only [lgM,List.length_range]
 rw [List.getD_eq_getElem?_getD,List.getElem?_map,List.getElem?_range (by omega)]
 simp [show k+1-2=k-1 by omega]
theorem JB {P q r:aI} (hq:q∈above P) (hr:r∈above P) (q0:q≠[]) (r0:r≠[]) (h:parent q=parent r):q=r:=by
 obtain ⟨i,hi,rfl⟩:=rU.1 hq
 obtain ⟨j,hj,rfl⟩:=rU.1 hr
 rw [wY hi,wY hj] at h
 have i0:i≠0:=by rintro rfl;exact q0 (C6 P)
 have j0:j≠0:=by rintro rfl;exact r0 (C6 P)
 have:=PV (by omega) (by omega) h
 rw [show i=j by omega]
theorem JC {P q:aI} (hq:q∈above P):parent q∈above P:=by
 obtain ⟨i,hi,rfl⟩:=rU.1 hq
 rw [wY hi];exact rU.2 ⟨i-1,by omega,rfl⟩
theorem C7 (P:aI):[]∈above P:=by simp [above]
theorem yq {P q:aI}:(decide (q=[])||nH q P)=decide (q∈above P):=by
 by_cases h:q=[]
 ·subst h;simp [C7]
 simp only [above,List.mem_cons,h,false_or,decide_false,Bool.false_or,nH]
 by_cases g:q∈mB P
 ·simp [g]
 simp [g]
structure iv where
 bz:Int
 cnt:Int
def iv.cells (m:iv):List D:=[.int .u64 m.bz,.int .i64 m.cnt]
def n8 (l:List Int):List Int:=l.mergeSort (fun x y=>decide (x≤y))
theorem AR {l m:List Int} (hl:l.Pairwise (fun x y=>x≤y)) (hm:m.Pairwise (fun x y=>x≤y)) (h:l.Perm m):l=m:=
 h.eq_of_pairwise (fun a b _ _ h1 h2=>Int.le_antisymm h1 h2) hl hm
theorem ko (l:List Int):(n8 l).Perm l:=List.mergeSort_perm _ _
@[simp] theorem Ez (l:List Int):(n8 l).length=l.length:=(ko l).length_eq
theorem rV (l:List Int):(n8 l).Pairwise (fun x y=>x≤y):=by
 have:=List.pairwise_mergeSort (le:=fun x y:Int=>decide (x≤y)) (by intro a b c;simp;omega) (by intro a b;simp;omega) l
 exact this.imp (by simp)
def gD (name:aI) (js:List Int) (x:Place):List Int:=if x.node=name then (if x.bz∈js then js else js++[x.bz]) else js
def fN (name:aI) (ps:List Place):List Int:=ps.foldl (gD name) []
def EA (name:aI) (ps:List Place):List Int:=n8 (fN name ps)
def sN (p:cA) (name:aI):cA×List Int×Int:=
 if (fJ p name false).2=0 then ((fJ p name false).1,EA name p.places,0) else ((fJ p name false).1,[],(fJ p name false).2)
def gB:List iv→Int→Int→List iv
 |[],j,c=>[⟨j,c⟩]
 |m::l,j,c=>if j=m.bz then ⟨j,c⟩::l else m::gB l j c
theorem G1:∀(l:List iv) (j:Int),wm (l.map iv.cells) (.int .u64 j)=none∨∃x,wm (l.map iv.cells) (.int .u64 j)=some [.int .i64 x]
 |[],_=>.inl rfl
 |m::l,j=>by
  simp only [List.map_cons,iv.cells,wm,pp]
  by_cases h:j=m.bz
  ·subst h;exact .inr ⟨m.cnt,by simp⟩
  have:=G1 l j
  simpa [h] using this
theorem vu:∀(l:List iv) (j c:Int),sn (l.map iv.cells) (.int .u64 j) [.int .i64 c]=(gB l j c).map iv.cells
 |[],_,_=>rfl
 |m::l,j,c=>by
  simp only [List.map_cons,gB]
  by_cases h:j=m.bz
  ·subst h;simp [iv.cells,sn,pp]
  simp only [if_neg h,List.map_cons]
  rw [←vu l j c]
  simp [iv.cells,sn,pp,h]
theorem kN:∀(l:List iv) (j c:Int),(gB l j c).map iv.bz=if j∈l.map iv.bz then l.map iv.bz else l.map iv.bz++[j]
 |[],_,_=>by simp [gB]
 |m::l,j,c=>by
  simp only [gB]
  by_cases h:j=m.bz
  ·subst h;simp
  rw [if_neg h,List.map_cons,List.map_cons,kN l j c]
  by_cases h2:j∈l.map iv.bz
  ·simp [h2]
  rw [if_neg h2,if_neg (by simp only [List.mem_cons];rintro (g|g);exact h g;exact h2 g)];rfl
theorem nI (name:aI):∀(ps:List Place) (js:List Int),js.Nodup→(ps.foldl (gD name) js).Nodup
 |[],_,h=>h
 |x::r,js,h=>by
  rw [List.foldl_cons]
  refine nI name r _ ?_
  unfold gD
  split
  ·split
   ·exact h
   rename_i g
   rw [List.nodup_append]
   exact ⟨h,by simp,fun a ha b hb e=>g (by simp at hb;rw [←hb,←e];exact ha)⟩
  exact h
theorem qG (name:aI) (j:Int):∀(ps:List Place) (js:List Int),j∈ps.foldl (gD name) js↔j∈js∨∃x∈ps,x.node=name∧x.bz=j
 |[],js=>by simp
 |x::r,js=>by
  rw [List.foldl_cons,qG name j r]
  unfold gD
  by_cases hx:x.node=name
  ·rw [if_pos hx]
   by_cases hj:x.bz∈js
   ·rw [if_pos hj]
    constructor
    ·rintro (h|⟨y,hy,g⟩)
     ·exact .inl h
     exact .inr ⟨y,by simp [hy],g⟩
    rintro (h|⟨y,hy,g1,g2⟩)
    ·exact .inl h
    rcases List.mem_cons.1 hy with rfl|hy
    ·exact .inl (by rw [←g2];exact hj)
    exact .inr ⟨y,hy,g1,g2⟩
   rw [if_neg hj]
   constructor
   ·rintro (h|⟨y,hy,g⟩)
    ·rcases List.mem_append.1 h with h|h
     ·exact .inl h
     simp at h;exact .inr ⟨x,by simp,hx,h.symm⟩
    exact .inr ⟨y,by simp [hy],g⟩
   rintro (h|⟨y,hy,g1,g2⟩)
   ·exact .inl (by simp [h])
   rcases List.mem_cons.1 hy with rfl|hy
   ·exact .inl (by simp [g2])
   exact .inr ⟨y,hy,g1,g2⟩
  rw [if_neg hx]
  constructor
  ·rintro (h|⟨y,hy,g⟩)
   ·exact .inl h
   exact .inr ⟨y,by simp [hy],g⟩
  rintro (h|⟨y,hy,g1,g2⟩)
  ·exact .inl h
  rcases List.mem_cons.1 hy with rfl|hy
  ·exact absurd g1 hx
  exact .inr ⟨y,hy,g1,g2⟩
theorem vv (name:aI):∀(ps:List Place) (js:List Int),js.length≤(ps.foldl (gD name) js).length
 |[],_=>Nat.le_refl _
 |x::r,js=>by
  rw [List.foldl_cons]
  refine Nat.le_trans ?_ (vv name r _)
  unfold gD
  split
  ·split<;>simp
  exact Nat.le_refl _
theorem G2 (name:aI) (ps:List Place) (k:Nat):(fN name (ps.take k)).length≤(fN name ps).length:=by
 have h:=vv name (ps.drop k) (fN name (ps.take k))
 unfold fN at h ⊢
 rwa [←List.foldl_append,List.take_append_drop] at h
theorem PX {name:aI} {ps:List Place} {j:Int}:j∈EA name ps↔∃x∈ps,x.node=name∧x.bz=j:=by
 unfold EA
 rw [(ko _).mem_iff,fN,qG];simp
theorem PY (name:aI) (ps:List Place):(EA name ps).Pairwise (fun x y=>x<y):=by
 have h1:=rV (fN name ps)
 have h2:(EA name ps).Nodup:=(ko _).nodup_iff.2 (nI name ps [] List.nodup_nil)
 exact h1.imp₂ (fun a b h g=>by have:a≠b:=g;omega) h2
def Yd (s:aU) (prev:Option Int) (j:Jb):Bool:=
 if j.id<1 then false else if s.next≤j.id then false else if (match prev with|none=>false|some p=>decide (j.id≤p)) then false else
 if eS j.x≠0 then false else if !jH s.tree j.x.path then false else
 if j.runs then decide (1≤j.left)&&decide (j.left≤j.x.eI) else decide (j.left=0)&&s.queue.contains ⟨j.id,j.x.prio⟩
def G3 (s:aU):Option Int→List Jb→Bool
 |_,[]=>true
 |q,j::r=>Yd s q j&&G3 s (some j.id) r
def wZ (l:List Jb):Nat:=(l.filter fun j=>!j.runs).length
def PZ:List Jb→List iv
 |l=>l.foldl (fun m j=>if j.runs then gB m j.id j.x.count else m) []
def mD (m:List iv) (id:Int):Int:=match m.find? (fun x=>decide (x.bz=id)) with
 |some x=>x.cnt
 |none=>0
def zm (l:List Jb):List Place→List iv→Option (List iv)
 |[],m=>some m
 |x::r,m=>if mD m x.bz<1 then none else if x.v≠(bD l x.bz).1.x.fY then none else zm l r (gB m x.bz (mD m x.bz-1))
def EB (s:aU):Bool:=match zm s.av s.aG.places (PZ s.av) with
 |none=>false
 |some m=>m.all fun x=>decide (x.cnt=0)
def C8 (p:aI):List Jb→bG→Option bG
 |[],v=>some v
 |j::r,v=>if !j.runs then C8 p r v else if !decide (p=[])&&!nH p j.x.path then C8 p r v else
  if !(cV j.x).2||!(jR v (cV j.x).1).2 then none else C8 p r (jR v (cV j.x).1).1
def LI (s:aU) (e:bc):Bool:=match C8 e.path s.av bG.zero with
 |none=>false
 |some v=>decide (v=e.used)
def zn (s:aU):Bool:=
 if !Ej s.aG then false else if !Es s.tree then false else if !Em s.queue then false else if 32<s.av.length then false else if s.next<1 then false else
 if 32<max s.ev.l.length s.au.l.length then false else if !G3 s none s.av then false else
 decide (wZ s.av=s.queue.length)&&EB s&&!(s.tree.any fun e=>!LI s e)
abbrev vk (k:Nat) (v:bG):Nat:=(v.at_ k).toNat
def AS (k:Nat) (l:List bc):Nat:=(l.map fun e=>vk k e.used).sum
def kids (p:aI) (l:List bc):List bc:=l.filter fun x=>!decide (x.path=[])&&decide (parent x.path=p)
theorem nj (k:Nat):vk k bG.zero=0:=by unfold vk bG.at_;split<;>rfl
theorem JD {v:bG} (h:v.w) {k:Nat} (hk:k<4):v.at_ k=(vk k v:Int)∧vk k v<18446744073709551616:=by
 have:=h k hk;unfold vk;omega
theorem P0 {a b:bG} (ha:a.w) (hb:b.w) (h:∀k<4,vk k a=vk k b):a=b:=by
 refine bG.VB fun k hk=>?_
 rw [(JD ha hk).1,(JD hb hk).1,h k hk]
theorem JE {a b:bG} (h:(jR a b).2=true):(jR a b).1.w:=by
 intro k hk
 have h1:=LD h k hk
 have h2:=Et.1 h k hk
 rw [h1];omega
theorem oX {a b:bG} (h:(jR a b).2=true) {k:Nat} (hk:k<4):vk k (jR a b).1=vk k a+vk k b:=by
 unfold vk;rw [LD h k hk];omega
theorem EC {a b:bG} (ha:a.w) (h:(dO a b).2=true) {k:Nat} (hk:k<4):vk k (dO a b).1=vk k a-vk k b:=by
 have:=(JD ha hk).2
 unfold vk at*;rw [Eu h k hk]
 have h2:((a.at_ k).toNat-(b.at_ k).toNat)%18446744073709551616=(a.at_ k).toNat-(b.at_ k).toNat:=Nat.mod_eq_of_lt (by omega)
 omega
theorem n9 {a b:bG}:(jR a b).2=true↔∀k<4,vk k a+vk k b<18446744073709551616:=Et
theorem mE {a b:bG}:lg a b=true↔∀k<4,vk k a≤vk k b:=m9
theorem oY (p:aI):∀(l:List bc) (s:bG),s.w→(∀k<4,vk k s+AS k (kids p l)<18446744073709551616)→
 ∃v,CX p l s=some v∧v.w∧∀k<4,vk k v=vk k s+AS k (kids p l)
 |[],s,hs,_=>⟨s,rfl,hs,by simp [kids,AS]⟩
 |x::r,s,hs,h=>by
  unfold CX
  by_cases h1:x.path=[]
  ·have e:kids p (x::r)=kids p r:=by simp [kids,h1]
   rw [e] at h ⊢;rw [if_pos h1]
   exact oY p r s hs h
  rw [if_neg h1]
  by_cases h2:parent x.path≠p
  ·have e:kids p (x::r)=kids p r:=by simp [kids,h2]
   rw [e] at h ⊢;rw [if_pos h2]
   exact oY p r s hs h
  have e:kids p (x::r)=x::kids p r:=by simp only [Decidable.not_not] at h2;simp [kids,h1,h2]
  have eu:∀k,AS k (kids p (x::r))=vk k x.used+AS k (kids p r):=by intro k;rw [e];simp [AS]
  simp only [eu] at h ⊢
  rw [if_neg h2]
  have ok:(jR s x.used).2=true:=n9.2 fun k hk=>by have:=h k hk;omega
  rw [if_pos ok]
  obtain ⟨v,a1,a2,a3⟩:=oY p r (jR s x.used).1 (JE ok) (fun k hk=>by rw [oX ok hk];have:=h k hk;omega)
  exact ⟨v,a1,a2,fun k hk=>by rw [a3 k hk,oX ok hk];omega⟩
theorem MS {l:List bc} {e:bc} (hu:e.used.w) (h1:∀k<4,vk k e.used≤vk k e.eX) (h2:∀k<4,AS k (kids e.path l)≤vk k e.used):Er l e=true:=by
 obtain ⟨v,a1,a2,a3⟩:=oY e.path l bG.zero wW (fun k hk=>by rw [nj];have:=h2 k hk;have:=(JD hu hk).2;omega)
 unfold Er
 rw [a1]
 simp only [Bool.and_eq_true]
 refine ⟨mE.2 h1,mE.2 fun k hk=>?_⟩
 rw [a3 k hk,nj];have:=h2 k hk;omega
structure Tree.ok (l:List bc):Prop where
 root:∃e r,l=e::r∧e.path=[]
 most:l.length≤16
 wT:l.Pairwise (fun x y=>x.path<y.path)
 named:∀e∈l,named e.path=true
 par:∀e∈l,∃f∈l,f.path=parent e.path
 fits:∀e∈l,∀k<4,vk k e.used≤vk k e.eX
 w:∀e∈l,e.eX.w∧e.used.w
theorem P1 {t:List bc} (ha:t.Pairwise (fun x y=>x.path<y.path)) {i j:Nat} {x y:bc} (hx:t[i]?=some x) (hy:t[j]?=some y) (e:x.path=y.path):i=j:=by
 obtain ⟨hi,rfl⟩:=List.getElem?_eq_some_iff.1 hx
 obtain ⟨hj,rfl⟩:=List.getElem?_eq_some_iff.1 hy
 rcases Nat.lt_trichotomy i j with g|g|g
 ·have:=List.pairwise_iff_getElem.1 ha i j hi hj g;rw [e] at this;exact absurd this (kn _)
 ·exact g
 have:=List.pairwise_iff_getElem.1 ha j i hj hi g;rw [e] at this;exact absurd this (kn _)
theorem SW {t:List bc} (ha:t.Pairwise (fun x y=>x.path<y.path)) {x y:bc} (hx:x∈t) (hy:y∈t) (e:x.path=y.path):x=y:=by
 obtain ⟨i,hi⟩:=List.getElem?_of_mem hx
 obtain ⟨j,hj⟩:=List.getElem?_of_mem hy
 have:=P1 ha hi hj e
 subst this;rw [hi] at hj;exact Option.some.inj hj
theorem tQ {t:List bc} {q:aI} (h:0≤bU t q):∃(i:Nat) (e:bc),t[i]?=some e∧e.path=q∧bU t q=i:=by
 rcases cC (rfl:bU t q=idxOf _ t) with ⟨h1,_⟩|⟨i,x,h1,_,h3,h4,_⟩
 ·omega
 exact ⟨i,x,h3,by simpa using h4,h1⟩
theorem AT {t:List bc} {e:bc} (he:e∈t):0≤bU t e.path:=by
 rcases cC (rfl:bU t e.path=idxOf _ t) with ⟨_,h2,_⟩|⟨i,x,h1,_⟩
 ·rw [List.findIdx?_eq_none_iff] at h2;have:=h2 e he;simp at this
 omega
theorem JF {t:List bc} {q:aI}:bU t q<0↔∀e∈t,e.path≠q:=by
 constructor
 ·rintro h e he rfl;have:=AT he;omega
 intro h
 refine Int.not_le.1 fun g=>?_
 obtain ⟨i,e,h1,h2,_⟩:=tQ g
 exact h e (List.mem_of_getElem? h1) h2
theorem AU {all:List bc} (hn:∀e∈all,named e.path=true) (hp:∀e∈all,∃f∈all,f.path=parent e.path):
 ∀(r:List bc) (q:aI),r.Pairwise (fun x y=>x.path<y.path)→(∀e∈r,q<e.path)→(∀e∈r,e∈all)→oW all (some q) r=true
 |[],_,_,_,_=>rfl
 |e::r,q,ha,hq,hm=>by
  rw [List.pairwise_cons] at ha
  have h1:(!sle e.path q)=true:=LC.2 (hq e (by simp))
  have h2:=hn e (hm e (by simp))
  have h3:(!decide (bU all (parent e.path)<0))=true:=by
   obtain ⟨f,hf,g⟩:=hp e (hm e (by simp))
   have:=AT hf;rw [g] at this
   simp;omega
  unfold oW
  rw [h1,h2,h3,AU hn hp r e.path ha.2 (fun x hx=>ha.1 x hx) (fun x hx=>hm x (by simp [hx]))];rfl
theorem JG {l:List bc} (h:Tree.ok l) (hk:∀e∈l,∀k<4,AS k (kids e.path l)≤vk k e.used):Es l=true:=by
 obtain ⟨e,r,rfl,he⟩:=h.root
 have hm:=h.most
 have h1:oW (e::r) none (e::r)=true:=by
  rw [oW]
  have ha:=h.wT
  rw [List.pairwise_cons] at ha
  exact AU h.named h.par r e.path ha.2 (fun x hx=>ha.1 x hx) (fun x hx=>by simp [hx])
 have h2:((e::r).any fun x=>!Er (e::r) x)=false:=by
  rw [List.any_eq_false];intro x hx
  rw [MS (h.w x hx).2 (h.fits x hx) (hk x hx)];simp
 unfold Es
 rw [if_neg (by simp),if_neg (by omega),if_neg (by simp [he]),h1,h2];rfl
def vz (f:bc→bc×Int) (A:List aI) (t:List bc):List bc:=t.map fun e=>if e.path∈A then (f e).1 else e
theorem vA (f:bc→bc×Int) {t:List bc} (ha:t.Pairwise (fun x y=>x.path<y.path)):∀(A:List aI) (out:List bc),(∀q∈A,0≤bU t q)→out.length=t.length→
 ((∃e∈t,e.path∈A∧(f e).2≠0)∧(kj f t A out).1=t∧(kj f t A out).2≠0)∨
 ((∀e∈t,e.path∈A→(f e).2=0)∧(kj f t A out).2=0∧(kj f t A out).1.length=t.length∧∀(i:Nat) (e:bc),t[i]?=some e→(kj f t A out).1[i]?=if e.path∈A then some (f e).1 else out[i]?)
 |[],out,_,hl=>.inr ⟨by simp,rfl,hl,by intro i e _;simp [kj]⟩
 |q::A,out,hq,hl=>by
  obtain ⟨i,e,h1,h2,h3⟩:=tQ (hq q (by simp))
  have hg:t.getD (bU t q).toNat bc.zero=e:=by rw [h3,Int.toNat_natCast,List.getD_eq_getElem?_getD,h1];rfl
  have hem:=List.mem_of_getElem? h1
  have hil:=(List.getElem?_eq_some_iff.1 h1).1
  unfold kj
  rw [hg]
  by_cases h0:(f e).2≠0
  ·rw [if_pos h0];exact .inl ⟨⟨e,hem,by simp [h2],h0⟩,rfl,h0⟩
  rw [if_neg h0]
  simp only [Decidable.not_not] at h0
  rw [h3,Int.toNat_natCast]
  rcases vA f ha A (out.set i (f e).1) (fun q hq'=>hq q (by simp [hq'])) (by simp [hl]) with ⟨⟨x,b1,b2,b3⟩,b4,b5⟩|⟨b1,b2,b3,b4⟩
  ·exact .inl ⟨⟨x,b1,by simp [b2],b3⟩,b4,b5⟩
  refine .inr ⟨?_,b2,b3,?_⟩
  ·intro x hx hp
   rcases List.mem_cons.1 hp with g|g
   ·rw [SW ha hx hem (by rw [g,h2])];exact h0
   exact b1 x hx g
  intro j x hx
  rw [b4 j x hx]
  by_cases g:x.path∈A
  ·rw [if_pos g,if_pos (by simp [g])]
  rw [if_neg g]
  by_cases g2:x.path=q
  ·have:=P1 ha hx h1 (by rw [g2,h2])
   subst this
   rw [hx] at h1;cases h1
   rw [if_pos (by simp [g2]),List.getElem?_set_self (by omega)]
  have hji:i≠j:=by rintro rfl;rw [hx] at h1;cases h1;exact g2 h2
  rw [if_neg (by simp [g2,g]),List.getElem?_set_ne hji]
theorem qH (f:bc→bc×Int) {t:List bc} (ha:t.Pairwise (fun x y=>x.path<y.path)) (p:aI):
 ((pF f t p).1=t∧(pF f t p).2≠0∧(named p=false∨(∃q∈above p,∀e∈t,e.path≠q)∨∃e∈t,e.path∈above p∧(f e).2≠0))∨
 (pF f t p=(vz f (above p) t,0)∧named p=true∧(∀q∈above p,∃e∈t,e.path=q)∧∀e∈t,e.path∈above p→(f e).2=0):=by
 unfold pF
 cases hn:named p with
 |false=>exact .inl ⟨rfl,by simp,.inl rfl⟩
 |true=>
  simp only [Bool.not_true,Bool.false_eq_true,if_false]
  by_cases h:((above p).any fun q=>decide (bU t q<0))=true
  ·rw [if_pos h]
   obtain ⟨q,hq,g⟩:=List.any_eq_true.1 h
   exact .inl ⟨rfl,by simp,.inr (.inl ⟨q,hq,JF.1 (by simpa using g)⟩)⟩
  rw [if_neg h]
  have hq:∀q∈above p,0≤bU t q:=fun q hq=>Int.not_lt.1 fun g=>h (List.any_eq_true.2 ⟨q,hq,by simpa using g⟩)
  rcases vA f ha (above p) t hq rfl with ⟨b1,b2,b3⟩|⟨b1,b2,b3,b4⟩
  ·exact .inl ⟨b2,b3,.inr (.inr b1)⟩
  refine .inr ⟨?_,by trivial,fun q hm=>?_,b1⟩
  ·refine Prod.ext ?_ b2
   refine List.ext_getElem? fun i=>?_
   unfold vz
   rw [List.getElem?_map]
   cases hi:t[i]? with
   |none=>rw [List.getElem?_eq_none_iff] at hi;simp only [Option.map_none];rw [List.getElem?_eq_none_iff];omega
   |some e=>
    rw [b4 i e hi]
    simp only [Option.map_some]
    split
    ·rfl
    exact hi
  obtain ⟨i,e,g1,g2,_⟩:=tQ (hq q hm)
  exact ⟨e,List.mem_of_getElem? g1,g2⟩
theorem oZ {v:bG} {e:bc}:(fM v e).2=0↔(jR e.used v).2=true∧lg (jR e.used v).1 e.eX=true:=by
 unfold fM
 cases h1:(jR e.used v).2<;>cases h2:lg (jR e.used v).1 e.eX<;>simp
theorem yu {v:bG} {e:bc} (h:(fM v e).2=0):(fM v e).1={e with used:=(jR e.used v).1}:=by
 obtain ⟨h1,h2⟩:=oZ.1 h
 unfold fM;rw [h1,h2];rfl
theorem vB {v:bG} {e:bc}:(eF v e).2=0↔(dO e.used v).2=true:=by
 unfold eF
 cases h1:(dO e.used v).2<;>simp
theorem yw {v:bG} {e:bc} (h:(eF v e).2=0):(eF v e).1={e with used:=(dO e.used v).1}:=by
 unfold eF;rw [vB.1 h];rfl
structure bV (t u:List bc):Prop where
 len:u.length=t.length
 at_:∀(i:Nat) (e:bc),t[i]?=some e→∃x,u[i]?=some x∧x.path=e.path∧x.eX=e.eX
theorem bV.paths {t u:List bc} (h:bV t u):u.map (·.path)=t.map (·.path):=by
 refine List.ext_getElem? fun i=>?_
 rw [List.getElem?_map,List.getElem?_map]
 cases hi:t[i]? with
 |none=>rw [List.getElem?_eq_none_iff] at hi;rw [List.getElem?_eq_none_iff.2 (by rw [h.len];exact hi)]
 |some e=>obtain ⟨x,h1,h2,_⟩:=h.at_ i e hi;rw [h1];simp [h2]
theorem bV.back {t u:List bc} (h:bV t u) {x:bc} (hx:x∈u):∃e∈t,x.path=e.path∧x.eX=e.eX:=by
 obtain ⟨i,hi⟩:=List.getElem?_of_mem hx
 have hl:=(List.getElem?_eq_some_iff.1 hi).1
 rw [h.len] at hl
 obtain ⟨y,h1,h2,h3⟩:=h.at_ i t[i] (List.getElem?_eq_getElem hl)
 rw [hi] at h1;cases h1
 exact ⟨t[i],List.getElem_mem hl,h2,h3⟩
theorem bV.mem {t u:List bc} (h:bV t u) {e:bc} (he:e∈t):∃x∈u,x.path=e.path:=by
 obtain ⟨i,hi⟩:=List.getElem?_of_mem he
 obtain ⟨x,h1,h2,_⟩:=h.at_ i e hi
 exact ⟨x,List.mem_of_getElem? h1,h2⟩
theorem bV.wT {t u:List bc} (h:bV t u) (ha:t.Pairwise (fun x y=>x.path<y.path)):u.Pairwise (fun x y=>x.path<y.path):=by
 have h1:(t.map (·.path)).Pairwise (·<·):=List.pairwise_map.2 ha
 rw [←h.paths] at h1
 exact List.pairwise_map.1 h1
theorem bV.ok {t u:List bc} (h:bV t u) (ho:Tree.ok t) (hf:∀e∈u,∀k<4,vk k e.used≤vk k e.eX) (hw:∀e∈u,e.used.w):Tree.ok u where
 root:=by
  obtain ⟨e,r,rfl,he⟩:=ho.root
  obtain ⟨x,h1,h2,_⟩:=h.at_ 0 e rfl
  cases u with
  |nil=>cases h1
  |cons y r2=>simp at h1;subst h1;exact ⟨y,r2,rfl,by rw [h2,he]⟩
 most:=by rw [h.len];exact ho.most
 wT:=h.wT ho.wT
 named:=fun x hx=>by obtain ⟨e,he,h1,_⟩:=h.back hx;rw [h1];exact ho.named e he
 par:=fun x hx=>by
  obtain ⟨e,he,h1,_⟩:=h.back hx
  obtain ⟨f,hf,h2⟩:=ho.par e he
  obtain ⟨y,hy,h3⟩:=h.mem hf
  exact ⟨y,hy,by rw [h3,h2,h1]⟩
 fits:=hf
 w:=fun x hx=>by obtain ⟨e,he,_,h1⟩:=h.back hx;exact ⟨by rw [h1];exact (ho.w e he).1,hw x hx⟩
theorem AW {f:bc→bc×Int} {A:List aI} {t:List bc} (h:∀e∈t,e.path∈A→(f e).1.path=e.path∧(f e).1.eX=e.eX):bV t (vz f A t) where
 len:=by simp [vz]
 at_:=by
  intro i e hi
  refine ⟨if e.path∈A then (f e).1 else e,by rw [vz,List.getElem?_map,hi];rfl,?_⟩
  split
  ·rename_i g;exact h e (List.mem_of_getElem? hi) g
  exact ⟨rfl,rfl⟩
abbrev Jb.tot (j:Jb):bG:=(cV j.x).1
def fR (k:Nat) (p:aI) (j:Jb):Nat:=if j.runs=true∧p∈above j.x.path then vk k j.tot else 0
def gU (k:Nat) (p:aI) (l:List Jb):Nat:=(l.map (fR k p)).sum
theorem gz (k:Nat) (p:aI) (j:Jb) (l:List Jb):gU k p (j::l)=fR k p j+gU k p l:=by simp [gU]
theorem o6 (p:aI):∀(l:List Jb) (v:bG),v.w→(∀j∈l,j.runs=true→(cV j.x).2=true)→(∀k<4,vk k v+gU k p l<18446744073709551616)→
 ∃u,C8 p l v=some u∧u.w∧∀k<4,vk k u=vk k v+gU k p l
 |[],v,hv,_,_=>⟨v,rfl,hv,by simp [gU]⟩
 |j::l,v,hv,ht,h=>by
  simp only [gz] at h ⊢
  unfold C8
  by_cases h1:j.runs=true
  ·rw [if_neg (by simp [h1])]
   by_cases h2:(!decide (p=[])&&!nH p j.x.path)=true
   ·have h3:¬p∈above j.x.path:=by
     have:=yq (P:=j.x.path) (q:=p)
     intro g
     rw [decide_eq_true g] at this
     simp only [Bool.and_eq_true,Bool.not_eq_true'] at h2
     rw [h2.1,h2.2] at this;simp at this
    have h4:∀k,fR k p j=0:=fun k=>by simp [fR,h3]
    rw [if_pos h2]
    simp only [h4,Nat.zero_add] at h ⊢
    exact o6 p l v hv (fun x hx=>ht x (by simp [hx])) h
   have h3:p∈above j.x.path:=by
    have:=yq (P:=j.x.path) (q:=p)
    refine Decidable.byContradiction fun g=>?_
    rw [decide_eq_false g] at this
    rw [Bool.or_eq_false_iff] at this
    rw [this.1,this.2] at h2;simp at h2
   have h4:∀k,fR k p j=vk k j.tot:=fun k=>by simp [fR,h1,h3]
   simp only [h4] at h ⊢
   have ok:(jR v j.tot).2=true:=n9.2 fun k hk=>by have:=h k hk;omega
   have ht1:=ht j (by simp) h1
   rw [if_neg h2,if_neg (by rw [ht1,ok];simp)]
   obtain ⟨u,a1,a2,a3⟩:=o6 p l (jR v j.tot).1 (JE ok) (fun x hx=>ht x (by simp [hx])) (fun k hk=>by rw [oX ok hk];have:=h k hk;omega)
   exact ⟨u,a1,a2,fun k hk=>by rw [a3 k hk,oX ok hk];omega⟩
  have h4:∀k,fR k p j=0:=fun k=>by simp [fR,h1]
  rw [if_pos (by simpa using h1)]
  simp only [h4,Nat.zero_add] at h ⊢
  exact o6 p l v hv (fun x hx=>ht x (by simp [hx])) h
theorem P2 {s:aU} {e:bc} (hu:e.used.w) (ht:∀j∈s.av,j.runs=true→(cV j.x).2=true) (h:∀k<4,vk k e.used=gU k e.path s.av):LI s e=true:=by
 obtain ⟨u,a1,a2,a3⟩:=o6 e.path s.av bG.zero wW ht (fun k hk=>by rw [nj,←h k hk];have:=(JD hu hk).2;omega)
 unfold LI
 rw [a1]
 simp only [decide_eq_true_eq]
 exact P0 a2 hu fun k hk=>by rw [a3 k hk,nj,h k hk];omega
theorem AX {α:Type}:∀l:List α,(l.map fun _=>0).sum=0
 |[]=>rfl
 |_::l=>by simp only [List.map_cons,List.sum_cons,AX l]
theorem LJ (k:Nat) (p:aI) (j:Jb):∀(K:List aI),K.Nodup→(∀q∈K,q≠[]∧parent q=p)→(K.map fun q=>fR k q j).sum≤fR k p j
 |[],_,_=>Nat.zero_le _
 |q::K,hn,hp=>by
  rw [List.nodup_cons] at hn
  have hq:=hp q (by simp)
  by_cases h:j.runs=true∧q∈above j.x.path
  ·have h0:(K.map fun q=>fR k q j).sum=0:=by
    have:∀r∈K,fR k r j=0:=fun r hr=>by
     unfold fR;rw [if_neg];rintro ⟨_,g⟩
     have oG:=hp r (by simp [hr])
     exact hn.1 (by rw [JB h.2 g hq.1 oG.1 (by rw [hq.2,oG.2])];exact hr)
    rw [List.map_congr_left this,AX]
   have h1:p∈above j.x.path:=by rw [←hq.2];exact JC h.2
   simp only [List.map_cons,List.sum_cons]
   rw [h0]
   simp [fR,h,h1]
  simp only [List.map_cons,List.sum_cons]
  rw [show fR k q j=0 by unfold fR;rw [if_neg h],Nat.zero_add]
  exact LJ k p j K hn.2 (fun r hr=>hp r (by simp [hr]))
theorem sum_add {α:Type} (f g:α→Nat):∀l:List α,(l.map fun x=>f x+g x).sum=(l.map f).sum+(l.map g).sum
 |[]=>rfl
 |x::l=>by simp only [List.map_cons,List.sum_cons,sum_add f g l];omega
theorem G4 (k:Nat) (p:aI) (K:List aI) (hn:K.Nodup) (hp:∀q∈K,q≠[]∧parent q=p):∀(l:List Jb),(K.map fun q=>gU k q l).sum≤gU k p l
 |[]=>by
  have:(K.map fun q=>gU k q []).sum=0:=AX K
  rw [this];exact Nat.zero_le _
 |j::l=>by
  simp only [gz]
  rw [sum_add]
  exact Nat.add_le_add (LJ k p j K hn hp) (G4 k p K hn hp l)
theorem SX {t:List bc} (ha:t.Pairwise (fun x y=>x.path<y.path)) {l:List Jb} {k:Nat} (h:∀e∈t,vk k e.used=gU k e.path l) (p:aI):AS k (kids p t)≤gU k p l:=by
 have e:AS k (kids p t)=(((kids p t).map (·.path)).map fun q=>gU k q l).sum:=by
  unfold AS;rw [List.map_map]
  congr 1
  exact List.map_congr_left fun x hx=>h x (List.mem_filter.1 hx).1
 rw [e]
 refine G4 k p _ ?_ ?_ l
 ·rw [List.nodup_iff_pairwise_ne,List.pairwise_map]
  exact (ha.filter _).imp fun h g=>by rw [g] at h;exact kn _ h
 intro q hq
 obtain ⟨x,hx,rfl⟩:=List.mem_map.1 hq
 have:=(List.mem_filter.1 hx).2
 simpa using this
abbrev yT (l:List ct):Prop:=l.Pairwise (fun a b=>bQ a b=true)
abbrev AY (l:List ct):Prop:=l.Pairwise (fun a b=>a.id≠b.id)
theorem fD {a b:ct}:bQ a b=true↔b.prio<a.prio∨(a.prio=b.prio∧a.id<b.id):=by simp [bQ]
theorem vC {a b c:ct} (h:bQ a b=true) (g:bQ b c=true):bQ a c=true:=by
 rw [fD] at*;omega
theorem JH {a b:ct} (h:a.id≠b.id) (g:¬bQ a b=true):bQ b a=true:=by
 rw [fD] at*;omega
theorem P3 (l:List ct) (e:ct):vq l e≤l.length∧(∀x∈l.take (vq l e),¬bQ e x=true)∧(∀x,l[vq l e]?=some x→bQ e x=true):=by
 unfold vq
 cases h:l.findIdx? (fun x=>bQ e x) with
 |none=>
  rw [List.findIdx?_eq_none_iff] at h
  refine ⟨Nat.le_refl _,?_,?_⟩
  ·intro x hx;rw [List.take_length] at hx;simp [h x hx]
  intro x hx;simp at hx
 |some k=>
  obtain ⟨hk,hp,hb⟩:=List.findIdx?_eq_some_iff_getElem.1 h
  refine ⟨Nat.le_of_lt hk,?_,?_⟩
  ·intro x hx
   obtain ⟨j,hj⟩:=List.getElem?_of_mem hx
   simp only [List.getElem?_take] at hj
   by_cases g:j<k
   ·rw [if_pos g] at hj
    have:=hb j g
    rw [List.getElem?_eq_getElem (by omega)] at hj
    cases hj;simpa using this
   rw [if_neg g] at hj;cases hj
  intro x hx
  simp only at hx
  rw [List.getElem?_eq_getElem hk] at hx;cases hx;exact hp
theorem G5 {l:List ct} (ha:yT l) {e:ct} (hn:∀x∈l,x.id≠e.id):yT (l.take (vq l e)++e::l.drop (vq l e)):=by
 obtain ⟨h1,h2,h3⟩:=P3 l e
 have hsp:yT (l.take (vq l e)++l.drop (vq l e)):=by rw [List.take_append_drop];exact ha
 rw [yT,List.pairwise_append] at hsp ⊢
 obtain ⟨a1,a2,a3⟩:=hsp
 have hb:∀x∈l.take (vq l e),bQ x e=true:=fun x hx=>JH (a:=e) (by have:=hn x (List.mem_of_mem_take hx);exact fun g=>this g.symm) (h2 x hx)
 have hc:∀x∈l.drop (vq l e),bQ e x=true:=by
  cases hd:l.drop (vq l e) with
  |nil=>intro x hx;cases hx
  |cons y r=>
   have hy:l[vq l e]?=some y:=by
    have:(l.drop (vq l e))[0]?=some y:=by rw [hd];rfl
    rw [List.getElem?_drop,Nat.add_zero] at this;exact this
   have g:=h3 y hy
   intro x hx
   rcases List.mem_cons.1 hx with rfl|hx
   ·exact g
   rw [hd,List.pairwise_cons] at a2
   exact vC g (a2.1 x hx)
 refine ⟨a1,List.pairwise_cons.2 ⟨hc,a2⟩,?_⟩
 intro x hx y hy
 rcases List.mem_cons.1 hy with rfl|hy
 ·exact hb x hx
 exact a3 x hx y hy
theorem G6 {l:List ct} {k:Nat} {x y:ct}:y∈l.take k++x::l.drop k↔y∈l∨y=x:=by
 conv=>rhs;rw [←List.take_append_drop k l]
 simp only [List.mem_append,List.mem_cons]
 constructor
 ·rintro (h|h|h)
  ·exact .inl (.inl h)
  ·exact .inr h
  exact .inl (.inr h)
 rintro ((h|h)|h)
 ·exact .inl h
 ·exact .inr (.inr h)
 exact .inr (.inl h)
theorem G7 {l:List ct} (hi:AY l) {e:ct} (hn:∀x∈l,x.id≠e.id) (k:Nat):AY (l.take k++e::l.drop k):=by
 have hsp:AY (l.take k++l.drop k):=by rw [List.take_append_drop];exact hi
 rw [AY,List.pairwise_append] at hsp ⊢
 obtain ⟨a1,a2,a3⟩:=hsp
 refine ⟨a1,List.pairwise_cons.2 ⟨fun x hx=>fun g=>hn x (List.mem_of_mem_drop hx) g.symm,a2⟩,?_⟩
 intro x hx y hy
 rcases List.mem_cons.1 hy with rfl|hy
 ·exact hn x (List.mem_of_mem_take hx)
 exact a3 x hx y hy
theorem JI {l:List ct} {id:Int} (h:0≤nG l id):∃x∈l,x.id=id:=by
 rcases cC (rfl:nG l id=idxOf _ l) with ⟨h1,_⟩|⟨i,x,h1,_,h3,h4,_⟩
 ·omega
 exact ⟨x,List.mem_of_getElem? h3,by simpa using h4⟩
theorem qJ (l:List ct) (e:ct):((jW l e).1=l∧(jW l e).2≠0∧(kU e=true∨(∃x∈l,x.id=e.id)∨32≤l.length))∨
 (jW l e=(l.take (vq l e)++e::l.drop (vq l e),0)∧kU e=false∧(∀x∈l,x.id≠e.id)∧l.length<32):=by
 unfold jW
 cases h1:kU e with
 |true=>exact .inl ⟨rfl,by simp,.inl rfl⟩
 |false=>
  simp only [Bool.false_eq_true,if_false]
  by_cases h2:0≤nG l e.id
  ·rw [if_pos h2];exact .inl ⟨rfl,by simp,.inr (.inl (JI h2))⟩
  rw [if_neg h2]
  by_cases h3:32≤l.length
  ·rw [if_pos h3];exact .inl ⟨rfl,by simp,.inr (.inr h3)⟩
  rw [if_neg h3]
  refine .inr ⟨rfl,by trivial,?_,by omega⟩
  intro x hx g
  refine h2 ?_
  rcases cC (rfl:nG l e.id=idxOf _ l) with ⟨_,h4,_⟩|⟨i,x,h4,_⟩
  ·rw [List.findIdx?_eq_none_iff] at h4;have:=h4 x hx;simp [g] at this
  omega
theorem erase_filter {l:List ct} (hi:AY l) {k:Nat} {x:ct} (hx:l[k]?=some x):l.eraseIdx k=l.filter fun y=>!decide (y.id=x.id):=by
 induction l generalizing k with
 |nil=>simp at hx
 |cons y r ih=>
  rw [AY,List.pairwise_cons] at hi
  cases k with
  |zero=>
   simp at hx;subst hx
   have:r.filter (fun z=>!decide (z.id=y.id))=r:=by
    rw [List.filter_eq_self];intro z hz;have:=hi.1 z hz;simp;exact fun g=>this g.symm
   simp [this]
  |succ k=>
   simp only [List.getElem?_cons_succ] at hx
   have hne:=hi.1 x (List.mem_of_getElem? hx)
   rw [List.eraseIdx_cons_succ,ih hi.2 hx]
   simp [hne]
theorem lM {l:List ct} (hi:AY l) (id:Int):(AM l id).1=l.filter fun y=>!decide (y.id=id):=by
 unfold AM
 cases h:l.findIdx? (fun x=>decide (x.id=id)) with
 |none=>
  rw [List.findIdx?_eq_none_iff] at h
  exact (List.filter_eq_self.2 fun x hx=>by simp [h x hx]).symm
 |some k=>
  obtain ⟨hk,hp,_⟩:=List.findIdx?_eq_some_iff_getElem.1 h
  simp only [decide_eq_true_eq] at hp
  show l.eraseIdx k=_
  rw [erase_filter hi (List.getElem?_eq_getElem hk),hp]
theorem MT {l:List ct} (hi:AY l) {k:Nat} {x:ct} (hx:l[k]?=some x):nG l x.id=k:=by
 rcases cC (rfl:nG l x.id=idxOf _ l) with ⟨_,h2,_⟩|⟨i,y,h1,_,h3,h4,_⟩
 ·rw [List.findIdx?_eq_none_iff] at h2;have:=h2 x (List.mem_of_getElem? hx);simp at this
 rw [h1]
 simp only [decide_eq_true_eq] at h4
 obtain ⟨g1,rfl⟩:=List.getElem?_eq_some_iff.1 hx
 obtain ⟨g2,rfl⟩:=List.getElem?_eq_some_iff.1 h3
 rcases Nat.lt_trichotomy i k with g|g|g
 ·exact absurd h4 (List.pairwise_iff_getElem.1 hi i k g2 g1 g)
 ·rw [g]
 exact absurd h4.symm (List.pairwise_iff_getElem.1 hi k i g1 g2 g)
theorem AZ {all:List ct} (hi:AY all) (hw:∀q∈all,kU q=false):∀(r:List ct) (k:Nat) (q:Option ct),all.drop k=r→yT r→(∀p,q=some p→∀x∈r,bQ p x=true)→zk all q k r=true
 |[],_,_,_,_,_=>rfl
 |e::r,k,q,hd,ha,hq=>by
  rw [yT,List.pairwise_cons] at ha
  have he:all[k]?=some e:=by
   have:(all.drop k)[0]?=some e:=by rw [hd];rfl
   rw [List.getElem?_drop,Nat.add_zero] at this;exact this
  have h1:=hw e (List.mem_of_getElem? he)
  have h2:=MT hi he
  have h3:Yb q e=true:=by
   cases q with
   |none=>rfl
   |some p=>exact hq p rfl e (by simp)
  have h4:all.drop (k+1)=r:=by rw [←List.drop_drop,hd];rfl
  unfold zk
  rw [h1,h2,h3,AZ hi hw r (k+1) (some e) h4 ha.2 (fun p hp x hx=>by cases hp;exact ha.1 x hx)]
  simp
theorem MU {l:List ct} (hi:AY l) (ha:yT l) (hw:∀q∈l,kU q=false) (hl:l.length≤32):Em l=true:=by
 unfold Em
 rw [AZ hi hw l 0 none (by simp) ha (fun p hp=>by cases hp)]
 simpa using hl
theorem tU (m:List iv) (j c i:Int):mD (gB m j c) i=if i=j then c else mD m i:=by
 induction m with
 |nil=>
  simp only [gB,mD,List.find?_cons,List.find?_nil]
  by_cases h:i=j
  ·simp [h]
  have:¬j=i:=fun g=>h g.symm
  simp [h,this]
 |cons x m ih=>
  unfold mD at ih ⊢
  simp only [gB]
  by_cases h:j=x.bz
  ·simp only [if_pos h,List.find?_cons]
   by_cases g:i=j
   ·subst g;simp
   have h2:¬j=i:=fun e=>g e.symm
   have h3:¬x.bz=i:=fun e=>g (by rw [h,e])
   simp [g,h2,h3]
  simp only [if_neg h,List.find?_cons]
  by_cases g:x.bz=i
  ·have:¬i=j:=fun e=>h (by rw [←e,g])
   simp [g,this]
  simp only [g,decide_false]
  exact ih
theorem vD {m:List iv} (h:(m.map iv.bz).Nodup) (j c:Int):((gB m j c).map iv.bz).Nodup:=by
 rw [kN];split
 ·exact h
 rename_i g
 rw [List.nodup_append]
 exact ⟨h,by simp,fun a ha b hb e=>g (by simp at hb;rw [←hb,←e];exact ha)⟩
theorem JJ {m:List iv} (h:(m.map iv.bz).Nodup) {x:iv} (hx:x∈m):mD m x.bz=x.cnt:=by
 induction m with
 |nil=>cases hx
 |cons y m ih=>
  rw [List.map_cons,List.nodup_cons] at h
  unfold mD at ih ⊢
  rw [List.find?_cons]
  rcases List.mem_cons.1 hx with rfl|hx
  ·simp
  have:¬y.bz=x.bz:=fun g=>h.1 (by rw [g];exact List.mem_map_of_mem hx)
  simp only [this,decide_false]
  exact ih h.2 hx
abbrev sy (id:Int) (ps:List Place):Nat:=(ps.filter fun x=>decide (x.bz=id)).length
theorem G8 (id:Int) (x:Place) (ps:List Place):sy id (x::ps)=(if x.bz=id then 1 else 0)+sy id ps:=by
 unfold sy
 rw [List.filter_cons]
 by_cases h:x.bz=id
 ·simp [h];omega
 simp [h]
theorem vE (id:Int):∀(l:List Jb) (m:List iv),(l.Pairwise fun a b=>a.id<b.id)→(m.map iv.bz).Nodup→
 ((l.foldl (fun m j=>if j.runs then gB m j.id j.x.count else m) m).map iv.bz).Nodup∧
 mD (l.foldl (fun m j=>if j.runs then gB m j.id j.x.count else m) m) id=(match l.find? (fun j=>decide (j.id=id)&&j.runs) with|some j=>j.x.count|none=>mD m id)
 |[],m,_,h=>⟨h,rfl⟩
 |j::l,m,ha,h=>by
  rw [List.pairwise_cons] at ha
  rw [List.foldl_cons]
  by_cases hr:j.runs=true
  ·rw [if_pos hr]
   obtain ⟨a1,a2⟩:=vE id l (gB m j.id j.x.count) ha.2 (vD h _ _)
   refine ⟨a1,?_⟩
   rw [a2,List.find?_cons]
   by_cases g:j.id=id
   ·have hno:l.find? (fun j=>decide (j.id=id)&&j.runs)=none:=by
     rw [List.find?_eq_none];intro x hx;have:=ha.1 x hx
     simp;intro e;omega
    rw [hno,tU]
    simp [g,hr]
   simp only [g,decide_false,Bool.false_and]
   cases l.find? (fun j=>decide (j.id=id)&&j.runs) with
   |some j=>rfl
   |none=>simp only;rw [tU,if_neg (fun e=>g e.symm)]
  rw [if_neg hr]
  obtain ⟨a1,a2⟩:=vE id l m ha.2 h
  refine ⟨a1,?_⟩
  rw [a2,List.find?_cons]
  simp [hr]
theorem vF {l:List Jb}:∀(ps:List Place) (m:List iv),(m.map iv.bz).Nodup→(∀x∈ps,x.v=(bD l x.bz).1.x.fY)→(∀id,mD m id=(sy id ps:Int))→
 ∃m',zm l ps m=some m'∧m'.all (fun x=>decide (x.cnt=0))=true
 |[],m,hn,_,hc=>⟨m,rfl,by
  rw [List.all_eq_true];intro x hx
  have:=hc x.bz;rw [JJ hn hx] at this;simpa [sy] using this⟩
 |x::ps,m,hn,hv,hc=>by
  have h1:=hc x.bz
  rw [G8,if_pos rfl] at h1
  unfold zm
  rw [if_neg (by omega),if_neg (by have:=hv x (by simp);simp [this])]
  refine vF ps _ (vD hn _ _) (fun y hy=>hv y (by simp [hy])) fun id=>?_
  rw [tU]
  have h2:=hc id
  rw [G8] at h2
  by_cases g:id=x.bz
  ·subst g;rw [if_pos rfl];omega
  rw [if_neg g,h2,if_neg (fun e=>g e.symm)];omega
theorem yx (l:List Node) (bz:Int) (v:bG):∀(names:List aI) (ps:List Place),(fB l bz v names ps).1=none→(fB l bz v names ps).2=ps++names.map (fun n=>⟨bz,n,v⟩)∧∀n∈names,(dM n l).2=true∧(dM n l).1.up=true
 |[],ps,_=>by simp [fB]
 |n::r,ps,g=>by
  unfold fB at g ⊢
  split
  ·rename_i h1;rw [if_pos h1] at g;cases g
  rename_i h1
  rw [if_neg h1] at g
  obtain ⟨a,b⟩:=yx l bz v r _ g
  refine ⟨by rw [a];simp,?_⟩
  intro m hm
  rcases List.mem_cons.1 hm with rfl|hm
  ·have h0:m8 m v l ps=0:=by omega
   exact ⟨(tO h0).1,(tO h0).2.1⟩
  exact b m hm
theorem yy (l:List Node) (bz:Int) (v:bG):∀(names:List aI) (ps:List Place) (e:Int),(fB l bz v names ps).1=some e→e≠0
 |[],ps,e,g=>by cases g
 |n::r,ps,e,g=>by
  unfold fB at g
  split at g
  ·cases g;assumption
  exact yy l bz v r _ e g
theorem A2 (p:cA) (bz:Int) (names:List aI) (v:bG):((tN p bz names v).1=p∧(tN p bz names v).2≠0)∨
 ((tN p bz names v)=(⟨p.nodes,p.places++names.map (fun n=>⟨bz,n,v⟩)⟩,0)∧∀n∈names,(dM n p.nodes).2=true∧(dM n p.nodes).1.up=true):=by
 unfold tN
 split
 ·rename_i e he;exact .inl ⟨rfl,yy _ _ _ _ _ _ he⟩
 rename_i he
 obtain ⟨a,b⟩:=yx _ _ _ _ _ he
 exact .inr ⟨by rw [a],b⟩
theorem G9 {p:cA} (h:p.ok) (hw:p.w) (bz:Int):(qE p bz).ok∧(qE p bz).w:=⟨SQ h hw _,VC hw _⟩
theorem He (p:cA) (ha:Jv p.nodes) (name:aI) (up:Bool):((fJ p name up)=(p,7)∧(dM name p.nodes).2=false)∨
 (∃i x,p.nodes[i]?=some x∧x.name=name∧dM name p.nodes=(x,true)∧((x.up=up∧fJ p name up=(p,15))∨(x.up=!up∧fJ p name up=(⟨p.nodes.set i {x with up:=up},p.places⟩,0)))):=by
 rcases cC (p:=fun x:Node=>decide (x.name=name)) (l:=p.nodes) rfl with ⟨_,h1,h2⟩|⟨i,x,_,hi,hx,hp,h1,h2⟩
 ·refine .inl ⟨by unfold fJ;rw [h1,h2],by unfold dM;rw [h2]⟩
 simp only [decide_eq_true_eq] at hp
 refine .inr ⟨i,x,hx,hp,by unfold dM;rw [h2],?_⟩
 by_cases hu:x.up=up
 ·exact .inl ⟨hu,by unfold fJ;rw [h1,h2];simp [hu]⟩
 refine .inr ⟨by cases h:x.up<;>cases up<;>simp_all,by unfold fJ;rw [h1,h2];simp [hu]⟩
def eT (p:cA):List bL:=p.nodes.filterMap (nZ p.nodes p.places)
theorem cZ {x:Ask}:eS x=0↔nH x.path x.path=true∧(1≤x.count∧x.count≤8)∧(0≤x.prio∧x.prio≤9)∧(1≤x.eI∧x.eI≤100)∧AL x.cg=true∧(cV x).2=true:=by
 unfold eS
 have e:(!RJ x.count 1 8||!RJ x.prio 0 9||!RJ x.eI 1 100)=!decide ((1≤x.count∧x.count≤8)∧(0≤x.prio∧x.prio≤9)∧(1≤x.eI∧x.eI≤100)):=by
  unfold RJ
  by_cases h1:1≤x.count<;>by_cases h2:x.count≤8<;>by_cases h3:0≤x.prio<;>by_cases h4:x.prio≤9<;>by_cases h5:1≤x.eI<;>by_cases h6:x.eI≤100<;>simp [h1,h2,h3,h4,h5,h6]
 rw [e]
 by_cases h1:nH x.path x.path=true
 ·by_cases h2:(1≤x.count∧x.count≤8)∧(0≤x.prio∧x.prio≤9)∧(1≤x.eI∧x.eI≤100)
  ·by_cases h3:AL x.cg=true
   ·by_cases h4:(cV x).2=true
    ·simp [h1,h2,h3,h4]
    simp [h1,h2,h3,h4]
   simp [h1,h2,h3]
  simp only [h2,decide_false]
  simp only [h1,Bool.not_true,Bool.false_eq_true,if_false,Bool.not_false,if_true]
  constructor
  ·intro h;cases h
  rintro ⟨_,a,b,c,_⟩;exact absurd ⟨a,b,c⟩ h2
 simp [h1]
theorem A3 {t:List bc} {q:aI}:(qD t q).2=true↔∃e∈t,e.path=q:=by
 unfold qD
 cases h:t.find? (fun e=>decide (e.path=q)) with
 |none=>
  rw [List.find?_eq_none] at h
  constructor
  ·intro g;cases g
  rintro ⟨e,he,g⟩;have:=h e he;simp [g] at this
 |some e=>
  have h1:=List.find?_some h
  exact ⟨fun _=>⟨e,List.mem_of_find?_eq_some h,by simpa using h1⟩,fun _=>rfl⟩
theorem A4 {t:List bc} {p:aI}:jH t p=true↔∀q∈above p,∃e∈t,e.path=q:=by
 unfold jH
 rw [Bool.not_eq_true',List.any_eq_false]
 simp only [List.mem_append,List.mem_singleton]
 constructor
 ·intro h q hq
  have:=h q (by rcases List.mem_cons.1 hq with g|g;exact .inr g;exact .inl g)
  exact A3.1 (by simpa using this)
 intro h q hq
 have:=A3.2 (h q (by rcases hq with g|g;exact List.mem_cons_of_mem _ g;rw [g];exact C7 p))
 simp [this]
theorem jJ {t u:List bc} (h:bV t u) {p:aI} (hs:jH t p=true):jH u p=true:=by
 rw [A4] at hs ⊢
 intro q hq
 obtain ⟨e,he,rfl⟩:=hs q hq
 exact h.mem he
abbrev sA (l:List Jb):Prop:=l.Pairwise (fun a b=>a.id<b.id)
theorem vG {l:List Jb} (ha:sA l) {i k:Nat} {x y:Jb} (hx:l[i]?=some x) (hy:l[k]?=some y) (e:x.id=y.id):i=k:=by
 obtain ⟨hi,rfl⟩:=List.getElem?_eq_some_iff.1 hx
 obtain ⟨hk,rfl⟩:=List.getElem?_eq_some_iff.1 hy
 rcases Nat.lt_trichotomy i k with g|g|g
 ·have:=List.pairwise_iff_getElem.1 ha i k hi hk g;omega
 ·exact g
 have:=List.pairwise_iff_getElem.1 ha k i hk hi g;omega
theorem cm {l:List Jb} (ha:sA l) {x y:Jb} (hx:x∈l) (hy:y∈l) (e:x.id=y.id):x=y:=by
 obtain ⟨i,hi⟩:=List.getElem?_of_mem hx
 obtain ⟨j,hj⟩:=List.getElem?_of_mem hy
 have:=vG ha hi hj e
 subst this;rw [hi] at hj;exact Option.some.inj hj
theorem vH {l:List Jb} (ha:sA l) {k:Nat} {j x:Jb} (hj:l[k]?=some j) {y:Jb}:y∈l.set k x↔y=x∨(y∈l∧y.id≠j.id):=by
 have hk:=(List.getElem?_eq_some_iff.1 hj).1
 constructor
 ·intro h
  obtain ⟨i,hi⟩:=List.getElem?_of_mem h
  by_cases e:k=i
  ·subst e;rw [List.getElem?_set_self hk] at hi;cases hi;exact .inl rfl
  rw [List.getElem?_set_ne e] at hi
  exact .inr ⟨List.mem_of_getElem? hi,fun g=>e (vG ha hj hi g.symm)⟩
 rintro (rfl|⟨h,g⟩)
 ·exact List.mem_of_getElem? (List.getElem?_set_self hk)
 obtain ⟨i,hi⟩:=List.getElem?_of_mem h
 have e:k≠i:=by rintro rfl;rw [hi] at hj;cases hj;exact g rfl
 exact List.mem_of_getElem? (i:=i) (by rw [List.getElem?_set_ne e];exact hi)
theorem P4 {l:List Jb} (ha:sA l) {k:Nat} {j:Jb} (hj:l[k]?=some j):l.eraseIdx k=l.filter fun y=>!decide (y.id=j.id):=by
 induction l generalizing k with
 |nil=>simp at hj
 |cons y r ih=>
  rw [sA,List.pairwise_cons] at ha
  cases k with
  |zero=>
   simp at hj;subst hj
   have:r.filter (fun z=>!decide (z.id=y.id))=r:=by
    rw [List.filter_eq_self];intro z hz;have:=ha.1 z hz;simp;omega
   simp [this]
  |succ k=>
   simp only [List.getElem?_cons_succ] at hj
   have hne:¬y.id=j.id:=by have:=ha.1 j (List.mem_of_getElem? hj);omega
   rw [List.eraseIdx_cons_succ,ih ha.2 hj]
   simp [hne]
theorem JK {l:List Jb} (ha:sA l) {k:Nat} {j:Jb} (hj:l[k]?=some j) {y:Jb}:y∈l.eraseIdx k↔y∈l∧y.id≠j.id:=by
 rw [P4 ha hj,List.mem_filter];simp
theorem vI {l:List Jb} (ha:sA l) {k:Nat} {j x:Jb} (hj:l[k]?=some j) (e:x.id=j.id):sA (l.set k x):=by
 have h1:(l.set k x).map (·.id)=l.map (·.id):=by
  rw [List.map_set,e]
  have hk:=(List.getElem?_eq_some_iff.1 hj).1
  refine List.ext_getElem? fun i=>?_
  by_cases g:k=i
  ·subst g;rw [List.getElem?_set_self (by simpa using hk),List.getElem?_map,hj];rfl
  rw [List.getElem?_set_ne g]
 have h2:(l.map (·.id)).Pairwise (·<·):=List.pairwise_map.2 ha
 rw [←h1] at h2
 exact List.pairwise_map.1 h2
theorem vJ (k:Nat) (p:aI):∀{l:List Jb} {i:Nat} {j:Jb} (x:Jb),l[i]?=some j→gU k p (l.set i x)+fR k p j=gU k p l+fR k p x
 |[],_,_,_,h=>by simp at h
 |y::r,0,j,x,h=>by simp at h;subst h;simp only [List.set_cons_zero,gz];omega
 |y::r,i+1,j,x,h=>by
  simp only [List.getElem?_cons_succ] at h
  have:=vJ k p x h
  simp only [List.set_cons_succ,gz];omega
theorem tV (k:Nat) (p:aI):∀{l:List Jb} {i:Nat} {j:Jb},l[i]?=some j→gU k p (l.eraseIdx i)+fR k p j=gU k p l
 |[],_,_,h=>by simp at h
 |y::r,0,j,h=>by simp at h;subst h;simp only [List.eraseIdx_cons_zero,gz];omega
 |y::r,i+1,j,h=>by
  simp only [List.getElem?_cons_succ] at h
  have:=tV k p h
  simp only [List.eraseIdx_cons_succ,gz];omega
theorem MV (k:Nat) (p:aI) (l:List Jb) (x:Jb):gU k p (l++[x])=gU k p l+fR k p x:=by simp [gU]
theorem SY (k:Nat) (p:aI) {l:List Jb} {j:Jb} (h:j∈l):fR k p j≤gU k p l:=by
 induction l with
 |nil=>cases h
 |cons y r ih=>
  rw [gz]
  rcases List.mem_cons.1 h with rfl|h
  ·omega
  have:=ih h;omega
theorem nJ {l:List Jb} {id:Int} {k:Nat} (h:l.findIdx? (fun j=>decide (j.id=id))=some k):∃j,l[k]?=some j∧j.id=id∧l.getD k Jb.zero=j:=by
 obtain ⟨hk,hp,_⟩:=List.findIdx?_eq_some_iff_getElem.1 h
 refine ⟨l[k],List.getElem?_eq_getElem hk,by simpa using hp,?_⟩
 rw [List.getD_eq_getElem?_getD,List.getElem?_eq_getElem hk];rfl
structure aU.ok (s:aU):Prop where
 aG:s.aG.ok
 gE:s.aG.w
 tree:Tree.ok s.tree
 used:∀e∈s.tree,∀k<4,vk k e.used=gU k e.path s.av
 most:s.av.length≤32
 next:1≤s.next∧s.next<18446744073709551616
 ids:sA s.av
 vK:∀j∈s.av,1≤j.id∧j.id<s.next
 pG:∀j∈s.av,eS j.x=0∧j.x.fY.w∧jH s.tree j.x.path=true
 left:∀j∈s.av,(j.runs=true→1≤j.left∧j.left≤j.x.eI)∧(j.runs=false→j.left=0)
 jS:yT s.queue
 kO:AY s.queue
 ia:∀q,q∈s.queue↔∃j∈s.av,j.runs=false∧q=⟨j.id,j.x.prio⟩
 places:∀x∈s.aG.places,∃j∈s.av,j.runs=true∧j.id=x.bz∧x.v=j.x.fY
 count:∀j∈s.av,j.runs=true→(sy j.id s.aG.places:Int)=j.x.count
 notes:s.ev.l.length≤32∧s.au.l.length≤32
theorem JL {l:List Jb} (ha:sA l) (f:Jb→ct) (hf:∀j,(f j).id=j.id):(l.map f).Nodup:=by
 rw [List.nodup_iff_pairwise_ne,List.pairwise_map]
 exact ha.imp fun {a b} h e=>by have:=congrArg ct.id e;rw [hf,hf] at this;omega
theorem aU.ok.VG {s:aU} (h:s.ok):s.queue.length=wZ s.av:=by
 have h1:(((s.av.filter fun j=>!j.runs).map fun j=>(⟨j.id,j.x.prio⟩:ct))).Nodup:=JL (h.ids.filter _) _ (fun _=>rfl)
 have h2:s.queue.Nodup:=by rw [List.nodup_iff_pairwise_ne];exact h.kO.imp fun {a b} g e=>g (by rw [e])
 have:=((List.perm_ext_iff_of_nodup h2 h1).2 fun q=>by
  rw [h.ia q,List.mem_map]
  constructor
  ·rintro ⟨j,a,b,c⟩;exact ⟨j,List.mem_filter.2 ⟨a,by simp [b]⟩,c.symm⟩
  rintro ⟨j,a,c⟩;obtain ⟨a1,a2⟩:=List.mem_filter.1 a;exact ⟨j,a1,by simpa using a2,c.symm⟩).length_eq
 rw [this,lgM];rfl
theorem Hf {s:aU} (h:s.ok):∀(r:List Jb) (q:Option Int),(∀j∈r,j∈s.av)→sA r→(∀p,q=some p→∀j∈r,p<j.id)→G3 s q r=true
 |[],_,_,_,_=>rfl
 |j::r,q,hm,ha,hq=>by
  rw [sA,List.pairwise_cons] at ha
  have hj:=hm j (by simp)
  obtain ⟨a1,a2⟩:=h.vK j hj
  obtain ⟨b1,_,b3⟩:=h.pG j hj
  have key:(if j.runs then decide (1≤j.left)&&decide (j.left≤j.x.eI) else decide (j.left=0)&&s.queue.contains ⟨j.id,j.x.prio⟩)=true:=by
   obtain ⟨c1,c2⟩:=h.left j hj
   cases hr:j.runs with
   |true=>have:=c1 hr;simp;exact this
   |false=>
    have hc:s.queue.contains ⟨j.id,j.x.prio⟩=true:=by rw [List.contains_iff_mem];exact (h.ia _).2 ⟨j,hj,hr,rfl⟩
    simp only [Bool.false_eq_true,if_false,hc,c2 hr];simp
  have h1:Yd s q j=true:=by
   unfold Yd
   cases q with
   |none=>rw [if_neg (by omega),if_neg (by omega),if_neg (by simp),if_neg (by simp [b1]),b3,if_neg (by simp),key]
   |some p=>rw [if_neg (by omega),if_neg (by omega),if_neg (by have:=hq p rfl j (by simp);simp;omega),if_neg (by simp [b1]),b3,if_neg (by simp),key]
  unfold G3
  rw [h1,Hf h r (some j.id) (fun x hx=>hm x (by simp [hx])) ha.2 (fun p hp x hx=>by cases hp;exact ha.1 x hx)];rfl
theorem aU.ok.right {s:aU} (h:s.ok):zn s=true:=by
 have h1:Ej s.aG=true:=Jw.2 h.aG
 have h2:Es s.tree=true:=JG h.tree fun e he k hk=>by
  rw [h.used e he k hk];exact SX h.tree.wT (fun x hx=>h.used x hx k hk) e.path
 have hq:=h.VG
 have hw:wZ s.av≤s.av.length:=List.length_filter_le _ _
 have hm:=h.most
 have h3:Em s.queue=true:=by
  refine MU h.kO h.jS ?_ (by omega)
  intro q hq
  obtain ⟨j,hj,_,rfl⟩:=(h.ia q).1 hq
  obtain ⟨_,_,hp,_⟩:=cZ.1 (h.pG j hj).1
  simp [kU];omega
 have h4:G3 s none s.av=true:=Hf h s.av none (fun j hj=>hj) h.ids (fun p hp=>by cases hp)
 have h5:EB s=true:=by
  have hn:=vE 0 s.av [] h.ids (by simp)
  obtain ⟨m,a1,a2⟩:=vF (l:=s.av) s.aG.places (PZ s.av) hn.1 (fun x hx=>by
   obtain ⟨j,hj,_,g2,g3⟩:=h.places x hx
   have:(bD s.av x.bz).1=j:=by
    unfold bD
    cases hf:s.av.find? (fun j=>decide (j.id=x.bz)) with
    |none=>rw [List.find?_eq_none] at hf;have:=hf j hj;simp [g2] at this
    |some y=>
     have e:=List.find?_some hf
     simp only [decide_eq_true_eq] at e
     exact cm h.ids (List.mem_of_find?_eq_some hf) hj (by rw [e,g2])
   rw [this,g3]) (fun id=>by
   rw [PZ,(vE id s.av [] h.ids (by simp)).2]
   cases hf:s.av.find? (fun j=>decide (j.id=id)&&j.runs) with
   |some j=>
    have e:=List.find?_some hf
    simp only [Bool.and_eq_true,decide_eq_true_eq] at e
    have hj:=List.mem_of_find?_eq_some hf
    have:=h.count j hj e.2
    rw [e.1] at this
    exact this.symm
   |none=>
    rw [List.find?_eq_none] at hf
    have:sy id s.aG.places=0:=by
     unfold sy
     rw [List.length_eq_zero_iff,List.filter_eq_nil_iff]
     intro x hx g
     obtain ⟨j,hj,g1,g2,_⟩:=h.places x hx
     have:=hf j hj
     simp only [decide_eq_true_eq] at g
     simp [g2,g,g1] at this
    rw [this];rfl)
  unfold EB;rw [a1];exact a2
 have h6:(s.tree.any fun e=>!LI s e)=false:=by
  rw [List.any_eq_false];intro e he
  rw [P2 (h.tree.w e he).2 (fun j hj _=>(cZ.1 (h.pG j hj).1).2.2.2.2.2) (h.used e he)];simp
 have h7:=h.notes
 have h8:=h.next
 unfold zn
 rw [h1,h2,h3,h4,h5,h6]
 simp only [Bool.not_true,Bool.false_eq_true,if_false]
 rw [if_neg (by omega),if_neg (by omega),if_neg (by omega)]
 simp [hq]
theorem P5 {x:Cf} (h:x.l.length≤32) (n:dU):(tell x n).l.length≤32:=by
 unfold tell
 by_cases g:32<(x.l++[n]).length
 ·rw [if_pos g];simp;omega
 rw [if_neg g];simp only at*;omega
theorem aU.ok.event {s:aU} (h:s.ok) (id kind:Int):(iM s id kind).ok:=
 {h with notes:=⟨P5 h.notes.1 _,h.notes.2⟩}
theorem MW {x:Ask} (h:eS x=0) (id:Int):kU ⟨id,x.prio⟩=false:=by
 obtain ⟨_,_,hp,_⟩:=cZ.1 h
 simp [kU];omega
theorem JM {x:Ask} (h:eS x=0):named x.path=true:=by
 unfold named;rw [(cZ.1 h).1];simp
theorem aU.ok.c7 {s:aU} (h:s.ok) {x:Ask} (hx:x.fY.w):(c7 s x).1.ok:=by
 unfold Dem.c7
 by_cases h1:eS x≠0
 ·rw [if_pos h1];exact h
 rw [if_neg h1];simp only [Decidable.not_not] at h1
 by_cases h2:(!jH s.tree x.path)=true
 ·rw [if_pos h2];exact h
 rw [if_neg h2]
 by_cases h3:32≤s.av.length∨s.next=18446744073709551615
 ·rw [if_pos h3];exact h
 rw [if_neg h3]
 have hnx:=h.next
 rcases qJ s.queue ⟨s.next,x.prio⟩ with ⟨_,e2,_⟩|⟨e,_,hno,_⟩
 ·rw [if_pos e2];exact h
 rw [e]
 rw [if_neg (by simp)]
 have hu:u64 (s.next+1)=s.next+1:=by unfold u64;omega
 have hn:fR=fR:=rfl
 refine aU.ok.event (s:=⟨s.round,u64 (s.next+1),s.aG,s.tree,s.av++[⟨s.next,x,false,0⟩],_,s.ev,s.au⟩) ?_ _ _
 rw [hu]
 have hm:∀j,j∈s.av++[(⟨s.next,x,false,0⟩:Jb)]↔j∈s.av∨j=⟨s.next,x,false,0⟩:=fun j=>by simp
 exact {
  aG:=h.aG,gE:=h.gE,tree:=h.tree,notes:=h.notes
  used:=fun e he k hk=>by rw [h.used e he k hk];simp only [MV];simp [fR]
  most:=by simp only [List.length_append,List.length_singleton];omega
  next:=by simp only;omega
  ids:=by
   rw [sA,List.pairwise_append]
   refine ⟨h.ids,by simp,fun a ha b hb=>?_⟩
   simp at hb;subst hb;exact (h.vK a ha).2
  vK:=fun j hj=>by
   rcases (hm j).1 hj with g|rfl
   ·have:=h.vK j g;simp only;omega
   simp only;omega
  pG:=fun j hj=>by
   rcases (hm j).1 hj with g|rfl
   ·exact h.pG j g
   exact ⟨h1,hx,by simpa using h2⟩
  left:=fun j hj=>by
   rcases (hm j).1 hj with g|rfl
   ·exact h.left j g
   exact ⟨fun g=>(by cases g),fun _=>rfl⟩
  jS:=G5 h.jS hno
  kO:=G7 h.kO hno _
  ia:=fun q=>by
   show q∈List.take _ s.queue++_::List.drop _ s.queue↔_
   rw [G6,h.ia q]
   constructor
   ·rintro (⟨j,a,b,c⟩|rfl)
    ·exact ⟨j,(hm j).2 (.inl a),b,c⟩
    exact ⟨_,(hm _).2 (.inr rfl),rfl,rfl⟩
   rintro ⟨j,a,b,c⟩
   rcases (hm j).1 a with g|rfl
   ·exact .inl ⟨j,g,b,c⟩
   exact .inr c
  places:=fun y hy=>by
   obtain ⟨j,a,b⟩:=h.places y hy
   exact ⟨j,(hm j).2 (.inl a),b⟩
  count:=fun j hj hr=>by
   rcases (hm j).1 hj with g|rfl
   ·exact h.count j g hr
   cases hr}
theorem C9 {s:aU} (h:s.ok) {p:aI} {v:bG} (hc:(cY s.tree p v).2=0):
 Tree.ok (cY s.tree p v).1∧bV s.tree (cY s.tree p v).1∧∀e∈(cY s.tree p v).1,∀k<4,vk k e.used=gU k e.path s.av+if e.path∈above p then vk k v else 0:=by
 unfold cY at*
 rcases qH (fM v) h.tree.wT p with ⟨_,e2,_⟩|⟨e,_,_,hf⟩
 ·exact absurd hc e2
 rw [e]
 have hk:bV s.tree (vz (fM v) (above p) s.tree):=AW fun e he hp=>by rw [yu (hf e he hp)];exact ⟨rfl,rfl⟩
 have hv:∀x∈vz (fM v) (above p) s.tree,x.used.w∧(∀k<4,vk k x.used≤vk k x.eX)∧∀k<4,vk k x.used=gU k x.path s.av+if x.path∈above p then vk k v else 0:=by
  intro x hx
  obtain ⟨e,he,rfl⟩:=List.mem_map.1 hx
  by_cases hp:e.path∈above p
  ·rw [if_pos hp]
   have h0:=hf e he hp
   obtain ⟨c1,c2⟩:=oZ.1 h0
   rw [yu h0]
   refine ⟨JE c1,mE.1 c2,fun k hk=>?_⟩
   simp only
   rw [oX c1 hk,h.used e he k hk,if_pos hp]
  rw [if_neg hp]
  exact ⟨(h.tree.w e he).2,h.tree.fits e he,fun k hk=>by rw [h.used e he k hk,if_neg hp];rfl⟩
 exact ⟨hk.ok h.tree (fun e he=>(hv e he).2.1) (fun e he=>(hv e he).1),hk,fun e he=>(hv e he).2.2⟩
theorem oa {s:aU} (h:s.ok) {i:Nat} {j:Jb} (hj:s.av[i]?=some j) (hr:j.runs=true):
 rR s.tree j.x.path j.tot=(vz (eF j.tot) (above j.x.path) s.tree,0)∧
 Tree.ok (vz (eF j.tot) (above j.x.path) s.tree)∧bV s.tree (vz (eF j.tot) (above j.x.path) s.tree)∧∀e∈vz (eF j.tot) (above j.x.path) s.tree,∀k<4,vk k e.used+fR k e.path j=gU k e.path s.av:=by
 have hm:=List.mem_of_getElem? hj
 obtain ⟨g1,g2,g3⟩:=h.pG j hm
 have hs:∀e∈s.tree,e.path∈above j.x.path→(dO e.used j.tot).2=true:=fun e he hp=>m9.2 fun k hk=>by
  have:=SY k e.path hm
  rw [←h.used e he k hk] at this
  rw [fR,if_pos ⟨hr,hp⟩] at this
  exact this
 have hz:∀e∈s.tree,e.path∈above j.x.path→(eF j.tot e).2=0:=fun e he hp=>vB.2 (hs e he hp)
 have hk:bV s.tree (vz (eF j.tot) (above j.x.path) s.tree):=AW fun e he hp=>by rw [yw (hz e he hp)];exact ⟨rfl,rfl⟩
 have hv:∀x∈vz (eF j.tot) (above j.x.path) s.tree,x.used.w∧(∀k<4,vk k x.used≤vk k x.eX)∧∀k<4,vk k x.used+fR k x.path j=gU k x.path s.av:=by
  intro x hx
  obtain ⟨e,he,rfl⟩:=List.mem_map.1 hx
  by_cases hp:e.path∈above j.x.path
  ·rw [if_pos hp]
   have h0:=hs e he hp
   rw [yw (hz e he hp)]
   have Zd:=(h.tree.w e he).2
   refine ⟨Ev h0,fun k hk=>?_,fun k hk=>?_⟩
   ·simp only;rw [EC Zd h0 hk];have:=h.tree.fits e he k hk;omega
   have h1:=m9.1 h0 k hk
   simp only;rw [EC Zd h0 hk,fR,if_pos ⟨hr,hp⟩,←h.used e he k hk]
   unfold vk;omega
  rw [if_neg hp]
  exact ⟨(h.tree.w e he).2,h.tree.fits e he,fun k hk=>by rw [h.used e he k hk,fR,if_neg (fun g=>hp g.2)];rfl⟩
 refine ⟨?_,hk.ok h.tree (fun e he=>(hv e he).2.1) (fun e he=>(hv e he).1),hk,fun e he=>(hv e he).2.2⟩
 unfold rR
 rcases qH (eF j.tot) h.tree.wT j.x.path with ⟨_,_,e|⟨q,hq,e⟩|⟨y,hy,hp,e⟩⟩|⟨e,_⟩
 ·rw [JM g1] at e;cases e
 ·obtain ⟨z,hz,g⟩:=A4.1 g3 q hq;exact absurd g (e z hz)
 ·exact absurd (hz y hy hp) e
 exact e
theorem aU.ok.ED {s:aU} (h:s.ok) {j:Jb} (hj:j∈s.av) (hr:j.runs=false):∀x∈s.aG.places,x.bz≠j.id:=by
 intro x hx g
 obtain ⟨y,a,b,c,_⟩:=h.places x hx
 have:=cm h.ids a hj (by rw [c,g])
 subst this;rw [hr] at b;cases b
theorem aU.ok.EE {s:aU} (h:s.ok) {j:Jb} (hj:j∈s.av) (hr:j.runs=true):∀q∈s.queue,q.id≠j.id:=by
 intro q hq g
 obtain ⟨y,a,b,rfl⟩:=(h.ia q).1 hq
 have:=cm h.ids a hj g
 subst this;rw [hr] at b;cases b
theorem JN (id:Int) (a b:List Place):sy id (a++b)=sy id a+sy id b:=by simp [sy]
theorem P6 (id bz:Int) (v:bG) (names:List aI):sy id (names.map fun n=>(⟨bz,n,v⟩:Place))=if bz=id then names.length else 0:=by
 unfold sy
 by_cases h:bz=id
 ·rw [if_pos h,List.filter_eq_self.2 (by intro x hx;obtain ⟨n,_,rfl⟩:=List.mem_map.1 hx;simpa using h)];simp
 rw [if_neg h,List.filter_eq_nil_iff.2 (by intro x hx;obtain ⟨n,_,rfl⟩:=List.mem_map.1 hx;simpa using h)];rfl
theorem Hg (id bz:Int) (ps:List Place):sy id (ps.filter fun x=>!decide (x.bz=bz))=if id=bz then 0 else sy id ps:=by
 unfold sy
 rw [List.filter_filter]
 by_cases h:id=bz
 ·rw [if_pos h,List.length_eq_zero_iff,List.filter_eq_nil_iff];intro x _;simp;intro g;omega
 rw [if_neg h];congr 1;refine List.filter_congr fun x _=>?_
 by_cases g:x.bz=id
 ·simp [g,h]
 simp [g]
theorem aU.ok.jI {s:aU} (h:s.ok) {i:Nat} {j:Jb} (hj:s.av[i]?=some j) (names:List aI):(jI s i j j.id names).1.ok:=by
 have hm:=List.mem_of_getElem? hj
 obtain ⟨g1,g2,g3⟩:=h.pG j hm
 unfold Dem.jI
 by_cases h1:j.runs=true
 ·rw [if_pos h1];exact h
 rw [if_neg h1]
 by_cases h2:(names.length:Int)≠j.x.count
 ·rw [if_pos h2];exact h
 rw [if_neg h2]
 by_cases h3:(!(cV j.x).2)=true
 ·rw [if_pos h3];exact h
 rw [if_neg h3]
 by_cases h4:(cY s.tree j.x.path (cV j.x).1).2≠0
 ·rw [if_pos h4];exact h
 rw [if_neg h4]
 rcases A2 s.aG j.id names j.x.fY with ⟨_,e2⟩|⟨e,_⟩
 ·rw [if_pos e2];exact h
 rw [if_neg (by rw [e];simp)]
 simp only [Decidable.not_not] at h2 h4
 have hrf:j.runs=false:=by simpa using h1
 obtain ⟨c1,c2,c3⟩:=C9 h h4
 obtain ⟨p1,p2⟩:=VD h.aG h.gE j.id names g2
 rw [lM h.kO]
 rw [e] at p1 p2 ⊢
 refine aU.ok.event (s:=⟨s.round,s.next,_,_,s.av.set i {j with runs:=true,left:=j.x.eI},_,s.ev,s.au⟩) ?_ _ _
 have hs:∀y,y∈s.av.set i {j with runs:=true,left:=j.x.eI}↔y={j with runs:=true,left:=j.x.eI}∨(y∈s.av∧y.id≠j.id):=fun y=>vH h.ids hj
 obtain ⟨_,_,_,VH,_⟩:=cZ.1 g1
 exact {
  aG:=p1,gE:=p2,tree:=c1,notes:=h.notes
  used:=fun e he k hk=>by
   have:=vJ k e.path {j with runs:=true,left:=j.x.eI} hj
   have t0:fR k e.path j=0:=by simp [fR,hrf]
   have t1:fR k e.path {j with runs:=true,left:=j.x.eI}=if e.path∈above j.x.path then vk k (cV j.x).1 else 0:=by simp [fR]
   rw [t0,t1] at this
   rw [c3 e he k hk];simp only;omega
  most:=by simp only [List.length_set];exact h.most
  next:=h.next
  ids:=vI h.ids hj rfl
  vK:=fun y hy=>by rcases (hs y).1 hy with rfl|⟨g,_⟩;exact h.vK j hm;exact h.vK y g
  pG:=fun y hy=>by
   rcases (hs y).1 hy with rfl|⟨g,_⟩
   ·exact ⟨g1,g2,jJ c2 g3⟩
   obtain ⟨a,b,c⟩:=h.pG y g;exact ⟨a,b,jJ c2 c⟩
  left:=fun y hy=>by
   rcases (hs y).1 hy with rfl|⟨g,_⟩
   ·exact ⟨fun _=>⟨VH.1,Int.le_refl _⟩,fun g=>by cases g⟩
   exact h.left y g
  jS:=h.jS.filter _
  kO:=h.kO.filter _
  ia:=fun q=>by
   show q∈s.queue.filter _↔_
   rw [List.mem_filter,h.ia q]
   constructor
   ·rintro ⟨⟨y,a,b,rfl⟩,c⟩
    exact ⟨y,(hs y).2 (.inr ⟨a,by simpa using c⟩),b,rfl⟩
   rintro ⟨y,a,b,rfl⟩
   rcases (hs y).1 a with rfl|⟨g,g4⟩
   ·cases b
   exact ⟨⟨y,g,b,rfl⟩,by simpa using g4⟩
  places:=fun x hx=>by
   rcases List.mem_append.1 hx with g|g
   ·obtain ⟨y,a,b,c,d⟩:=h.places x g
    refine ⟨y,(hs y).2 (.inr ⟨a,fun e2=>?_⟩),b,c,d⟩
    have:=cm h.ids a hm e2
    subst this;rw [hrf] at b;cases b
   obtain ⟨n,_,rfl⟩:=List.mem_map.1 g
   exact ⟨_,(hs _).2 (.inl rfl),rfl,rfl,rfl⟩
  count:=fun y hy hr=>by
   show ((sy y.id (s.aG.places++names.map fun n=>(⟨j.id,n,j.x.fY⟩:Place)):Nat):Int)=_
   rw [JN,P6]
   rcases (hs y).1 hy with rfl|⟨g,g4⟩
   ·have:sy j.id s.aG.places=0:=by
     unfold sy;rw [List.length_eq_zero_iff,List.filter_eq_nil_iff];intro x hx;simpa using h.ED hm hrf x hx
    simp only [this];simp;exact h2
   rw [if_neg (fun e2=>g4 e2.symm),Nat.add_zero];exact h.count y g hr}
theorem aU.ok.w8 {s:aU} (h:s.ok) (id:Int) (names:List aI):(bS s id names).1.ok:=by
 unfold bS
 cases hf:s.av.findIdx? (fun j=>decide (j.id=id)) with
 |none=>exact h
 |some k=>
  obtain ⟨j,a,b,c⟩:=nJ hf
  simp only
  rw [c,←b];exact h.jI a names
theorem aU.ok.jK {s:aU} (h:s.ok) {i:Nat} {j:Jb} (hj:s.av[i]?=some j) (hr:j.runs=true):
 ng s j=⟨s.round,s.next,qE s.aG j.id,vz (eF j.tot) (above j.x.path) s.tree,s.av,s.queue,s.ev,s.au⟩:=by
 have hm:=List.mem_of_getElem? hj
 unfold ng
 rw [if_pos (cZ.1 (h.pG j hm).1).2.2.2.2.2,(oa h hj hr).1]
theorem aU.ok.VI {s:aU} (h:s.ok) {j:Jb} (hm:j∈s.av) (hr:j.runs=true):
 jW s.queue ⟨j.id,j.x.prio⟩=(s.queue.take (vq s.queue ⟨j.id,j.x.prio⟩)++⟨j.id,j.x.prio⟩::s.queue.drop (vq s.queue ⟨j.id,j.x.prio⟩),0):=by
 rcases qJ s.queue ⟨j.id,j.x.prio⟩ with ⟨_,_,e|⟨q,hq,e⟩|e⟩|⟨e,_⟩
 ·rw [MW (h.pG j hm).1] at e;cases e
 ·exact absurd e (h.EE hm hr q hq)
 ·have h1:=h.VG
  have h2:=h.most
  have h3:wZ s.av<s.av.length:=by
   unfold wZ
   exact List.length_filter_lt_length_iff_exists.2 ⟨j,hm,by simp [hr]⟩
  omega
 exact e
theorem aU.ok.stop {s:aU} (h:s.ok) (id kind:Int):(gC s id kind).1.ok:=by
 unfold gC
 cases hf:s.av.findIdx? (fun j=>decide (j.id=id)) with
 |none=>exact h
 |some i=>
  obtain ⟨j,hj,hid,c⟩:=nJ hf
  simp only
  rw [c]
  by_cases h1:(!j.runs)=true
  ·rw [if_pos h1];exact h
  rw [if_neg h1]
  have hr:j.runs=true:=by simpa using h1
  have hm:=List.mem_of_getElem? hj
  obtain ⟨g1,g2,g3⟩:=h.pG j hm
  obtain ⟨_,c1,c2,c3⟩:=oa h hj hr
  rw [h.jK hj hr,←hid]
  simp only [C2]
  rw [h.VI hm hr]
  obtain ⟨p1,p2⟩:=G9 h.aG h.gE j.id
  refine aU.ok.event (s:=⟨s.round,s.next,_,_,s.av.set i {j with runs:=false,left:=0},_,s.ev,s.au⟩) ?_ _ _
  have hs:∀y,y∈s.av.set i {j with runs:=false,left:=0}↔y={j with runs:=false,left:=0}∨(y∈s.av∧y.id≠j.id):=fun y=>vH h.ids hj
  exact {
   aG:=p1,gE:=p2,tree:=c1,notes:=h.notes
   used:=fun e he k hk=>by
    have:=vJ k e.path {j with runs:=false,left:=0} hj
    have t1:fR k e.path {j with runs:=false,left:=0}=0:=by simp [fR]
    rw [t1] at this
    have:=c3 e he k hk;simp only;omega
   most:=by simp only [List.length_set];exact h.most
   next:=h.next
   ids:=vI h.ids hj rfl
   vK:=fun y hy=>by rcases (hs y).1 hy with rfl|⟨g,_⟩;exact h.vK j hm;exact h.vK y g
   pG:=fun y hy=>by
    rcases (hs y).1 hy with rfl|⟨g,_⟩
    ·exact ⟨g1,g2,jJ c2 g3⟩
    obtain ⟨a,b,c⟩:=h.pG y g;exact ⟨a,b,jJ c2 c⟩
   left:=fun y hy=>by
    rcases (hs y).1 hy with rfl|⟨g,_⟩
    ·exact ⟨fun g=>(by cases g),fun _=>rfl⟩
    exact h.left y g
   jS:=G5 h.jS (h.EE hm hr)
   kO:=G7 h.kO (h.EE hm hr) _
   ia:=fun q=>by
    show q∈List.take _ s.queue++_::List.drop _ s.queue↔_
    rw [G6,h.ia q]
    constructor
    ·rintro (⟨y,a,b,rfl⟩|rfl)
     ·refine ⟨y,(hs y).2 (.inr ⟨a,fun e=>?_⟩),b,rfl⟩
      have:=cm h.ids a hm e
      subst this;rw [hr] at b;cases b
     exact ⟨_,(hs _).2 (.inl rfl),rfl,rfl⟩
    rintro ⟨y,a,b,rfl⟩
    rcases (hs y).1 a with rfl|⟨g,g4⟩
    ·exact .inr rfl
    exact .inl ⟨y,g,b,rfl⟩
   places:=fun x hx=>by
    obtain ⟨hx1,Oh⟩:=List.mem_filter.1 hx
    obtain ⟨y,a,b,c,d⟩:=h.places x hx1
    exact ⟨y,(hs y).2 (.inr ⟨a,by rw [c];simpa using Oh⟩),b,c,d⟩
   count:=fun y hy hr=>by
    rcases (hs y).1 hy with rfl|⟨g,g4⟩
    ·cases hr
    show ((sy y.id (s.aG.places.filter fun x=>!decide (x.bz=j.id)):Nat):Int)=_
    rw [Hg,if_neg g4];exact h.count y g hr}
theorem aU.ok.end_ {s:aU} (h:s.ok) (id kind:Int):(send s id kind).1.ok:=by
 unfold send
 cases hf:s.av.findIdx? (fun j=>decide (j.id=id)) with
 |none=>exact h
 |some i=>
  obtain ⟨j,hj,hid,c⟩:=nJ hf
  simp only
  rw [c]
  have hm:=List.mem_of_getElem? hj
  have hs:∀y,y∈s.av.eraseIdx i↔y∈s.av∧y.id≠j.id:=fun y=>JK h.ids hj
  have hlen:(s.av.eraseIdx i).length≤s.av.length:=by rw [List.length_eraseIdx];split<;>omega
  have hsub:(s.av.eraseIdx i).Sublist s.av:=List.eraseIdx_sublist _ _
  by_cases hr:j.runs=true
  ·rw [if_pos hr,h.jK hj hr]
   obtain ⟨_,c1,c2,c3⟩:=oa h hj hr
   obtain ⟨p1,p2⟩:=G9 h.aG h.gE j.id
   refine aU.ok.event (s:=⟨s.round,s.next,_,_,s.av.eraseIdx i,s.queue,s.ev,s.au⟩) ?_ _ _
   exact {
    aG:=p1,gE:=p2,tree:=c1,notes:=h.notes
    used:=fun e he k hk=>by
     have:=tV k e.path hj
     have:=c3 e he k hk;simp only;omega
    most:=Nat.le_trans hlen h.most
    next:=h.next
    ids:=h.ids.sublist hsub
    vK:=fun y hy=>h.vK y ((hs y).1 hy).1
    pG:=fun y hy=>by obtain ⟨a,b,c⟩:=h.pG y ((hs y).1 hy).1;exact ⟨a,b,jJ c2 c⟩
    left:=fun y hy=>h.left y ((hs y).1 hy).1
    jS:=h.jS,kO:=h.kO
    ia:=fun q=>by
     rw [h.ia q]
     constructor
     ·rintro ⟨y,a,b,rfl⟩
      refine ⟨y,(hs y).2 ⟨a,fun e=>?_⟩,b,rfl⟩
      have:=cm h.ids a hm e
      subst this;rw [hr] at b;cases b
     rintro ⟨y,a,b,rfl⟩;exact ⟨y,((hs y).1 a).1,b,rfl⟩
    places:=fun x hx=>by
     obtain ⟨hx1,Oh⟩:=List.mem_filter.1 hx
     obtain ⟨y,a,b,c,d⟩:=h.places x hx1
     exact ⟨y,(hs y).2 ⟨a,by rw [c];simpa using Oh⟩,b,c,d⟩
    count:=fun y hy hr=>by
     obtain ⟨g,g4⟩:=(hs y).1 hy
     show ((sy y.id (s.aG.places.filter fun x=>!decide (x.bz=j.id)):Nat):Int)=_
     rw [Hg,if_neg g4];exact h.count y g hr}
  have hrf:j.runs=false:=by simpa using hr
  rw [if_neg hr,lM h.kO,←hid]
  refine aU.ok.event (s:=⟨s.round,s.next,s.aG,s.tree,s.av.eraseIdx i,_,s.ev,s.au⟩) ?_ _ _
  exact {
   aG:=h.aG,gE:=h.gE,tree:=h.tree,notes:=h.notes
   used:=fun e he k hk=>by
    have:=tV k e.path hj
    have t0:fR k e.path j=0:=by simp [fR,hrf]
    rw [h.used e he k hk];simp only;omega
   most:=Nat.le_trans hlen h.most
   next:=h.next
   ids:=h.ids.sublist hsub
   vK:=fun y hy=>h.vK y ((hs y).1 hy).1
   pG:=fun y hy=>h.pG y ((hs y).1 hy).1
   left:=fun y hy=>h.left y ((hs y).1 hy).1
   jS:=h.jS.filter _
   kO:=h.kO.filter _
   ia:=fun q=>by
    show q∈s.queue.filter _↔_
    rw [List.mem_filter,h.ia q]
    constructor
    ·rintro ⟨⟨y,a,b,rfl⟩,c⟩
     exact ⟨y,(hs y).2 ⟨a,by simpa using c⟩,b,rfl⟩
    rintro ⟨y,a,b,rfl⟩
    obtain ⟨g,g4⟩:=(hs y).1 a
    exact ⟨⟨y,g,b,rfl⟩,by simpa using g4⟩
   places:=fun x hx=>by
    obtain ⟨y,a,b,c,d⟩:=h.places x hx
    refine ⟨y,(hs y).2 ⟨a,fun e=>?_⟩,b,c,d⟩
    have:=cm h.ids a hm e
    subst this;rw [hrf] at b;cases b
   count:=fun y hy hr=>h.count y ((hs y).1 hy).1 hr}
structure jU where
 kind:Nat
 a:Nat
 b:Nat
 c:Nat
 d:Nat
structure jU.u (x:jU):Prop where
 kind:x.kind<256
 a:x.a<256
 b:x.b<256
 c:x.c<256
 d:x.d<256
def jU.cells (x:jU):List D:=[.int .u8 x.kind,.int .u8 x.a,.int .u8 x.b,.int .u8 x.c,.int .u8 x.d]
def A5:List aI:=[[97],[97,47,98],[98],[206,177,206,178]]
def kV:List aI:=[[110,49],[110,50],[110,51]]
def Ch (x:jU):Ask:=⟨A5.getD (x.a%4) [],⟨(x.b%5:Nat),(x.b / 5%5:Nat),0,(x.b / 25%3:Nat)⟩,(1+x.c%3:Nat),(x.c / 3%4:Nat),(1+x.d%5:Nat),if 200<x.d then [⟨SU,decide (x.d%2=1),[[97]]⟩] else []⟩
def UH:List aI:=[[97],[97,47,98],[98]]
def qK (m:Nat):Nat→List bc
 |0=>(vt [⟨[],bG.zero,bG.zero⟩] [] ⟨30,30,30,30⟩).1
 |i+1=>(vt (qK m i) (UH.getD i []) ⟨(6+4*i+m:Nat),20,20,20⟩).1
def A6 (i:Nat):List dh:=if i<2 then [⟨SU,[[97],[98]].getD i []⟩] else []
def SZ (n i:Nat):Bool:=decide (n / 2^(5+i)%2=0)
def fc (n:Nat):Nat→cA
 |0=>⟨[],[]⟩
 |i+1=>if SZ n i then (qz (fc n i) ⟨kV.getD i [],⟨(4+2*i:Nat),9,9,9⟩,A6 i,false⟩).1 else fc n i
def jL (n:Nat):aU:=⟨0,1,fc n 3,qK (n%5) 3,[],[],⟨0,[]⟩,⟨0,[]⟩⟩
def pH (m:Nat):List bc:=[⟨[],⟨30,30,30,30⟩,bG.zero⟩,⟨[97],⟨(6+m:Nat),20,20,20⟩,bG.zero⟩,⟨[97,47,98],⟨(10+m:Nat),20,20,20⟩,bG.zero⟩,⟨[98],⟨(14+m:Nat),20,20,20⟩,bG.zero⟩]
theorem LK:∀m<5,qK m 3=pH m:=by decide+kernel
theorem P7:∀m<5,∀i<4,(qK m i).length≤4:=by decide+kernel
theorem S0 {n:Nat} (i:Nat):SZ n i=SZ (n / 32*32) i:=by
 unfold SZ
 rw [show 5+i=5+i from rfl,Nat.pow_add,←Nat.div_div_eq_div_mul,←Nat.div_div_eq_div_mul,show (2:Nat)^5=32 from rfl,Nat.mul_div_cancel _ (by decide)]
theorem Hh (n:Nat):∀i,fc n i=fc (n / 32*32) i
 |0=>rfl
 |i+1=>by rw [fc,fc,←Hh n i,S0]
theorem MX {m:Nat} (hm:m<5):Tree.ok (pH m)∧∀e∈pH m,e.used=bG.zero:=by
 have hz:∀e∈pH m,e.used=bG.zero:=by
  intro e he;simp only [pH,List.mem_cons,List.not_mem_nil,or_false] at he
  rcases he with rfl|rfl|rfl|rfl<;>rfl
 have hp:(pH m).map (·.path)=[[],[97],[97,47,98],[98]]:=rfl
 refine ⟨⟨⟨_,_,rfl,rfl⟩,by simp [pH],?_,?_,?_,?_,?_⟩,hz⟩
 ·have:(((pH m).map (·.path)).Pairwise (·<·)):=by rw [hp];decide
  exact List.pairwise_map.1 this
 ·intro e he
  have:e.path∈(pH m).map (·.path):=List.mem_map_of_mem he
  rw [hp] at this
  have hn:∀p∈([[],[97],[97,47,98],[98]]:List aI),named p=true:=by decide+kernel
  exact hn _ this
 ·intro e he
  have h1:e.path∈(pH m).map (·.path):=List.mem_map_of_mem he
  have hn:∀p∈([[],[97],[97,47,98],[98]]:List aI),parent p∈([[],[97],[97,47,98],[98]]:List aI):=by decide+kernel
  rw [hp] at h1
  have h2:=hn _ h1
  rw [←hp] at h2
  obtain ⟨f,hf,g⟩:=List.mem_map.1 h2
  exact ⟨f,hf,g⟩
 ·intro e he k _;rw [hz e he,nj];omega
 intro e he
 refine ⟨?_,by rw [hz e he];exact wW⟩
 simp only [pH,List.mem_cons,List.not_mem_nil,or_false] at he
 rcases he with rfl|rfl|rfl|rfl<;>(intro k hk;unfold bG.at_;split<;>simp only<;>omega)
theorem Ye (i:Nat) (hi:i<3):(⟨(4+2*i:Nat),9,9,9⟩:bG).w:=by intro k hk;unfold bG.at_;split<;>simp only<;>omega
theorem LL (n:Nat):∀i≤3,(fc n i).ok∧(fc n i).w
 |0,_=>⟨LG,PS⟩
 |i+1,h=>by
  obtain ⟨a,b⟩:=LL n i (by omega)
  unfold fc
  split
  ·exact VE a b (Ye i (by omega))
  exact ⟨a,b⟩
theorem Hi (p:cA) (n:Node):(qz p n).1.places=p.places:=by
 rcases tP p n with ⟨e,_⟩|⟨_,_,_,e⟩
 ·rw [e]
 rw [e]
theorem qL (n:Nat):∀i,(fc n i).places=[]
 |0=>rfl
 |i+1=>by
  unfold fc;split
  ·rw [Hi,qL n i]
  exact qL n i
theorem A7 (n:Nat):(jL n).ok:=by
 have hm:n%5<5:=Nat.mod_lt _ (by decide)
 obtain ⟨t1,t2⟩:=MX hm
 obtain ⟨p1,p2⟩:=LL n 3 (Nat.le_refl _)
 unfold jL
 rw [LK _ hm]
 exact {
  aG:=p1,gE:=p2,tree:=t1
  used:=fun e he k _=>by simp only at he;rw [t2 e he,nj];rfl
  most:=by simp
  next:=by simp
  ids:=List.Pairwise.nil
  vK:=fun j hj=>by cases hj
  pG:=fun j hj=>by cases hj
  left:=fun j hj=>by cases hj
  jS:=List.Pairwise.nil
  kO:=List.Pairwise.nil
  ia:=fun q=>by simp
  places:=fun x hx=>by simp only at hx;rw [qL] at hx;cases hx
  count:=fun j hj=>by cases hj
  notes:=by simp}
theorem P8 (x:jU):(Ch x).fY.w:=by intro k hk;unfold Ch bG.at_;split<;>simp only<;>omega
end Dem
end
section
open Go Go.Proofs Go.ChangeShapes Go.WideShapes Go.RowKit
namespace Dem
section
variable {H:Type} {enc:TypeId×Value→H} {W:World} {v:Value} {d:DataW H} {p:List MemPlace} {base:Nat}
theorem wf_u8 {n:Int} (h:(Lit.int .u8 n).wf=true):∃k:Nat,n=k∧k<256:=by
 simp only [Lit.wf,Bool.and_eq_true,IntKind.min,IntKind.max,IntKind.signed,IntKind.bits] at h
 simp at h
 exact ⟨n.toNat,by omega,by omega⟩
theorem S1 {r:List D} (h:de [.int .u8,.int .u8,.int .u8,.int .u8,.int .u8] r):∃x:jU,r=x.cells∧x.u:=by
 simp only [de,xW] at h
 obtain ⟨_,_,rfl,⟨n0,rfl,h0⟩,_,_,rfl,⟨n1,rfl,h1⟩,_,_,rfl,⟨n2,rfl,h2⟩,_,_,rfl,⟨n3,rfl,h3⟩,_,_,rfl,⟨n4,rfl,h4⟩,rfl⟩:=h
 obtain ⟨k0,rfl,g0⟩:=wf_u8 h0
 obtain ⟨k1,rfl,g1⟩:=wf_u8 h1
 obtain ⟨k2,rfl,g2⟩:=wf_u8 h2
 obtain ⟨k3,rfl,g3⟩:=wf_u8 h3
 obtain ⟨k4,rfl,g4⟩:=wf_u8 h4
 exact ⟨⟨k0,k1,k2,k3,k4⟩,rfl,⟨g0,g1,g2,g3,g4⟩⟩
theorem Hj (hval:Value.okWide Tryz.prog W .any base 5 v) (h:DataW.Trod enc Tryz.prog W 0 (fun _=>true) true 5 v d p):
 ∃k:Nat,aj (fun _=>0) [] W (okW W) (.d (.int .u8 (k:Int))) v∧k<256:=by
 obtain ⟨n,rfl,_,_,hw⟩:=open_int (show Tryz.prog.underlying 5=some (.int .u8) by kernel_rfl) hval h
 obtain ⟨k,rfl,hk⟩:=wf_u8 hw
 exact ⟨k,by simp only [aj,aL],hk⟩
end
end Dem
end
section
open Go Go.Proofs Go.ChangeShapes Go.WideShapes Go.RowKit
namespace Dem
section
variable {H:Type} {enc:TypeId×Value→H} {W:World} {v:Value} {d:DataW H} {p:List MemPlace} {base:Nat}
theorem Hl (hval:Value.okWide Tryz.prog W .any base 63 v) (h:DataW.Trod enc Tryz.prog W 0 (fun _=>true) true 63 v d p):
 ∃l:List jU,aj (fun _=>0) [] W (okW W) (SL (l.map jU.cells)) v∧(∀x∈l,x.u)∧l.length≤maxLen:=by
 obtain ⟨fuel,hf⟩:=h
 obtain ⟨a,len,cap,rfl⟩:=okWide_slice (show Tryz.prog.underlying 63=some (.slice 109) by kernel_rfl) hval
 obtain ⟨h1,h2⟩:=uS (VF W) 8 fuel 63 [.slice a len cap] (d,p) [.sl [.int .u8,.int .u8,.int .u8,.int .u8,.int .u8]] hf (by kernel_rfl)
 simp only [de,xW] at h2
 obtain ⟨_,_,e,⟨es,rfl,hl,hr⟩,rfl⟩:=h2
 rw [e] at h1
 simp only [cG] at h1
 obtain ⟨u,r,e2,h3,rfl⟩:=h1
 cases e2
 obtain ⟨l,rfl,Sg⟩:=LH (cells:=jU.cells) (Q:=jU.u) es (fun r hm=>S1 (hr r hm))
 exact ⟨l,by simpa only [aj] using h3,Sg,by simpa using hl⟩
end
end Dem
end
section
open Go Go.Proofs
namespace Dem
theorem cL {t:Th} (ht:TT t) {f N:Nat} {fn:Func} {c:Code} {args:List AV} {aR:List az} {res:iU} (hf:Tryz.prog.funcs[f]?=some fn) {rs:List ResultVar} (h:wP t FC tT gl N 0 c (vf t tT rs 0 res aR) ⟨pu 0 args,[]⟩)
 (hb:fn.body=some c:=by rfl) (hname:(fn.name== "runtime.NumGoroutine")=false:=by rfl) (hN:fn.ntmps=N:=by rfl) (OG:fn.results.toList=rs:=by rfl) (hlen:Nat.ble args.length N=true:=by rfl):FC f args [] res aR:=
 kM ht (bC:=[]) hf hb hname hN OG rfl hlen h
theorem an {n:Nat} {c d:Prop} {v u:AV} {bx aR:List az} {res:iU} (hr:res=.ret u) (hc:c:=by trivial) (hd:d:=by trivial) (hw:u.within n=true:=by rfl) (hb:aR=(sC bx v).take n:=by rfl) (SJ:bZ n aR=true:=by rfl):Ed n c v bx (some (d,u)) res aR:=
 iq hc hd hw hb SJ hr
theorem qM {ops:List Oper} {A:Option Nat→List Bool→Prop} {X:List Nat→Prop} {B1:OT→St→Prop} {B2:St→Prop} {B3:List Nd→List St→Prop} (pre late:List Nat) (fs:List Bool) (h:A none fs) (hp:iG ops.toArray [] pre=true:=by kernel_rfl) (hs:lX ops.toArray=true:=by kernel_rfl) (hl:rE (bI pre 0 ops).toArray late=true:=by kernel_rfl) (hx:X pre:=by kernel_rfl)
 (h1:gq (gw (bI pre 0 ops).toArray late 0 (bI pre 0 ops)).toArray (cq (gw (bI pre 0 ops).toArray late 0 (bI pre 0 ops)) []) 0 (gw (bI pre 0 ops).toArray late 0 (bI pre 0 ops))=true:=by kernel_rfl)
 (h2:jC (cq (gw (bI pre 0 ops).toArray late 0 (bI pre 0 ops)) []) 0 ops=fs:=by kernel_rfl):AA ops A X B1 B2 B3:=
 Uu pre late fs hp hs hl hx h1 h2 h
theorem cE {ops:List Oper} {A:Option Nat→List Bool→Prop} {X:List Nat→Prop} {B1:OT→St→Prop} {B2:St→Prop} {B3:List Nd→List St→Prop} (fs:List Bool) (h:A none fs) (h1:gq ops.toArray (cq ops []) 0 ops=true:=by kernel_rfl) (h2:jC (cq ops []) 0 ops=fs:=by kernel_rfl):AA ops A X B1 B2 B3:=Ut fs h1 h2 h
section
variable {P:Program} {FC:Nat→List AV→List az→iU→List az→Prop} {kE:Prop} {f:Nat} {args args':List AV} {c:Prop} {bx:List az} {K Kp:AV→List az→Prop} {ρ:Type}
theorem aC {E:ρ→AV} {r0:ρ} (h:FC f args' [] (.ret (E r0)) []) (hc:c) (hK:∀r,r=r0→K (E r) bx) (ho:kE:=by trivial) (hs:AV.shut.kY args'=true:=by rfl) (hz:eZ [] args=some args':=by rfl) (hv:(E r0).shut=true:=by rfl):m6 FC kE f args (some (c,args')) bx K Kp:=
 nF ho h hc hs hz hv hK
theorem aP {E:ρ→AV} {r0:ρ} (h:FC f args' [] (.ret (E r0)) []) (hc:c) (hK:∀r,r=r0→K (E r) bx) (ho:kE:=by trivial) (hs:AV.shut.kY args'=true:=by rfl) (hf:(E r0).flat=true:=by rfl):m6 FC kE f args (some (c,args')) bx K Kp:=
 Vt ho h hc hs hf hK
end
theorem gF {A B C D E F G R:Type} {a:A→R} {b:B→R} {c:C→R} {d:D→R} {e:E→R} {f:F→R} {g:G→R} {k l m n o p q:List R} {k':List A} {l':List B} {m':List C} {n':List D} {o':List E} {p':List F} {q':List G} (h1:k=k'.map a) (h2:l=l'.map b) (h3:m=m'.map c) (h4:n=n'.map d) (h5:o=o'.map e) (h6:p=p'.map f) (h7:q=q'.map g):
 k.length=k'.length∧l.length=l'.length∧m.length=m'.length∧n.length=n'.length∧o.length=o'.length∧p.length=p'.length∧q.length=q'.length:=by
 simp [*]
end Dem
end
section
open Go
namespace Dem
structure vL {α:Type} (p:α→Bool) (l:List α) (n v:Nat):Prop where
 a:v+n=l.length
 b:∀i<v,∀x,l[i]?=some x→p x=false
theorem vL.nil {α:Type} {p:α→Bool} {l:List α}:vL p l l.length 0:=⟨by omega,fun i hi=>by omega⟩
theorem vL.lt {α:Type} {p:α→Bool} {l:List α} {n k:Nat} {x:α} (h:vL p l n k) (hx:l[k]?=some x):n-1<n:=by
 have:=h.a;have:=(List.getElem?_eq_some_iff.1 hx).1;omega
theorem vL.next {α:Type} {p:α→Bool} {l:List α} {n k:Nat} {x:α} (h:vL p l n k) (hx:l[k]?=some x) (hb:p x=false):vL p l (n-1) (k+1):=by
 refine ⟨by have:=h.a;have:=(List.getElem?_eq_some_iff.1 hx).1;omega,fun i hi y hy=>?_⟩
 by_cases e:i<k
 ·exact h.b i e y hy
 have:i=k:=by omega
 subst this;rw [hx] at hy;cases hy;exact hb
theorem vL.hit {α:Type} {p:α→Bool} {l:List α} {n k:Nat} {x:α} (h:vL p l n k) (hx:l[k]?=some x) (hb:p x=true):idxOf p l=k:=by
 rw [idxOf,vn hx hb h.b]
theorem vL.none {α:Type} {p:α→Bool} {l:List α} {n k:Nat} (h:vL p l n k) (hk:l.length≤k):idxOf p l=-1:=by
 rw [idxOf,AI]
 intro i y hy
 have:=(List.getElem?_eq_some_iff.1 hy).1
 exact h.b i (by omega) y hy
theorem vL.get {α:Type} {p:α→Bool} {l:List α} {n k:Nat} (_:vL p l n k) (hk:k<l.length):∃x,l[k]?=some x∧x∈l∧∃b,b=p x:=⟨l[k],by simp,by simp,_,rfl⟩
theorem sB {α:Type} {cells:α→List D} {l:List α} {es:List (List D)} (aD:es=l.map cells) {k n:Nat} (h:k<es.length) (hn:∀x,(cells x).length=n):0≤(k:Int)∧(k:Int)<es.length∧∀r∈es,r.length=n:=by
 refine ⟨by omega,by omega,fun r hr=>?_⟩
 rw [aD] at hr
 obtain ⟨y,_,rfl⟩:=List.mem_map.1 hr
 exact hn y
end Dem
end
section
namespace Dem
theorem vM {es:List (List D)} {row z:List D} {i:Nat} (h:i≤es.length):wrote (wrote (es.take i++List.replicate (es.length+1-i) z) i [row]) (i+1) (es.drop i)=es.take i++row::es.drop i:=by
 have hl:(es.take i).length=i:=by simp;omega
 have e1:wrote (es.take i++List.replicate (es.length+1-i) z) i [row]=es.take i++row::List.replicate (es.length-i) z:=by
  unfold wrote
  rw [List.take_left' hl,show i+[row].length=(es.take i).length+1 by rw [hl];rfl,List.drop_length_add_append,List.drop_replicate]
  simp;omega
 rw [e1]
 unfold wrote
 rw [show i+1=(es.take i).length+1 by rw [hl],List.take_length_add_append]
 have e2:List.drop ((es.take i).length+1+(es.drop i).length) (es.take i++row::List.replicate (es.length-i) z)=[]:=by
  rw [List.drop_eq_nil_iff];simp;omega
 rw [e2]
 simp
theorem EF {es:List (List D)} {row:List D} {i:Nat} (h:i<es.length):wrote (wrote es (i+1) (es.drop i)) i [row]=es.take i++row::es.drop i:=by
 have e1:wrote es (i+1) (es.drop i)=es.take (i+1)++es.drop i:=by
  unfold wrote
  have:es.drop (i+1+(es.drop i).length)=[]:=by rw [List.drop_eq_nil_iff];simp;omega
  rw [this,List.append_nil]
 rw [e1]
 unfold wrote
 have hl:(es.take (i+1)).length=i+1:=by simp;omega
 rw [List.take_append_of_le_length (by omega),List.take_take,show i+[row].length=(es.take (i+1)).length by rw [hl];rfl,List.drop_left]
 rw [Nat.min_eq_left (by omega)];simp
theorem kx:∀(xs ys:List D),ys.length=xs.length→be xs 0 ys=ys
 |[],[],_=>by simp [be]
 |[],_::_,h=>by simp at h
 |_::_,[],h=>by simp at h
 |x::xs,y::ys,h=>by
  simp only [be]
  rw [kx xs ys (by simpa using h)]
theorem kB {α:Type}:∀(l:List α) (i:Nat) (x:α),i<l.length→(l.set i x).take (i+1)=l.take i++[x]
 |[],i,x,h=>by simp at h
 |y::l,0,x,h=>by simp
 |y::l,i+1,x,h=>by
  simp only [List.set_cons_succ,List.take_succ_cons,List.cons_append]
  rw [kB l i x (by simpa using h)]
theorem nk {α:Type}:∀(l:List α) (i j:Nat) (x:α),i<j→(l.set i x).drop j=l.drop j
 |[],i,j,x,h=>by simp
 |y::l,0,j+1,x,h=>by simp
 |y::l,i+1,j+1,x,h=>by
  simp only [List.set_cons_succ,List.drop_succ_cons]
  exact nk l i j x (by omega)
 |y::l,_,0,x,h=>by omega
end Dem
end
