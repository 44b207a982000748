/- Parts of a proof, joined. -/
import Derived.Test.YtihohjnkkalgiaaGreatDoorU04
import Derived.Test.YtihohjnkkalgiaaGreatDoorRows
import Derived.ProofKit
import Derived.LaidMore
import Derived.OpenShut
import Derived.Carry
import Derived.Stop.Joined
import Derived.Lib.RuneCount
import Derived.Lib.Bytealg
import Derived.Lib.Join
import Derived.KernelRfl
set_option linter.all false
set_option maxRecDepth 100000
set_option maxHeartbeats 4000000
section
open Go Go.Proofs Go.ChangeShapes Go.WideShapes Go.RowKit
namespace Dem
theorem own:ownKnob Tryz.prog.godebug=none:=by kernel_rfl
theorem laidOut:laidOutB Tryz.prog=true:=by kernel_rfl
theorem Qp:Tryz.prog.globalNamed "demesne/word.letters"=some 0:=by kernel_rfl
theorem Wi:Tryz.prog.globalNamed "demesne/word.marks"=some 1:=by kernel_rfl
def Dr:TypeId:=236
def L2:TypeId:=237
theorem Qq:(Tryz.prog.globals[0]?).map (·.type)=some Dr:=by kernel_rfl
theorem Wj:(Tryz.prog.globals[1]?).map (·.type)=some L2:=by kernel_rfl
def abe:DataW Unit→Value
 |.lit (.int k n)=>.int k n
 |_=>.int .u8 0
def abf:DataW Unit→List Value
 |.agg l=>l.map abe
 |_=>[]
noncomputable def Qr (os:Os):World:=
 let w0:=World.doorLaid Tryz.prog 400 os
 {w0 with heap:=w0.heap.modify 3 fun
  |.cells _ t fr=>.cells (abf YtihohjnkkalgiaaGreatDoor.Rows.laid_unicode_utf8_first).toArray t fr
  |o=>o}
abbrev qZ:List (String×DataW Unit):=[("unicode/utf8.acceptRanges",YtihohjnkkalgiaaGreatDoor.Rows.laid_unicode_utf8_acceptRanges),("demesne/word.letters",YtihohjnkkalgiaaGreatDoor.Rows.laid_demesne_word_letters),("demesne/word.marks",YtihohjnkkalgiaaGreatDoor.Rows.laid_demesne_word_marks),("unicode/utf8.first",YtihohjnkkalgiaaGreatDoor.Rows.laid_unicode_utf8_first)]
theorem Ho (os:Os) (args:Array Value):laidMetH Tryz.prog qZ ((Qr os).forCall (fun _ _=>0) ⟨#[],args,[]⟩).memory:=
 laidMetH_of_parts3 (fuel:=8) (laidMet_of_run' 8 (by kernel_rfl) (by kernel_rfl)) (by kernel_rfl) (by kernel_rfl)
theorem tyL:Gx Tryz.prog 8 Dr=some [.int .i32,.int .i32,.int .i32,.int .i32,.int .i32,.int .i32]:=by kernel_rfl
theorem tyM:Gx Tryz.prog 8 L2=some [.int .i32,.int .i32,.int .i32,.int .i32]:=by kernel_rfl
theorem EL {w:World} {ok:Nat→Prop} {blk:Nat}:∀{ds:List D} {vs:List Value} (off:Nat),cC w ok ds vs→(∀i v,vs[i]?=some v→w.cell? ⟨blk,off+i,none⟩=some v)→aX w ok blk ds off
 |[],_,_,_,_=>by simp [aX]
 |d::ds,vs,off,h,hc=>by
  simp only [cC] at h
  obtain ⟨v,r,rfl,h1,h2⟩:=h
  simp only [aX]
  refine ⟨⟨v,hc 0 v rfl,h1⟩,EL (off+1) h2 fun i u hu=>?_⟩
  rw [show off+1+i=off+(i+1) by omega]
  exact hc (i+1) u (by simpa using hu)
theorem Hp {W:World} (h:laidMetH Tryz.prog qZ W):cF gl (fun _=>0) [] W (fun _=>False):=by
 rw [MakeChecks.laidMetH_plain _ _ _ (by kernel_rfl)] at h
 obtain ⟨ps,⟨_,_,_,_,_,_,_,_,_,_,⟨g0,t0,cs0,f0,p0,q0,V0,ht0,Tx,hd0,⟨g1,t1,cs1,f1,p1,q1,hg1,ht1,Y9,Yc,_,_⟩,_⟩,_⟩,_,_⟩:=h
 obtain rfl:=Option.some.inj (Qp.symm.trans V0)
 obtain rfl:=Option.some.inj (Wi.symm.trans hg1)
 obtain rfl:=Option.some.inj (Qq.symm.trans ht0)
 obtain rfl:=Option.some.inj (Wj.symm.trans ht1)
 have hok:∀blk,blk<W.heap.size→bf (fun _=>0) [] W (fun _=>False) blk:=fun blk hb=>⟨hb,fun h=>h,fun i b hb=>by simp at hb⟩
 obtain ⟨r0,_⟩:=vg hok 8 _ _ _ _ _ hd0 tyL
 obtain ⟨r1,_⟩:=vg hok 8 _ _ _ _ _ Yc tyM
 have c0:=fun i=>World.var?_cell V0 Tx i
 have c1:=fun i=>World.var?_cell hg1 Y9 i
 refine ⟨fun _ h=>h.elim,?_,by simp,by simp,by simp⟩
 intro g ds hg
 unfold gl at hg
 have hlt:∀{i:Nat} {a:Addr} {v:Value},W.cell? a=some v→a.block<W.heap.size:=by
  intro i a v hc
  rcases Nat.lt_or_ge a.block W.heap.size with h|h
  ·exact h
  simp [World.cell?,h] at hc
 cases e0:Nat.beq g 0 with
 |true=>
  rw [e0] at hg
  simp only [cond_true,osI] at hg
  obtain rfl:=Nat.eq_of_beq_eq_true e0
  have hrow:aX W (bf (fun _=>0) [] W (fun _=>False)) 0 ds 0:=by
   rw [←hg];exact EL 0 r0 fun i v hv=>by rw [Nat.zero_add,c0 i];simpa using hv
  refine ⟨hok _ ?_,hrow⟩
  rw [←hg] at hrow
  simp only [aX] at hrow
  obtain ⟨⟨u,hu,_⟩,_⟩:=hrow
  exact hlt (i:=0) hu
 |false=>
  rw [e0] at hg
  simp only [cond_false] at hg
  cases e1:Nat.beq g 1 with
  |true=>
   rw [e1] at hg
   simp only [cond_true,osI] at hg
   obtain rfl:=Nat.eq_of_beq_eq_true e1
   have hrow:aX W (bf (fun _=>0) [] W (fun _=>False)) 1 ds 0:=by
    rw [←hg];exact EL 0 r1 fun i v hv=>by rw [Nat.zero_add,c1 i];simpa using hv
   refine ⟨hok _ ?_,hrow⟩
   rw [←hg] at hrow
   simp only [aX] at hrow
   obtain ⟨⟨u,hu,_⟩,_⟩:=hrow
   exact hlt (i:=0) hu
  |false=>rw [e1] at hg;cases hg
theorem A9 {f:Nat} {args:List AV} {vs:List Value} {W:World} (hL:laidMetH Tryz.prog qZ W) (he:∀args w,(callFunc f args).run Tryz.prog w=.ok (.enter f args) w)
 (hx:ak (fun _=>0) [] W (bf (fun _=>0) [] W (fun _=>False)) args vs) (h:FC f args [] (.ret (.d (.bool true))) []):
 Calls Tryz.prog f ⟨vs⟩ W fun e w'=>e=.returned (.bool true)∧RowKit.Below W.heap.size W w':=by
 have hc:=h (fun _=>0) W vs (fun _=>False) (Hp hL) hx
 rcases hc with ⟨_,hc⟩|⟨v,w',hc,_⟩
 ·refine hc.mono ?_
  rintro e w' ⟨β',ex,_,hr⟩
  cases e with
  |returned u=>
   simp only [mr,aj,aJ] at hr
   subst hr
   exact ⟨rfl,⟨ex.os,ex.tape,ex.output,ex.size,fun k hk=>ex.block k hk (by simp)⟩⟩
  |_=>exact hr.elim
 rw [he] at hc;cases hc
theorem CE {H:Type} {enc:TypeId×Value→H} {P:Program} (hl:laidOutB P=true) {W W':World} (hb:RowKit.Below W.heap.size W W'):∀(ts:List TypeId) (vs:List Value) (ds:List (DataW H)) (ps:List MemPlace),(ts.all fun t=>P.readableRec t&&decide (t<P.types.size))=true→
 (∀x∈ps,x.block<W.heap.size)→DataW.TrodAll enc P W 0 (fun _=>true) true ts vs ds ps→DataW.TrodAll enc P W' 0 (fun b=>decide (b<W.heap.size)) true ts vs ds ps:=by
 intro ts
 induction ts with
 |nil=>
  intro vs ds ps _ _ h
  cases vs with
  |nil=>cases ds with
   |nil=>exact h
   |cons d ds=>exact h.elim
  |cons v vs=>cases ds<;>exact h.elim
 |cons t ts ih=>
  intro vs ds ps ht hlt h
  cases vs with
  |nil=>cases ds<;>exact h.elim
  |cons v vs=>cases ds with
   |nil=>exact h.elim
   |cons d ds=>
    obtain ⟨p,q,h1,h2,rfl⟩:=h
    simp only [List.all_cons,Bool.and_eq_true,decide_eq_true_eq] at ht
    exact ⟨p,q,RowKit.Below.trod hl ht.1.1 ht.1.2 h1 hb (fun x hx=>hlt x (List.mem_append_left _ hx)),ih vs ds q ht.2 (fun x hx=>hlt x (List.mem_append_right _ hx)) h2,rfl⟩
theorem Hq {H:Type} {enc:TypeId×Value→H} {P:Program} {W:World}:∀(ts:List TypeId) (vs:List Value) (ds:List (DataW H)) (ps:List MemPlace),DataW.TrodAll enc P W 0 (fun _=>true) true ts vs ds ps→ds.length=ts.length:=by
 intro ts
 induction ts with
 |nil=>
  intro vs ds ps h
  cases vs with
  |nil=>cases ds with
   |nil=>rfl
   |cons d ds=>exact h.elim
  |cons v vs=>cases ds<;>exact h.elim
 |cons t ts ih=>
  intro vs ds ps h
  cases vs with
  |nil=>cases ds<;>exact h.elim
  |cons v vs=>cases ds with
   |nil=>exact h.elim
   |cons d ds=>obtain ⟨_,_,_,h2,_⟩:=h;simp [ih _ _ _ h2]
theorem CF {W W':World} (hb:RowKit.Below W.heap.size W W') (may:MemPlace→Prop):W.keptBut W' may:=by
 refine ⟨hb.os,hb.output,fun i hi=>?_⟩
 rw [hb.block i hi]
 generalize W.heap[i]?=o
 cases o with
 |none=>rfl
 |some o=>cases o<;>first|exact ⟨rfl,rfl,rfl,fun _ _=>rfl⟩|exact .inr ⟨rfl,rfl⟩|rfl
theorem Za:Tryz.prog.underlying 4=some .bool:=by kernel_rfl
theorem Ds {H:Type} {enc:TypeId×Value→H} {os:Os} (started:os.Started) {F:FuncId} {fn:Func} {s:ChangeSpec} (hfn:Tryz.checked.prog.funcs[F]?=some fn) (hni:Tryz.checked.prog.inits.idxOf? F=none) (hv:s.vars=[]) (hrt:fn.resultTypes=#[4])
 (hts:(fn.params.toList.all fun t=>Tryz.prog.readableRec t&&decide (t<Tryz.prog.types.size))=true)
 (hs:∀ds:List (DataW H),ds.length=fn.params.toList.length→(s.fn H ds).results=[.lit (.bool true)]∧(s.fn H ds).args=ds∧(s.fn H ds).vars=[])
 (witness:∃(w:World) (tape:Tape) (i:Input),w.os=os∧(w.forCall tape i).Shaped Tryz.checked.prog∧i.vars=[]∧Input.okWide Tryz.checked.prog (w.forCall tape i) .any w.heap.size F i∧
  ((s.pre enc Tryz.checked.prog fn [] false (w.forCall tape i).memory i.args∧laidMetH Tryz.prog qZ (w.forCall tape i).memory)∧sizedMet enc Tryz.checked.prog fn (OpenSpec.ofChange s) false (w.forCall tape i).memory i.args)∧({}:Assume).holds Tryz.checked.prog (lone (Frame.enter Tryz.checked.prog F i.args .normal) [] (w.forCall tape i)))
 (Wk:∀(W:World) (args:Array Value) (ds:List (DataW H)) (p:List MemPlace),laidMetH Tryz.prog qZ W→DataW.TrodAll enc Tryz.prog W 0 (fun _=>true) true fn.params.toList args.toList ds p→
  (∀(j:Nat) t v,fn.params[j]?=some t→args[j]?=some v→∃base,Value.okWide Tryz.prog W .any base t v)→
  Calls Tryz.prog F args W fun e w'=>e=.returned (.bool true)∧RowKit.Below W.heap.size W w'):
 ReturnsInHanded {} Tryz.checked os F .any (fun w args=>(s.pre enc Tryz.checked.prog fn [] false w args∧laidMetH Tryz.prog qZ w)∧sizedMet enc Tryz.checked.prog fn (OpenSpec.ofChange s) false w args) (s.post enc Tryz.checked.prog fn false true false false):=by
 refine returnsInHanded_of_change_and (C:=Tryz.checked) (X:=fun w _=>laidMetH Tryz.prog qZ w) (fun _ _ _ hh h=>h.of_heap hh) own started hni hfn witness ?_
 intro W base args ds gs before hval hW _ _ hL _
 have hW':=hW
 obtain ⟨p,q,hA,hV,rfl,hfz,hnd⟩:=hW
 rw [hv] at hV
 obtain ⟨rfl,rfl⟩:=trodVars_none hV
 have hlen:ds.length=fn.params.toList.length:=Hq _ _ _ _ hA
 obtain ⟨s1,s2,s3⟩:=hs ds hlen
 refine (Wk W args ds p hL hA (fun j t v h1 h2=>⟨base,hval j t v h1 h2⟩)).mono fun e w' ⟨he,hb⟩=>?_
 refine ⟨.bool true,he,ds,[],p++[],[],p,[],hW',?_,?_,?_,CF hb _,fun h=>by cases h⟩
 ·rw [List.append_nil,s1,hrt]
  exact trodAll_mk1 (shut_bool Za _)
 ·rw [List.append_nil,s2]
  exact CE laidOut hb _ _ _ _ hts (fun x hx=>hW'.lt x (by simpa using hx)) hA
 rw [List.append_nil,s3,hv]
 rfl
end Dem
end
section
open Go
namespace Dem
def dec (s:aH) (pos:Nat):Nat×Nat:=Utf8.decode ⟨s.toArray⟩ pos
theorem L3 (s:aH) (pos:Nat) (h:pos<s.length):1≤(dec s pos).2:=Lib.decode_width_pos _ pos (by show pos<s.toArray.size;simpa using h)
def iM (s:aH):Nat→Nat→List (Nat×Nat)
 |0,_=>[]
 |n+1,pos=>if pos<s.length then (pos,(dec s pos).1)::iM s n (pos+(dec s pos).2) else []
def Dt (s:aH):List (Nat×Nat):=iM s s.length 0
def EM:List (Int×Int):=[(97,122),(945,969),(1072,1103)]
def marks:List (Int×Int):=[(48,57),(45,45)]
def Hr (r:Int) (l:List (Int×Int)):Bool:=l.any fun x=>decide (x.1≤r)&&decide (r≤x.2)
def rf (s:aH):Nat:=(Dt s).length
def Wl (x:Nat×Nat):Bool:=Hr x.2 EM||(!decide (x.1=0)&&Hr x.2 marks)
def eB (s:aH):Bool:=(Dt s).all Wl&&!decide (s=[])&&decide (rf s≤16)
theorem Ba (s:aH):∀(n pos:Nat),(iM s n pos).length≤n
 |0,_=>by simp [iM]
 |n+1,pos=>by
  unfold iM;split
  ·simp;exact Ba s n _
  simp
structure dj where
 key:aH
 value:aH
deriving DecidableEq
abbrev dj.cells (p:dj):List D:=[.str p.key,.str p.value]
def sle (x y:aH):Bool:=Op.bytesLess x y||decide (x=y)
def jH:Option aH→List dj→Bool
 |_,[]=>true
 |q,p::r=>eB p.key&&eB p.value&&(match q with|none=>true|some q=>!sle p.key q)&&jH (some p.key) r
def uk (l:List dj):Bool:=jH none l&&decide (l.length≤8)
def lR (l:List dj) (k:Nat):Option aH:=match k with
 |0=>none
 |k+1=>(l[k]?).map (·.key)
def dj.sm (p:dj):Prop:=p.key.length<9223372036854775807∧p.value.length<9223372036854775807
structure Node where
 name:aH
 cap:bE
 labels:List dj
 up:Bool
structure Place where
 bu:Int
 node:aH
 v:bE
abbrev Node.cells (x:Node):List D:=[.str x.name,.int .u64 x.cap.a,.int .u64 x.cap.b,.int .u64 x.cap.c,.int .u64 x.cap.d,.sl (x.labels.map dj.cells),.bool x.up]
abbrev Place.cells (x:Place):List D:=[.int .u64 x.bu,.str x.node,.int .u64 x.v.a,.int .u64 x.v.b,.int .u64 x.v.c,.int .u64 x.v.d]
theorem nY {α:Type} {p:α→Bool} {l:List α} (h:idxOf p l=-1):∀x∈l,p x=false:=by
 unfold idxOf at h
 split at h
 ·omega
 rename_i hn
 rw [List.findIdx?_eq_none_iff] at hn
 exact fun x hx=>by simpa using hn x hx
theorem nZ {α:Type} {p:α→Bool} {l:List α} (h:idxOf p l≠-1):∃(i:Nat) (x:α),idxOf p l=i∧l[i]?=some x∧p x=true∧∀y∈l.take i,p y=false:=by
 unfold idxOf at h ⊢
 split at h
 ·rename_i k hk
  obtain ⟨hlt,hp,hb⟩:=List.findIdx?_eq_some_iff_getElem.1 hk
  refine ⟨k,l[k],rfl,by simp [hlt],hp,?_⟩
  intro y hy
  obtain ⟨j,hj⟩:=List.getElem?_of_mem hy
  rw [List.getElem?_take] at hj
  split at hj
  ·rename_i VO
   have hjl:j<l.length:=by omega
   rw [List.getElem?_eq_getElem hjl] at hj
   cases hj
   simpa using hb j VO
  cases hj
 exact absurd rfl h
theorem filter_all {α:Type} {p:α→Bool} {l:List α} (h:∀x∈l,p x=false):l.filter (fun x=>!p x)=l:=by
 rw [List.filter_eq_self]
 intro x hx;rw [h x hx];rfl
theorem cV {α:Type} {l:List α} {i:Nat} {x:α} (h:l[i]?=some x):l.take (i+1)=l.take i++[x]:=by
 rw [List.take_add_one,h];rfl
def Node.zero:Node:=⟨[],bE.zero,[],false⟩
def eF (name:aH) (l:List Node):Node×Bool:=match l.find? (fun x=>decide (x.name=name)) with
 |some x=>(x,true)
 |none=>(Node.zero,false)
theorem M9 {name:aH} {l:List Node} (h:idxOf (fun x=>decide (x.name=name)) l=-1):eF name l=(Node.zero,false):=by
 have hn:=nY h
 have:l.find? (fun x=>decide (x.name=name))=none:=by rw [List.find?_eq_none];intro x hx;rw [hn x hx];simp
 unfold eF;rw [this]
theorem EN {α:Type} {p:α→Bool}:∀{l:List α} {i:Nat} {x:α},l[i]?=some x→p x=true→(∀y∈l.take i,p y=false)→l.find? p=some x
 |[],_,_,h,_,_=>by simp at h
 |y::r,0,x,h,hp,_=>by simp at h;subst h;simp [hp]
 |y::r,i+1,x,h,hp,hb=>by
  have hy:p y=false:=hb y (by simp)
  simp only [List.getElem?_cons_succ] at h
  rw [List.find?_cons,hy]
  exact EN h hp fun z hz=>hb z (by simp [hz])
theorem Na {name:aH} {l:List Node} (h:idxOf (fun x=>decide (x.name=name)) l≠-1):∃(i:Nat) (x:Node),idxOf (fun x=>decide (x.name=name)) l=i∧l[i]?=some x∧eF name l=(x,true):=by
 obtain ⟨i,x,h1,h2,h3,h4⟩:=nZ h
 refine ⟨i,x,h1,h2,?_⟩
 unfold eF;rw [EN h2 h3 h4]
def dP (name:aH) (s:bE×Bool) (x:Place):bE×Bool:=if s.2&&decide (x.node=name) then eH s.1 x.v else s
def eG (name:aH) (l:List Node) (ps:List Place):bE×Bool:=
 let s:=ps.foldl (dP name) ((eF name l).1.cap,(eF name l).2)
 if s.2 then s else (bE.zero,false)
def pY (name:aH) (v:bE) (l:List Node) (ps:List Place):Int:=
 if !(eF name l).2 then 7 else if !(eF name l).1.up then 12 else if !(eG name l ps).2||!mE v (eG name l ps).1 then 11 else 0
structure cB where
 nodes:List Node
 places:List Place
deriving instance DecidableEq for Place
deriving instance DecidableEq for Node
theorem EO {x y:bE}:x=y↔x.a=y.a∧x.b=y.b∧x.c=y.c∧x.d=y.d:=by cases x;cases y;simp
instance:Inhabited bE:=⟨bE.zero⟩
instance:Inhabited Node:=⟨Node.zero⟩
instance:Inhabited Place:=⟨⟨0,[],bE.zero⟩⟩
instance:Inhabited dj:=⟨⟨[],[]⟩⟩
theorem eI {α:Type} {l:List α} {k:Nat} {x:α} (h:l[k]?=some x):l.drop k=x::l.drop (k+1):=by
 obtain ⟨hk,rfl⟩:=List.getElem?_eq_some_iff.1 h
 exact List.drop_eq_getElem_cons hk
structure bM where
 node:aH
 free:bE
 labels:List dj
def gu (l:List Node) (bu:Int) (v:bE):List aH→List Place→Option Int×List Place
 |[],ps=>(none,ps)
 |n::r,ps=>if pY n v l ps≠0 then (some (pY n v l ps),ps) else gu l bu v r (ps++[⟨bu,n,v⟩])
def xk (p:cB) (bu:Int) (names:List aH) (v:bE):cB×Int:=
 match (gu p.nodes bu v names p.places).1 with
 |some e=>(p,e)
 |none=>(⟨p.nodes,(gu p.nodes bu v names p.places).2⟩,0)
theorem cD {α:Type} {p:α→Bool} {l:List α} {r:Int} (h:r=idxOf p l):(r=-1∧l.findIdx? p=none∧l.find? p=none)∨∃(i:Nat) (x:α),r=i∧i<l.length∧l[i]?=some x∧p x=true∧l.findIdx? p=some i∧l.find? p=some x:=by
 by_cases hn:idxOf p l=-1
 ·have hno:=nY hn
  refine .inl ⟨by rw [h,hn],?_,?_⟩
  ·rw [List.findIdx?_eq_none_iff];intro x hx;simp [hno x hx]
  rw [List.find?_eq_none];intro x hx;simp [hno x hx]
 obtain ⟨i,x,h1,h2,h3,h4⟩:=nZ hn
 refine .inr ⟨i,x,by rw [h,h1],(List.getElem?_eq_some_iff.1 h2).1,h2,h3,?_,EN h2 h3 h4⟩
 unfold idxOf at h1
 split at h1
 ·rename_i k hk;rw [hk];congr 1;omega
 omega
def fK (p:cB) (name:aH) (up:Bool):cB×Int:=
 match p.nodes.findIdx? (fun x=>decide (x.name=name)),p.nodes.find? (fun x=>decide (x.name=name)) with
 |some i,some x=>if x.up=up then (p,15) else (⟨p.nodes.set i {x with up:=up},p.places⟩,0)
 |_,_=>(p,7)
def oa (l:List Node) (ps:List Place) (n:Node):Option bM:=if (eG n.name l ps).2&&n.up then some ⟨n.name,(eG n.name l ps).1,n.labels⟩ else none
def EP (q:Option aH) (x:aH):Bool:=match q with|none=>true|some q=>!sle x q
def jI (l:List Node) (ps:List Place):Option aH→List Node→Bool
 |_,[]=>true
 |q,n::r=>(eG n.name l ps).2&&eB n.name&&uk n.labels&&EP q n.name&&jI l ps (some n.name) r
def Bb (l:List Node) (x:Place):Bool:=!(l.any fun n=>decide (n.name=x.node))
def ph (p:cB):Bool:=jI p.nodes p.places none p.nodes&&decide (p.nodes.length≤16)&&!(p.places.any (Bb p.nodes))
def oc (l:List Node) (k:Nat):Option aH:=match k with
 |0=>none
 |k+1=>(l[k]?).map (·.name)
theorem Du {l:List Node} {k:Nat} {x:aH}:EP (oc l k) x=(decide (k=0)||match l[k-1]? with|none=>true|some y=>!sle x y.name):=by
 cases k with
 |zero=>rfl
 |succ k=>simp only [oc,EP];cases h:l[k]?<;>simp [h]
def Node.sm (x:Node):Prop:=x.name.length<9223372036854775807∧x.labels.length<1000000000∧∀p∈x.labels,p.sm
def pat (l:List Node) (nm:aH):Nat:=match l.findIdx? (fun o=>!Op.bytesLess o.name nm) with
 |some k=>k
 |none=>l.length
def ri (p:cB) (n:Node):cB×Int:=
 if !eB n.name then (p,6) else if !uk n.labels then (p,2) else if decide (0≤idxOf (fun x=>decide (x.name=n.name)) p.nodes) then (p,8) else if 16≤p.nodes.length then (p,9) else
 (⟨p.nodes.take (pat p.nodes n.name)++{n with up:=true}::p.nodes.drop (pat p.nodes n.name),p.places⟩,0)
end Dem
end
section
open Go Dem Go.Proofs
namespace Dem
abbrev bB (s:aH):List D:=[.str s]
def kp (r:Int):AV:=bD r
def cU (r:Bool):AV:=BL r
def Ty (r:aH):AV:=ST r
def Zb (r:bE×Bool):AV:=.ek [V4 r.1.a r.1.b r.1.c r.1.d,BL r.2]
def Node.aS (t:Th) (x:Node):List D:=[.str x.name,.int .u64 x.cap.a,.int .u64 x.cap.b,.int .u64 x.cap.c,.int .u64 x.cap.d,.sl (t _ fun _=>x.labels.map dj.cells),.bool x.up]
def Place.aS (_:Th) (x:Place):List D:=[.int .u64 x.bu,.str x.node,.int .u64 x.v.a,.int .u64 x.v.b,.int .u64 x.v.c,.int .u64 x.v.d]
def Vu (t:Th) (x:Node):AV:=.agg [ST x.name,az x.cap.a,az x.cap.b,az x.cap.c,az x.cap.d,SL (t _ fun _=>x.labels.map dj.cells),BL x.up]
def Qs (t:Th) (r:Node×Bool):AV:=.ek [Vu t r.1,BL r.2]
def L4 (t:Th) (p:cB):AV:=.agg [SL (t _ fun _=>p.nodes.map Node.cells),SL (t _ fun _=>p.places.map Place.cells)]
def EQ (t:Th) (r:cB×Int):AV:=.ek [L4 t r.1,bD r.2]
def Hs (t:Th) (l:List aH):AV:=SL (t _ fun _=>l.map bB)
def gC (_:Th) (s:aH):List D:=[.str s]
theorem zx {t:Th} (ht:TT t) {α:Type} {l:List α} {cells cT:α→List D} {es:List (List D)} (aC:es=l.map cells) {z:Int} {i n:Nat} {x:α} {K:List D→Prop} (hx:l[i]?=some x) (hz:z=i) (hn:∀x,(cells x).length=n) (hT:∀x,cells x=cT x)
 (hK:K (cT x)):nK true (t Prop fun _=>0≤z∧z<es.length∧∀r∈es,r.length=n) (t _ fun _=>es.getD z.toNat []) K:=by
 have hi:=(List.getElem?_eq_some_iff.1 hx).1
 refine ig ht aC (by omega) (by omega) hn hT ?_
 intro y hy
 rw [hz,Int.toNat_natCast,hx] at hy
 cases hy;exact hK
theorem Vv {α:Type} {l:List α} {cells:α→List D} {u:List (List D)} (hu:u=l.map cells) {row:List D} {sz b:Nat} (hn:∀x,(cells x).length=sz) (hr:row.length=sz) (hl:l.length<1000000000) (hb:b≤10000):
 (u.length+[row].length)*b≤140737488355328∧∀r∈u++[row],r.length=sz:=by
 refine ⟨?_,?_⟩
 ·rw [hu,lgM]
  exact Nat.le_trans (Nat.mul_le_mul (show l.length+[row].length≤1000000000 by simp;omega) hb) (by decide)
 intro r hr'
 rcases List.mem_append.1 hr' with h|h
 ·rw [hu] at h;obtain ⟨y,_,rfl⟩:=List.mem_map.1 h;exact hn y
 simp at h;subst h;exact hr
def bM.cells (x:bM):List D:=[.str x.node,.int .u64 x.free.a,.int .u64 x.free.b,.int .u64 x.free.c,.int .u64 x.free.d,.sl (x.labels.map dj.cells)]
def bM.aS (t:Th) (x:bM):List D:=[.str x.node,.int .u64 x.free.a,.int .u64 x.free.b,.int .u64 x.free.c,.int .u64 x.free.d,.sl (t _ fun _=>x.labels.map dj.cells)]
def Wm (t:Th) (l:List bM):AV:=SL (t _ fun _=>l.map bM.cells)
theorem pi {k:Nat} (h:0<k) (h2:k<9223372036854775807):IntKind.i64.wrap ((k:Int)-1)=((k-1:Nat):Int):=by rw [wrap64 (by omega) (by omega)];omega
theorem Ht {t:Th} (ht:TT t) {α:Type} [Inhabited α] {l:List α} {cells cT:α→List D} {es:List (List D)} (aC:es=l.map cells) {g:Bool} {G:Prop} {z:Int} (i:Nat) {n:Nat} {K:List D→Prop} (hg:g=true→G) (hi:g=true→z=i∧i<l.length) (hn:∀x,(cells x).length=n) (hT:∀x,cells x=cT x)
 (hK:∀x,(g=true→l[i]?=some x)→K (cT x)):nK g (G∧t Prop fun _=>0≤z∧z<es.length∧∀r∈es,r.length=n) (t _ fun _=>es.getD z.toNat []) K:=by
 cases XI:g with
 |true=>
  subst XI
  obtain ⟨h1,h2⟩:=hi rfl
  refine Tu (cT l[i]) (fun _=>⟨⟨hg rfl,?_⟩,?_⟩) (hK _ (fun _=>List.getElem?_eq_getElem h2))
  ·simp only [ht];refine ⟨by omega,by rw [aC,lgM];omega,?_⟩
   rw [aC];intro r hr;obtain ⟨y,_,rfl⟩:=List.mem_map.1 hr;exact hn y
  simp only [ht];rw [h1,aC,←hT];simp [h2]
 |false=>
  subst XI
  exact Tu (cT default) (fun h=>Bool.noConfusion h) (hK default (fun h=>Bool.noConfusion h))
theorem pn {P:Program} {G:Nat→Option (List D)} {f:Nat} {args args':List AV} {bx aL:List aA} {res:iB} (h:∀β w ok vs,ak β bx w ok args vs→ak β bx w ok args' vs) (hc:bt P G f args' bx res aL):bt P G f args bx res aL:=
 fun β w vs X cx hx=>hc β w vs X cx (h _ _ _ _ hx)
theorem L5 {β:Nat→Nat} {bx:List aA} {w:World} {ok:Nat→Prop} {es:List (List D)} {u:Value} (h:aj β bx w ok (.cl es) u):aj β bx w ok (.d (.sl es)) u:=by
 simp only [aj,aJ] at h ⊢
 obtain ⟨base,h1,h2⟩:=h
 exact ⟨base,_,h1,Nat.le_refl _,h2⟩
abbrev small:Nat:=9223372036854775807
end Dem
end
section
open Go
namespace Dem
end Dem
namespace Dem
theorem pu (x:Int):IntKind.u64.wrap x=x%18446744073709551616:=by simp [IntKind.wrap,IntKind.signed,IntKind.bits]
theorem lS {x:Int} (h0:-9223372036854775808≤x) (h1:x<9223372036854775808):IntKind.i64.wrap x=x:=by
 simp [IntKind.wrap,IntKind.signed,IntKind.bits];omega
end Dem
namespace Dem
end Dem
namespace Dem
end Dem
namespace Dem
end Dem
end
section
open Go
namespace Dem
structure Term where
 key:aH
 no:Bool
 mU:List aH
deriving DecidableEq
instance:Inhabited Term:=⟨⟨[],false,[]⟩⟩
def Term.cells (x:Term):List D:=[.str x.key,.bool x.no,.sl (x.mU.map bB)]
def yH:Option aH→List aH→Bool
 |_,[]=>true
 |q,v::r=>eB v&&EP q v&&yH (some v) r
def mright (x:Term):Bool:=if yH none x.mU then eB x.key&&decide (x.mU.length≤4) else false
def Bc (l:List Term):Bool:=if l.length≤4 then !(l.any fun x=>!mright x) else false
def Hu (l:List dj) (k:aH):aH×Bool:=match l.find? (fun x=>decide (x.key=k)) with
 |some x=>(x.value,true)
 |none=>([],false)
def ld (x:Term) (l:List dj):Bool:=
 (if (Hu l x.key).2 then (if x.mU.length=0 then true else x.mU.contains (Hu l x.key).1) else false)!=x.no
def rj (x:List Term) (l:List dj):Bool:=!(x.any fun m=>!ld m l)
abbrev bE.u' (v:bE):Prop:=(0≤v.a∧v.a<18446744073709551616)∧(0≤v.b∧v.b<18446744073709551616)∧(0≤v.c∧v.c<18446744073709551616)∧(0≤v.d∧v.d<18446744073709551616)
def Nb (x y:Int):Int×Bool:=if x.toNat*y.toNat<18446744073709551616 then (((x.toNat*y.toNat:Nat):Int),true) else (0,false)
def JQ (v:bE) (n:Int):bE×Bool:=both (fun x _=>Nb x n) v bE.zero
def iW (x y:Int):Int:=if x<y then -1 else if y<x then 1 else 0
def rm (a b:bE):Int:=
 if iW a.a b.a≠0 then iW a.a b.a else if iW a.b b.b≠0 then iW a.b b.b else if iW a.c b.c≠0 then iW a.c b.c else iW a.d b.d
structure bK where
 id:Int
 prio:Int
deriving DecidableEq
instance:Inhabited bK:=⟨⟨0,0⟩⟩
def bK.cells (q:bK):List D:=[.int .u64 q.id,.int .i64 q.prio]
def bO (a b:bK):Bool:=decide (b.prio<a.prio)||(decide (a.prio=b.prio)&&decide (a.id<b.id))
def vI (l:List bK) (e:bK):Nat:=match l.findIdx? (fun x=>bO e x) with
 |some k=>k
 |none=>l.length
def iN (l:List bK) (id:Int):Int:=idxOf (fun x=>decide (x.id=id)) l
def gS (e:bK):Bool:=decide (e.prio<0)||decide (9<e.prio)
def jZ (l:List bK) (e:bK):List bK×Int:=
 if gS e then (l,1) else if 0≤iN l e.id then (l,8) else if 32≤l.length then (l,9) else
 (l.take (vI l e)++e::l.drop (vI l e),0)
def Bd (l:List bK) (id:Int):List bK×Bool:=match l.findIdx? (fun x=>decide (x.id=id)) with
 |some k=>(l.eraseIdx k,true)
 |none=>(l,false)
def Nc (q:Option bK) (e:bK):Bool:=match q with|none=>true|some q=>bO q e
def jJ (all:List bK):Option bK→Nat→List bK→Bool
 |_,_,[]=>true
 |q,k,e::r=>!gS e&&decide (iN all e.id=k)&&Nc q e&&jJ all (some e) (k+1) r
def nE (l:List bK):Bool:=jJ l none 0 l&&decide (l.length≤32)
def bR (c:UInt8):aH→List aH
 |[]=>[[]]
 |x::xs=>if x=c then []::bR c xs else match bR c xs with
  |h::r=>(x::h)::r
  |[]=>[[x]]
theorem py (c:UInt8):∀s:aH,(bR c s).length=s.count c+1
 |[]=>rfl
 |x::xs=>by
  have ih:=py c xs
  unfold bR
  by_cases h:x=c
  ·simp [h,ih]
  simp only [h,if_false,List.count_cons,beq_iff_eq]
  split<;>simp_all
theorem Dv (c:UInt8) (s:aH):bR c s≠[]:=fun h=>by have:=py c s;rw [h] at this;simp at this
theorem rq (c:UInt8):∀s:aH,Lib.indexByte s c<0→bR c s=[s]
 |[],_=>rfl
 |x::xs,h=>by
  have hg:=Lib.indexByte_ge xs c
  unfold Lib.indexByte at h
  have hx:x≠c:=by rintro rfl;simp at h
  have h2:Lib.indexByte xs c<0:=by
   simp only [beq_iff_eq,hx,if_false] at h
   split at h
   ·omega
   omega
  simp [bR,hx,rq c xs h2]
theorem yI (c:UInt8):∀(s:aH) (j:Nat),Lib.indexByte s c=j→j<s.length∧bR c s=s.take j::bR c (s.drop (j+1))∧s.count c=(s.drop (j+1)).count c+1
 |[],j,h=>by simp [Lib.indexByte] at h
 |x::xs,j,h=>by
  have hg:=Lib.indexByte_ge xs c
  unfold Lib.indexByte at h
  by_cases hx:x=c
  ·simp only [beq_iff_eq,hx,if_true] at h
   have:j=0:=by omega
   subst this;simp [bR,hx]
  simp only [beq_iff_eq,hx,if_false] at h
  split at h
  ·omega
  obtain ⟨i,rfl⟩:∃i,j=i+1:=⟨j-1,by omega⟩
  obtain ⟨h1,h2,h3⟩:=yI c xs i (by omega)
  refine ⟨by simp;omega,?_,?_⟩
  ·simp [bR,hx,h2]
  simp [hx,h3]
theorem ER {s:aH} {r:Int} (h:r=Lib.indexByte s 47) (h0:r<0):s.count 47=0:=by
 have e:=py 47 s
 rw [rq 47 s (h▸h0)] at e
 simp at e;simpa using e
theorem ES {s:aH} {r:Int} (h:r=Lib.indexByte s 47) (h0:0≤r):∃j:Nat,r=j∧j<s.length∧bR 47 s=s.take j::bR 47 (s.drop (j+1))∧s.count 47=(s.drop (j+1)).count 47+1:=by
 obtain ⟨j,rfl⟩:=Int.eq_ofNat_of_zero_le h0
 obtain ⟨h1,h2,h3⟩:=yI 47 s j h.symm
 exact ⟨j,rfl,h1,h2,h3⟩
theorem Be {s:aH} (h:s.count 47=0):bR 47 s=[s]:=by
 refine rq 47 s (Int.not_le.1 fun h0=>?_)
 obtain ⟨j,_,_,_,e⟩:=ES rfl h0
 omega
def fq (l:List aH):aH:=Lib.join l [47]
def parts (s:aH):List aH:=if decide (3<(bR 47 s).length)||(bR 47 s).any (fun n=>!eB n) then [] else bR 47 s
def mF (s:aH):List aH:=(List.range (parts s).length).map fun k=>fq ((parts s).take (k+1))
def nF (a b:aH):Bool:=(mF b).contains a
def named (p:aH):Bool:=decide (p=[])||nF p p
def above (p:aH):List aH:=[]::mF p
def parent (p:aH):aH:=(above p).getD ((above p).length-2) []
theorem kq (s:aH):(parts s).length≤3:=by
 unfold parts;split
 ·simp
 rename_i h;simp at h;omega
theorem iz (s:aH):(mF s).length=(parts s).length:=by simp [mF]
theorem tD (x:aH) (r:List aH):Lib.joinTail [47] (x::r)=47::fq (x::r):=by
 rw [fq,Lib.join_cons];simp [Lib.joinTail]
theorem yJ:∀s:aH,fq (bR 47 s)=s
 |[]=>rfl
 |c::s=>by
  have ih:=yJ s
  unfold bR
  cases e:bR 47 s with
  |nil=>exact absurd e (Dv 47 s)
  |cons h r=>
   rw [e] at ih
   split
   ·rename_i hc
    show Lib.join ([]::h::r) [47]=_
    rw [Lib.join_cons,tD,ih,hc];rfl
   show Lib.join ((c::h)::r) [47]=_
   rw [Lib.join_cons,List.cons_append,←Lib.join_cons]
   exact congrArg _ ih
theorem CG (l:List aH) (k:Nat):(Lib.joinTail [47] (l.take k)).length≤(Lib.joinTail [47] l).length:=by
 have e:Lib.joinTail [47] l=Lib.joinTail [47] (l.take k)++Lib.joinTail [47] (l.drop k):=by
  simp only [Lib.joinTail];rw [←List.flatten_append,←List.map_append,List.take_append_drop]
 rw [e,List.length_append];omega
theorem JR (l:List aH) (k:Nat):(fq (l.take k)).length≤(fq l).length:=by
 cases l with
 |nil=>simp
 |cons x r=>
  cases k with
  |zero=>simp [fq,Lib.join_nil]
  |succ k=>
   simp only [List.take_succ_cons,fq,Lib.join_cons,List.length_append]
   have:=CG r k
   omega
theorem Dw (s:aH) (k:Nat):(fq ((parts s).take k)).length≤s.length:=by
 refine Nat.le_trans (JR _ k) ?_
 unfold parts
 split
 ·simp [fq,Lib.join_nil]
 rw [yJ];exact Nat.le_refl _
theorem Tz {s:aH} {k:Nat} (hk:k<(parts s).length):(mF s)[k]?=some (fq ((parts s).take (k+1))):=by simp [mF,hk]
theorem Dx {s:aH} {k:Nat} (hk:k<(parts s).length):(mF s).take (k+1)=(mF s).take k++[fq ((parts s).take (k+1))]:=by
 have hl:k<(mF s).length:=by rw [iz];exact hk
 rw [List.take_add_one,Tz hk];rfl
def bE.at_ (v:bE):Nat→Int
 |0=>v.a
 |1=>v.b
 |2=>v.c
 |_=>v.d
structure Ask where
 path:aH
 gB:bE
 count:Int
 prio:Int
 eZ:Int
 bY:List Term
deriving DecidableEq
instance:Inhabited Ask:=⟨⟨[],bE.zero,0,0,0,[]⟩⟩
def Ask.zero:Ask:=⟨[],bE.zero,0,0,0,[]⟩
def c8 (x:Ask):bE×Bool:=JQ x.gB (x.count%18446744073709551616)
def Sw (n a b:Int):Bool:=decide (a≤n)&&decide (n≤b)
def dY (x:Ask):Int:=
 if !nF x.path x.path then 6 else if !Sw x.count 1 8||!Sw x.prio 0 9||!Sw x.eZ 1 100 then 1 else if !Bc x.bY then 2 else if !(c8 x).2 then 5 else 0
def fitting (l:List bM) (x:List Term):List bM:=l.filter fun s=>rj x s.labels
structure ET where
 at_:Nat
 left:bE
 ok:Bool
def mG (v:bE):List bM→Nat→ET→ET
 |[],_,b=>b
 |s::r,k,b=>mG v r (k+1) (if (eH s.free v).2&&(!b.ok||decide (rm (eH s.free v).1 b.left<0)) then ⟨k,(eH s.free v).1,true⟩ else b)
def best (l:List bM) (v:bE):ET:=mG v l 0 ⟨0,bE.zero,false⟩
instance:Inhabited bM:=⟨⟨[],bE.zero,[]⟩⟩
def ul (v:bE):Nat→List bM→List aH→List aH×Bool
 |0,_,out=>(out,true)
 |n+1,l,out=>if !(best l v).ok then ([],false) else
  ul v n (l.set (best l v).at_ {l.getD (best l v).at_ default with free:=(best l v).left}) (out++[(l.getD (best l v).at_ default).node])
def fit (l:List bM) (x:List Term) (v:bE) (count:Int):List aH×Bool:=
 if 8<count then ([],false) else ul v (max count 0).toNat (fitting l x) []
structure aR where
 path:aH
 dD:bE
 used:bE
deriving DecidableEq
abbrev aR.cells (e:aR):List D:=[.str e.path,.int .u64 e.dD.a,.int .u64 e.dD.b,.int .u64 e.dD.c,.int .u64 e.dD.d,.int .u64 e.used.a,.int .u64 e.used.b,.int .u64 e.used.c,.int .u64 e.used.d]
def aR.zero:aR:=⟨[],bE.zero,bE.zero⟩
instance:Inhabited aR:=⟨aR.zero⟩
def bP (t:List aR) (p:aH):Int:=idxOf (fun e=>decide (e.path=p)) t
def ru (t:List aR) (p:aH):aR×Bool:=match t.find? (fun e=>decide (e.path=p)) with
 |some e=>(e,true)
 |none=>(aR.zero,false)
def vJ (t:List aR) (p:aH) (v:bE):List aR×Int:=
 if !named p then (t,6) else
 if !decide (p=[])&&decide (bP t (parent p)<0) then (t,7) else
 if decide (bP t p<0)&&decide (16≤t.length) then (t,9) else
 match t.findIdx? (fun e=>decide (e.path=p)) with
 |some k=>if !mE ((t.getD k aR.zero).used) v then (t,10) else (t.set k {t.getD k aR.zero with dD:=v},0)
 |none=>match t.findIdx? (fun e=>!Op.bytesLess e.path p) with
  |some k=>(t.take k++⟨p,v,bE.zero⟩::t.drop k,0)
  |none=>(t++[⟨p,v,bE.zero⟩],0)
def fL (v:bE) (e:aR):aR×Int:=
 if !(iV e.used v).2 then (e,5) else if !mE (iV e.used v).1 e.dD then (e,10) else ({e with used:=(iV e.used v).1},0)
def eJ (v:bE) (e:aR):aR×Int:=
 if !(eH e.used v).2 then (e,15) else ({e with used:=(eH e.used v).1},0)
def kr (f:aR→aR×Int) (t:List aR):List aH→List aR→List aR×Int
 |[],out=>(out,0)
 |p::r,out=>if (f (t.getD (bP t p).toNat aR.zero)).2≠0 then (t,(f (t.getD (bP t p).toNat aR.zero)).2) else kr f t r (out.set (bP t p).toNat (f (t.getD (bP t p).toNat aR.zero)).1)
def pZ (f:aR→aR×Int) (t:List aR) (p:aH):List aR×Int:=
 if !named p then (t,6) else if (above p).any (fun q=>decide (bP t q<0)) then (t,7) else kr f t (above p) t
def dy (t:List aR) (p:aH) (v:bE):List aR×Int:=pZ (fL v) t p
def sJ (t:List aR) (p:aH) (v:bE):List aR×Int:=pZ (eJ v) t p
def p7 (p:aH):List aR→bE→Option bE
 |[],s=>some s
 |x::r,s=>if x.path=[] then p7 p r s else if parent x.path≠p then p7 p r s else if (iV s x.used).2 then p7 p r (iV s x.used).1 else none
def lg (l:List aR) (e:aR):Bool:=match p7 e.path l bE.zero with
 |none=>false
 |some s=>mE e.used e.dD&&mE s e.used
def eY (all:List aR):Option aH→List aR→Bool
 |_,[]=>true
 |none,e::r=>eY all (some e.path) r
 |some q,e::r=>!sle e.path q&&named e.path&&!decide (bP all (parent e.path)<0)&&eY all (some e.path) r
def ku (l:List aR):Bool:=
 if l.length<1 then false else if 16<l.length then false else if (l.getD 0 aR.zero).path≠[] then false else eY l none l&&!(l.any fun e=>!lg l e)
theorem Dy:∀(x y:aH),Op.bytesLess x y=decide (x<y)
 |[],[]=>by simp [Op.bytesLess]
 |a::x,[]=>by simp [Op.bytesLess]
 |[],b::y=>by simp [Op.bytesLess]
 |a::x,b::y=>by
  have ih:=Dy x y
  simp only [Op.bytesLess,ih]
  rw [Bool.eq_iff_iff]
  simp [List.cons_lt_cons_iff]
theorem kw (x:aH):¬x<x:=List.lt_irrefl x
theorem xo {x y z:aH} (h:x<y) (g:y<z):x<z:=List.lt_trans h g
theorem L6 (x y:aH):x<y∨x=y∨y<x:=by
 by_cases h:x<y
 ·exact .inl h
 by_cases g:y<x
 ·exact .inr (.inr g)
 exact .inr (.inl (List.le_antisymm (List.not_lt.1 g) (List.not_lt.1 h)))
theorem Dz {x y:aH} (h:x<y) (g:y<x):False:=kw x (xo h g)
theorem L7 {x y:aH}:(!sle x y)=true↔y<x:=by
 rcases L6 x y with h|rfl|h
 ·have:¬y<x:=fun g=>Dz h g
  simp [sle,Dy,h,this]
 ·simp [sle]
 simp only [sle,Dy]
 have h1:¬x<y:=fun g=>Dz h g
 have h2:x≠y:=fun e=>by subst e;exact kw x h
 simp [h1,h2,h]
abbrev JS (l:List Node):Prop:=l.Pairwise (fun x y=>x.name<y.name)
def Node.zy (n:Node):Bool:=eB n.name&&uk n.labels
structure cB.ok (p:cB):Prop where
 zN:JS p.nodes
 zy:∀n∈p.nodes,n.zy=true
 free:∀n∈p.nodes,(eG n.name p.nodes p.places).2=true
 most:p.nodes.length≤16
 here:∀x∈p.places,∃n∈p.nodes,n.name=x.node
theorem yK {l:List Node} {ps:List Place}:∀(r:List Node) (q:Option aH),jI l ps q r=true↔
 ((∀n∈r,n.zy=true)∧(∀n∈r,(eG n.name l ps).2=true)∧JS r∧∀a,q=some a→∀n∈r,a<n.name)
 |[],q=>by simp [jI]
 |n::r,q=>by
  have ih:=yK (l:=l) (ps:=ps) r (some n.name)
  simp only [jI,Bool.and_eq_true,ih]
  have hp:EP q n.name=true↔∀a,q=some a→a<n.name:=by
   cases q with
   |none=>simp [EP]
   |some a=>simp only [EP,L7];simp
  rw [hp]
  constructor
  ·rintro ⟨⟨⟨⟨h1,h2⟩,h3⟩,h4⟩,g1,g2,g3,g4⟩
   refine ⟨?_,?_,?_,?_⟩
   ·intro m hm;rcases List.mem_cons.1 hm with rfl|hm
    ·simp [Node.zy,h2,h3]
    exact g1 m hm
   ·intro m hm;rcases List.mem_cons.1 hm with rfl|hm
    ·exact h1
    exact g2 m hm
   ·exact List.pairwise_cons.2 ⟨fun m hm=>g4 _ rfl m hm,g3⟩
   intro a ha m hm;rcases List.mem_cons.1 hm with rfl|hm
   ·exact h4 a ha
   exact xo (h4 a ha) (g4 _ rfl m hm)
  rintro ⟨h1,h2,h3,h4⟩
  have f:=h1 n (by simp)
  simp only [Node.zy,Bool.and_eq_true] at f
  have h3':=List.pairwise_cons.1 h3
  exact ⟨⟨⟨⟨h2 n (by simp),f.1⟩,f.2⟩,fun a ha=>h4 a ha n (by simp)⟩,fun m hm=>h1 m (by simp [hm]),fun m hm=>h2 m (by simp [hm]),h3'.2,fun a ha m hm=>by cases ha;exact h3'.1 m hm⟩
theorem JT {p:cB}:ph p=true↔p.ok:=by
 unfold ph
 simp only [Bool.and_eq_true,yK,decide_eq_true_eq,Bool.not_eq_true',List.any_eq_false,Bb]
 constructor
 ·rintro ⟨⟨⟨h1,h2,h3,_⟩,h5⟩,h6⟩
  refine ⟨h3,h1,h2,h5,fun x hx=>?_⟩
  have:=h6 x hx
  simpa using this
 rintro ⟨h1,h2,h3,h4,h5⟩
 refine ⟨⟨⟨h2,h3,h1,by simp⟩,h4⟩,fun x hx=>?_⟩
 obtain ⟨n,hn,e⟩:=h5 x hx
 simp;exact ⟨n,hn,e⟩
theorem Qt {l:List Node} (ha:JS l) {n:Node} (hn:n∈l):l.find? (fun x=>decide (x.name=n.name))=some n:=by
 induction l with
 |nil=>cases hn
 |cons m r ih=>
  rw [List.find?_cons]
  have Zc:=List.pairwise_cons.1 ha
  rcases List.mem_cons.1 hn with rfl|hn
  ·simp
  have:m.name≠n.name:=fun e=>by have:=Zc.1 n hn;rw [e] at this;exact kw _ this
  simp [this,ih Zc.2 hn]
theorem Ng {l:List Node} (ha:JS l) {n:Node} (hn:n∈l):eF n.name l=(n,true):=by
 unfold eF;rw [Qt ha hn]
theorem JU {l:List Node} {name:aH} (h:(eF name l).2=true):(eF name l).1∈l∧(eF name l).1.name=name:=by
 unfold eF at h ⊢
 split at h
 ·rename_i x hx
  have h1:=List.mem_of_find?_eq_some hx
  have h2:=List.find?_some hx
  exact ⟨h1,by simpa using h2⟩
 cases h
def left (name:aH) (ps:List Place) (v:bE×Bool):bE×Bool:=ps.foldl (dP name) v
theorem xu {l:List Node} (ha:JS l) {n:Node} (hn:n∈l) (ps:List Place):eG n.name l ps=if (left n.name ps (n.cap,true)).2 then left n.name ps (n.cap,true) else (bE.zero,false):=by
 unfold eG;rw [Ng ha hn];rfl
theorem gU {l:List Node} (ha:JS l) {n:Node} (hn:n∈l) (ps:List Place):(eG n.name l ps).2=(left n.name ps (n.cap,true)).2:=by
 rw [xu ha hn]
 split
 ·rfl
 rename_i h;simp at h;simp [h]
theorem JV (name:aH) (ps:List Place):∀v,(left name ps (v,false))=(v,false):=by
 induction ps with
 |nil=>intro v;rfl
 |cons x r ih=>intro v;simp only [left,List.foldl_cons];rw [show dP name (v,false) x=(v,false) by simp [dP]];exact ih v
theorem Nh (name:aH) (ps:List Place) (x:Place) (v:bE×Bool):left name (ps++[x]) v=dP name (left name ps v) x:=by simp [left]
def bE.w (v:bE):Prop:=∀k<4,0≤v.at_ k∧v.at_ k<18446744073709551616
theorem bE.Wn {a b:bE} (h:∀k<4,a.at_ k=b.at_ k):a=b:=by
 rw [EO];exact ⟨h 0 (by decide),h 1 (by decide),h 2 (by decide),h 3 (by decide)⟩
theorem lt4 {P:Nat→Prop}:(∀k<4,P k)↔P 0∧P 1∧P 2∧P 3:=by
 constructor
 ·intro h;exact ⟨h 0 (by decide),h 1 (by decide),h 2 (by decide),h 3 (by decide)⟩
 rintro ⟨h0,h1,h2,h3⟩ k hk
 match k,hk with
 |0,_=>exact h0
 |1,_=>exact h1
 |2,_=>exact h2
 |3,_=>exact h3
theorem TA {x y:Int}:(Hl x y).2=true↔y.toNat≤x.toNat:=by
 unfold Hl;split<;>simp<;>omega
theorem TB {x y:Int}:(Hj x y).2=true↔x.toNat+y.toNat<18446744073709551616:=by
 unfold Hj;split<;>simp<;>omega
theorem ng {a b:bE}:(eH a b).2=true↔∀k<4,(b.at_ k).toNat≤(a.at_ k).toNat:=by
 rw [lt4];simp only [bE.at_,←TA]
 unfold eH both;split
 ·rename_i h;simp only [Bool.and_eq_true] at h;simp [h]
 rename_i h;simp only [Bool.and_eq_true,not_and] at h;simp;intro h1 h2 h3;simpa using h ⟨⟨h1,h2⟩,h3⟩
theorem EU {a b:bE}:(iV a b).2=true↔∀k<4,(a.at_ k).toNat+(b.at_ k).toNat<18446744073709551616:=by
 rw [lt4];simp only [bE.at_,←TB]
 unfold iV both;split
 ·rename_i h;simp only [Bool.and_eq_true] at h;simp [h]
 rename_i h;simp only [Bool.and_eq_true,not_and] at h;simp;intro h1 h2 h3;simpa using h ⟨⟨h1,h2⟩,h3⟩
theorem EV {a b:bE} (h:(eH a b).2=true):∀k<4,(eH a b).1.at_ k=((((a.at_ k).toNat-(b.at_ k).toNat)%18446744073709551616:Nat):Int):=by
 have h':=ng.1 h
 rw [lt4] at h' ⊢
 simp only [bE.at_] at h' ⊢
 unfold eH both at h ⊢
 split at h
 ·rename_i g
  rw [if_pos g]
  simp only [Hl]
  rw [if_neg (by omega),if_neg (by omega),if_neg (by omega),if_neg (by omega)]
  simp
 cases h
theorem L8 {a b:bE} (h:(iV a b).2=true):∀k<4,(iV a b).1.at_ k=(((a.at_ k).toNat+(b.at_ k).toNat:Nat):Int):=by
 have h':=EU.1 h
 rw [lt4] at h' ⊢
 simp only [bE.at_] at h' ⊢
 unfold iV both at h ⊢
 split at h
 ·rename_i g
  rw [if_pos g]
  simp only [Hj]
  rw [if_pos (by omega),if_pos (by omega),if_pos (by omega),if_pos (by omega)]
  simp
 cases h
theorem JW {a b:bE} (h:(eH a b).2=true):(eH a b).1.w:=by
 intro k hk;rw [EV h k hk];omega
def here (name:aH) (ps:List Place):List Place:=ps.filter (fun x=>decide (x.node=name))
def gE (k:Nat) (l:List Place):Nat:=(l.map (fun x=>(x.v.at_ k).toNat)).sum
theorem oe (name:aH):∀(ps:List Place) (v:bE),v.w→((left name ps (v,true)).2=true↔∀k<4,gE k (here name ps)≤(v.at_ k).toNat)∧
 ((left name ps (v,true)).2=true→∀k<4,(left name ps (v,true)).1.at_ k=(((v.at_ k).toNat-gE k (here name ps):Nat):Int))
 |[],v,hv=>by
  simp only [left,List.foldl_nil,here,List.filter_nil,gE,List.map_nil,List.sum_nil]
  exact ⟨by simp,fun _ k hk=>by have:=hv k hk;omega⟩
 |x::r,v,hv=>by
  by_cases hx:x.node=name
  ·have e1:left name (x::r) (v,true)=left name r (eH v x.v):=by simp [left,dP,hx]
   have e2:here name (x::r)=x::here name r:=by simp [here,hx]
   rw [e1,e2]
   cases hs:(eH v x.v).2 with
   |false=>
    have e3:eH v x.v=((eH v x.v).1,false):=by rw [←hs]
    rw [e3,JV]
    refine ⟨⟨fun h=>Bool.noConfusion h,fun h=>?_⟩,fun h=>Bool.noConfusion h⟩
    have:(eH v x.v).2=true:=ng.2 fun k hk=>by have:=h k hk;simp [gE] at this;omega
    rw [hs] at this;cases this
   |true=>
    have e3:eH v x.v=((eH v x.v).1,true):=by rw [←hs]
    rw [e3]
    obtain ⟨i1,i2⟩:=oe name r (eH v x.v).1 (JW hs)
    have hat:=EV hs
    have hok:=ng.1 hs
    constructor
    ·rw [i1]
     constructor
     ·intro h k hk;have a1:=h k hk;have a2:=hat k hk;have a3:=hok k hk;have a4:=hv k hk
      rw [a2] at a1;simp only [gE,List.map_cons,List.sum_cons] at a1 ⊢;omega
     intro h k hk;have a1:=h k hk;have a2:=hat k hk;have a3:=hok k hk;have a4:=hv k hk
     rw [a2];simp only [gE,List.map_cons,List.sum_cons] at a1 ⊢;omega
    intro h k hk
    rw [i2 h k hk];have a1:=(i1.1 h) k hk;have a2:=hat k hk;have a3:=hok k hk;have a4:=hv k hk
    rw [a2] at a1 ⊢;simp only [gE,List.map_cons,List.sum_cons] at a1 ⊢;omega
  have e1:left name (x::r) (v,true)=left name r (v,true):=by simp [left,dP,hx]
  have e2:here name (x::r)=here name r:=by simp [here,hx]
  rw [e1,e2];exact oe name r v hv
theorem Bf {k:Nat} {l m:List Place} (h:l.Sublist m):gE k l≤gE k m:=by
 unfold gE
 induction h with
 |slnil=>simp
 |cons a _ ih=>simp;omega
 |cons_cons a _ ih=>simp;omega
structure cB.w (p:cB):Prop where
 cap:∀n∈p.nodes,n.cap.w
 v:∀x∈p.places,x.v.w
theorem cB.TC {p:cB} (h:p.ok) (hw:p.w) {n:Node} (hn:n∈p.nodes):∀k<4,gE k (Dem.here n.name p.places)≤(n.cap.at_ k).toNat:=by
 have:=h.free n hn
 rw [gU h.zN hn] at this
 exact (oe n.name p.places n.cap (hw.cap n hn)).1.1 this
theorem JX {p:cB} (ha:JS p.nodes) (hc:∀n∈p.nodes,n.cap.w) {n:Node} (hn:n∈p.nodes) (h:∀k<4,gE k (here n.name p.places)≤(n.cap.at_ k).toNat):(eG n.name p.nodes p.places).2=true:=by
 rw [gU ha hn];exact (oe n.name p.places n.cap (hc n hn)).1.2 h
theorem TD {p:cB} (h:p.ok) (hw:p.w) (f:Place→Bool):cB.ok ⟨p.nodes,p.places.filter f⟩:=by
 refine ⟨h.zN,h.zy,fun n hn=>?_,h.most,fun x hx=>h.here x (List.mem_filter.1 hx).1⟩
 refine JX (p:=⟨p.nodes,p.places.filter f⟩) h.zN hw.cap hn fun k hk=>?_
 refine Nat.le_trans (Bf ?_) (cB.TC h hw hn k hk)
 exact (List.filter_sublist (l:=p.places) (p:=f)).filter _
theorem Wo {p:cB} (hw:p.w) (f:Place→Bool):cB.w ⟨p.nodes,p.places.filter f⟩:=⟨hw.cap,fun x hx=>hw.v x (List.mem_filter.1 hx).1⟩
theorem Bg:bE.zero.w:=by
 intro k hk;have:bE.zero.at_ k=0:=by unfold bE.at_;split<;>rfl
 rw [this];omega
theorem zO {α:Type} {l:List α} {i:Nat} {x y:α} (h:y∈l.set i x):y∈l∨y=x:=by
 rcases List.mem_or_eq_of_mem_set h with h|h
 ·exact .inl h
 exact .inr h
theorem Qu {l:List Node} {i:Nat} {x:Node} {up:Bool} (hx:l[i]?=some x) (name:aH):
 (eF name (l.set i {x with up:=up})).1.cap=(eF name l).1.cap∧(eF name (l.set i {x with up:=up})).2=(eF name l).2:=by
 have key:(l.set i {x with up:=up}).find? (fun y=>decide (y.name=name))=(l.find? (fun y=>decide (y.name=name))).map (fun y=>if y=x∧l.findIdx? (fun y=>decide (y.name=name))=some i then {x with up:=up} else y):=by
  induction l generalizing i with
  |nil=>simp at hx
  |cons m r ih=>
   cases i with
   |zero=>
    simp at hx;subst hx
    simp only [List.set_cons_zero,List.find?_cons,List.findIdx?_cons]
    by_cases hm:m.name=name
    ·simp [hm]
    simp only [hm,decide_false]
    cases hf:r.find? (fun y=>decide (y.name=name)) with
    |none=>simp
    |some z=>simp
   |succ i=>
    simp only [List.getElem?_cons_succ] at hx
    have:=ih hx
    simp only [List.set_cons_succ,List.find?_cons,List.findIdx?_cons]
    by_cases hm:m.name=name
    ·simp [hm]
    simp only [hm,decide_false]
    rw [this]
    simp
 unfold eF
 rw [key]
 cases hf:l.find? (fun y=>decide (y.name=name)) with
 |none=>simp
 |some z=>
  simp only [Option.map_some]
  split
  ·rename_i h;rw [h.1];simp
  simp
theorem Ni {l:List Node} {i:Nat} {x:Node} {up:Bool} (hx:l[i]?=some x) (name:aH) (ps:List Place):eG name (l.set i {x with up:=up}) ps=eG name l ps:=by
 obtain ⟨h1,h2⟩:=Qu (up:=up) hx name
 unfold eG;rw [h1,h2]
theorem DA {l:List Node} {i:Nat} {x:Node} {up:Bool} (hx:l[i]?=some x):(l.set i {x with up:=up}).map (·.name)=l.map (·.name):=by
 apply List.ext_getElem?
 intro j
 simp only [List.getElem?_map,List.getElem?_set]
 split
 ·rename_i e;subst e;rw [hx];split<;>simp;
  rename_i h;have:=(List.getElem?_eq_some_iff.1 hx).1;omega
 rfl
theorem Nj {l m:List Node} (h:l.map (·.name)=m.map (·.name)) (ha:JS m):JS l:=by
 have h1:(m.map (·.name)).Pairwise (fun a b=>a<b):=List.pairwise_map.2 ha
 rw [←h] at h1
 exact List.pairwise_map.1 h1
theorem TE {p:cB} (h:p.ok) (hw:p.w) (name:aH) (up:Bool):(fK p name up).1.ok∧(fK p name up).1.w:=by
 unfold fK
 split
 ·rename_i i x h1 h2
  split
  ·exact ⟨h,hw⟩
  obtain ⟨hi,hp,_⟩:=List.findIdx?_eq_some_iff_getElem.1 h1
  have hx:p.nodes[i]?=some x:=by
   have:=cD (p:=fun x:Node=>decide (x.name=name)) (l:=p.nodes) rfl
   rcases this with ⟨_,h3,_⟩|⟨j,y,_,_,hy,_,h3,h4⟩
   ·rw [h1] at h3;cases h3
   rw [h1] at h3;cases h3;rw [h2] at h4;cases h4;exact hy
  have hm:x∈p.nodes:=List.mem_of_getElem? hx
  refine ⟨⟨Nj (DA hx) h.zN,?_,?_,by simpa using h.most,?_⟩,⟨?_,hw.v⟩⟩
  ·intro n hn;rcases zO hn with hn|rfl
   ·exact h.zy n hn
   exact h.zy x hm
  ·intro n hn
   show (eG n.name (p.nodes.set i {x with up:=up}) p.places).2=true
   rw [Ni hx]
   rcases zO hn with hn|rfl
   ·exact h.free n hn
   exact h.free x hm
  ·intro y hy
   obtain ⟨n,hn,e⟩:=h.here y hy
   have:n.name∈(p.nodes.set i {x with up:=up}).map (·.name):=by rw [DA hx];exact List.mem_map.2 ⟨n,hn,rfl⟩
   obtain ⟨m,hm,em⟩:=List.mem_map.1 this
   exact ⟨m,hm,by rw [em,e]⟩
  intro n hn;rcases zO hn with hn|rfl
  ·exact hw.cap n hn
  exact hw.cap x hm
 exact ⟨h,hw⟩
theorem um {name:aH} {v:bE} {l:List Node} {ps:List Place} (h:pY name v l ps=0):(eF name l).2=true∧(eF name l).1.up=true∧(eG name l ps).2=true∧mE v (eG name l ps).1=true:=by
 unfold pY at h
 split at h
 ·omega
 split at h
 ·omega
 split at h
 ·omega
 rename_i h1 h2 h3
 simp only [Bool.or_eq_true,not_or,Bool.not_eq_true',Bool.not_eq_false] at h1 h2 h3
 exact ⟨h1,h2,h3.1,h3.2⟩
theorem TF {p:cB} (h:p.ok) (hw:p.w) {name:aH} {v:bE} (hv:v.w) (bu:Int) (h0:pY name v p.nodes p.places=0):cB.ok ⟨p.nodes,p.places++[⟨bu,name,v⟩]⟩∧cB.w ⟨p.nodes,p.places++[⟨bu,name,v⟩]⟩:=by
 obtain ⟨r1,r2,r3,r4⟩:=um h0
 obtain ⟨m1,m2⟩:=JU r1
 refine ⟨⟨h.zN,h.zy,fun n hn=>?_,h.most,?_⟩,⟨hw.cap,?_⟩⟩
 ·show (eG n.name p.nodes (p.places++[⟨bu,name,v⟩])).2=true
  rw [gU h.zN hn,Nh]
  have hl:=h.free n hn
  rw [gU h.zN hn] at hl
  unfold dP
  split
  ·rename_i g
   simp only [Bool.and_eq_true,decide_eq_true_eq] at g
   obtain ⟨g1,g2⟩:=g
   rw [eG,g2,] at r4
   have e:eG name p.nodes p.places=left n.name p.places (n.cap,true):=by
    rw [g2,xu h.zN hn,if_pos hl]
   rw [←g2] at r4
   have r4':mE v (left n.name p.places (n.cap,true)).1=true:=by rw [←e,g2];unfold eG;rw [←g2];exact r4
   exact r4'
  exact hl
 ·intro x hx
  rcases List.mem_append.1 hx with hx|hx
  ·exact h.here x hx
  simp at hx;subst hx;exact ⟨_,m1,m2⟩
 intro x hx
 rcases List.mem_append.1 hx with hx|hx
 ·exact hw.v x hx
 simp at hx;subst hx;exact hv
theorem DB (l:List Node) (bu:Int) {v:bE} (hv:v.w):∀(names:List aH) (ps:List Place),cB.ok ⟨l,ps⟩→cB.w ⟨l,ps⟩→(gu l bu v names ps).1=none→cB.ok ⟨l,(gu l bu v names ps).2⟩∧cB.w ⟨l,(gu l bu v names ps).2⟩
 |[],ps,h,hw,_=>⟨h,hw⟩
 |n::r,ps,h,hw,g=>by
  unfold gu at g ⊢
  split
  ·rename_i h1;rw [if_pos h1] at g;cases g
  rename_i h1
  rw [if_neg h1] at g
  have h0:pY n v l ps=0:=by omega
  obtain ⟨a,b⟩:=TF (p:=⟨l,ps⟩) h hw hv bu h0
  exact DB l bu hv r _ a b g
theorem Wp {p:cB} (h:p.ok) (hw:p.w) (bu:Int) (names:List aH) {v:bE} (hv:v.w):(xk p bu names v).1.ok∧(xk p bu names v).1.w:=by
 unfold xk
 split
 ·exact ⟨h,hw⟩
 rename_i g;exact DB p.nodes bu hv names p.places h hw g
theorem Hv (l:List Node) (nm:aH):pat l nm≤l.length∧(∀n∈l.take (pat l nm),n.name<nm)∧(∀n,l[pat l nm]?=some n→¬n.name<nm):=by
 unfold pat
 split
 ·rename_i k hk
  obtain ⟨wF,hp,hb⟩:=List.findIdx?_eq_some_iff_getElem.1 hk
  refine ⟨by omega,?_,?_⟩
  ·intro n hn
   obtain ⟨j,hj⟩:=List.getElem?_of_mem hn
   rw [List.getElem?_take] at hj
   split at hj
   ·rename_i VO
    rw [List.getElem?_eq_getElem (by omega)] at hj
    cases hj
    have:=hb j VO
    simpa [Dy] using this
   cases hj
  intro n hn
  rw [List.getElem?_eq_getElem wF] at hn;cases hn
  simpa [Dy] using hp
 rename_i hk
 rw [List.findIdx?_eq_none_iff] at hk
 refine ⟨Nat.le_refl _,?_,?_⟩
 ·intro n hn
  rw [List.take_length] at hn
  have:=hk n hn
  simpa [Dy] using this
 intro n hn;simp at hn
theorem zP {l:List Node} {k:Nat} {x y:Node}:y∈l.take k++x::l.drop k↔y∈l∨y=x:=by
 rw [List.mem_append,List.mem_cons]
 constructor
 ·rintro (h|h|h)
  ·exact .inl (List.mem_of_mem_take h)
  ·exact .inr h
  exact .inl (List.mem_of_mem_drop h)
 rintro (h|h)
 ·rw [←List.take_append_drop k l,List.mem_append] at h
  rcases h with h|h
  ·exact .inl h
  exact .inr (.inr h)
 exact .inr (.inl h)
theorem TG {l:List Node} (ha:JS l) {x:Node} (hn:∀n∈l,n.name≠x.name):JS (l.take (pat l x.name)++x::l.drop (pat l x.name)):=by
 obtain ⟨h1,h2,h3⟩:=Hv l x.name
 have hs:=ha
 rw [←List.take_append_drop (pat l x.name) l] at hs
 have hs':=List.pairwise_append.1 hs
 have hd:∀n∈l.drop (pat l x.name),x.name<n.name:=by
  intro n hm
  cases hc:l.drop (pat l x.name) with
  |nil=>rw [hc] at hm;cases hm
  |cons m r=>
   have hlt:pat l x.name<l.length:=by
    rcases Nat.lt_or_ge (pat l x.name) l.length with h|h
    ·exact h
    rw [List.drop_eq_nil_of_le h] at hc;cases hc
   have hg:l[pat l x.name]?=some m:=by
    have:(l.drop (pat l x.name))[0]?=some m:=by rw [hc];rfl
    simpa using this
   have M0:m∈l:=List.mem_of_getElem? hg
   have hm1:x.name<m.name:=by
    rcases L6 x.name m.name with h|h|h
    ·exact h
    ·exact absurd h.symm (hn m M0)
    exact absurd h (h3 m hg)
   rw [hc] at hm
   rcases List.mem_cons.1 hm with rfl|hm
   ·exact hm1
   have:=hs'.2.1;rw [hc] at this
   exact xo hm1 ((List.pairwise_cons.1 this).1 n hm)
 refine List.pairwise_append.2 ⟨hs'.1,List.pairwise_cons.2 ⟨hd,hs'.2.1⟩,?_⟩
 intro a Zc b hb
 rcases List.mem_cons.1 hb with rfl|hb
 ·exact h2 a Zc
 exact hs'.2.2 a Zc b hb
theorem uo (p:cB) (n:Node):((ri p n).1=p∧(ri p n).2≠0)∨(n.zy=true∧(∀m∈p.nodes,m.name≠n.name)∧p.nodes.length<16∧
 ri p n=(⟨p.nodes.take (pat p.nodes n.name)++{n with up:=true}::p.nodes.drop (pat p.nodes n.name),p.places⟩,0)):=by
 unfold ri
 split
 ·exact .inl ⟨rfl,by simp⟩
 split
 ·exact .inl ⟨rfl,by simp⟩
 split
 ·exact .inl ⟨rfl,by simp⟩
 split
 ·exact .inl ⟨rfl,by simp⟩
 rename_i h1 h2 h3 h4
 simp only [Bool.not_eq_true',Bool.not_eq_false] at h1 h2
 refine .inr ⟨by simp [Node.zy,h1,h2],?_,by omega,rfl⟩
 rw [←fh] at h3
 intro m hm e
 exact h3 (List.any_eq_true.2 ⟨m,hm,by simp [e]⟩)
theorem Nk {name:aH} {ps:List Place} (h:∀x∈ps,x.node≠name) (v:bE×Bool):left name ps v=v:=by
 unfold left
 induction ps generalizing v with
 |nil=>rfl
 |cons x r ih=>
  rw [List.foldl_cons,show dP name v x=v by simp [dP,h x (by simp)]]
  exact ih (fun y hy=>h y (by simp [hy])) v
theorem Wq {p:cB} (h:p.ok) (hw:p.w) {n:Node} (hc:n.cap.w):(ri p n).1.ok∧(ri p n).1.w:=by
 rcases uo p n with ⟨e,_⟩|⟨h1,h2,h3,e⟩
 ·rw [e];exact ⟨h,hw⟩
 rw [e]
 have ha:JS (p.nodes.take (pat p.nodes n.name)++{n with up:=true}::p.nodes.drop (pat p.nodes n.name)):=TG (x:={n with up:=true}) h.zN h2
 refine ⟨⟨ha,?_,?_,?_,?_⟩,⟨?_,hw.v⟩⟩
 ·intro m hm;rcases zP.1 hm with hm|rfl
  ·exact h.zy m hm
  exact h1
 ·intro m hm
  show (eG m.name (p.nodes.take (pat p.nodes n.name)++{n with up:=true}::p.nodes.drop (pat p.nodes n.name)) p.places).2=true
  rw [gU ha hm]
  rcases zP.1 hm with hm|rfl
  ·have:=h.free m hm;rwa [gU h.zN hm] at this
  rw [Nk]
  intro x hx e
  obtain ⟨m,hm,em⟩:=h.here x hx
  exact h2 m hm (by rw [em,e])
 ·have:=(Hv p.nodes n.name).1;simp;omega
 ·intro x hx
  obtain ⟨m,hm,em⟩:=h.here x hx
  exact ⟨m,zP.2 (.inl hm),em⟩
 intro m hm;rcases zP.1 hm with hm|rfl
 ·exact hw.cap m hm
 exact hc
def TH:aH:=[122,111,110,101]
def ry (p:cB) (bu:Int):cB:=⟨p.nodes,p.places.filter (fun x=>!decide (x.bu=bu))⟩
theorem L9:cB.ok ⟨[],[]⟩:=⟨List.Pairwise.nil,by simp,by simp,by simp,by simp⟩
theorem Qv:cB.w ⟨[],[]⟩:=⟨by simp,by simp⟩
theorem xw {α β:Type} {P:α→Prop} {f:α→β→α} (hf:∀a b,P a→P (f a b)):∀(l:List β) (a:α),P a→P (l.foldl f a)
 |[],_,h=>h
 |b::r,a,h=>xw hf r (f a b) (hf a b h)
structure Jb where
 id:Int
 x:Ask
 runs:Bool
 left:Int
deriving DecidableEq
def Jb.zero:Jb:=⟨0,Ask.zero,false,0⟩
instance:Inhabited Jb:=⟨Jb.zero⟩
structure dc where
 round:Int
 id:Int
 kind:Int
deriving DecidableEq
instance:Inhabited dc:=⟨⟨0,0,0⟩⟩
structure CH where
 first:Int
 l:List dc
deriving DecidableEq
structure aW where
 round:Int
 next:Int
 aY:cB
 tree:List aR
 av:List Jb
 queue:List bK
 ev:CH
 au:CH
def dc.cells (n:dc):List D:=[.int .u64 n.round,.int .u64 n.id,.int .i64 n.kind]
def Jb.cells (j:Jb):List D:=[.int .u64 j.id,.str j.x.path,.int .u64 j.x.gB.a,.int .u64 j.x.gB.b,.int .u64 j.x.gB.c,.int .u64 j.x.gB.d,.int .i64 j.x.count,.int .i64 j.x.prio,.int .i64 j.x.eZ,.sl (j.x.bY.map Term.cells),.bool j.runs,.int .i64 j.left]
def aW.zero:aW:=⟨0,0,⟨[],[]⟩,[],[],[],⟨0,[]⟩,⟨0,[]⟩⟩
def CI:aW:={aW.zero with next:=1,tree:=[⟨[],bE.zero,bE.zero⟩]}
def EW (l:List Jb) (id:Int):Int:=idxOf (fun j=>decide (j.id=id)) l
def bC (l:List Jb) (id:Int):Jb×Bool:=match l.find? (fun j=>decide (j.id=id)) with
 |some j=>(j,true)
 |none=>(Jb.zero,false)
def u64 (n:Int):Int:=n%18446744073709551616
def tell (x:CH) (n:dc):CH:=if 32<(x.l++[n]).length then ⟨u64 (x.first+1),(x.l++[n]).drop 1⟩ else ⟨x.first,x.l++[n]⟩
def gV (t:List aR) (p:aH):Bool:=!((mF p++[[]]).any fun q=>!(ru t q).2)
def jK (s:aW) (id kind:Int):aW:={s with ev:=tell s.ev ⟨s.round,id,kind⟩}
def cY (s:aW) (x:Ask):aW×Int×Int:=
 if dY x≠0 then (s,0,dY x) else
 if !gV s.tree x.path then (s,0,7) else
 if 32≤s.av.length∨s.next=18446744073709551615 then (s,0,9) else
 if (jZ s.queue ⟨s.next,x.prio⟩).2≠0 then (s,0,(jZ s.queue ⟨s.next,x.prio⟩).2) else
 (jK {s with queue:=(jZ s.queue ⟨s.next,x.prio⟩).1,av:=s.av++[⟨s.next,x,false,0⟩],next:=u64 (s.next+1)} s.next 1,s.next,0)
def DC (s:aW) (k:Nat) (j:Jb):aW:={s with av:=s.av.set k j}
def kx (s:aW) (k:Nat) (j:Jb) (id:Int) (nodes:List aH):aW×Int:=
 if j.runs then (s,15) else if (nodes.length:Int)≠j.x.count then (s,1) else
 if !(c8 j.x).2 then (s,5) else
 if (dy s.tree j.x.path (c8 j.x).1).2≠0 then (s,(dy s.tree j.x.path (c8 j.x).1).2) else
 if (xk s.aY id nodes j.x.gB).2≠0 then (s,(xk s.aY id nodes j.x.gB).2) else
 (jK (DC {s with tree:=(dy s.tree j.x.path (c8 j.x).1).1,aY:=(xk s.aY id nodes j.x.gB).1,queue:=(Bd s.queue id).1} k {j with runs:=true,left:=j.x.eZ}) id 2,0)
def cJ (s:aW) (id:Int) (nodes:List aH):aW×Int:=match s.av.findIdx? (fun j=>decide (j.id=id)) with
 |none=>(s,7)
 |some k=>kx s k (s.av.getD k Jb.zero) id nodes
def nh (s:aW) (j:Jb):aW:=
 {s with tree:=(if (c8 j.x).2 then (sJ s.tree j.x.path (c8 j.x).1).1 else s.tree),aY:=ry s.aY j.id}
def gG (s:aW) (id kind:Int):aW×Int:=match s.av.findIdx? (fun j=>decide (j.id=id)) with
 |none=>(s,7)
 |some k=>if !(s.av.getD k Jb.zero).runs then (s,15) else
  (jK (DC {nh s (s.av.getD k Jb.zero) with queue:=(jZ s.queue ⟨id,(s.av.getD k Jb.zero).x.prio⟩).1} k {s.av.getD k Jb.zero with runs:=false,left:=0}) id kind,0)
def send (s:aW) (id kind:Int):aW×Int:=match s.av.findIdx? (fun j=>decide (j.id=id)) with
 |none=>(s,7)
 |some k=>(jK {(if (s.av.getD k Jb.zero).runs then nh s (s.av.getD k Jb.zero) else {s with queue:=(Bd s.queue id).1}) with av:=s.av.eraseIdx k} id kind,0)
end Dem
end
section
open Go Go.Proofs Go.ChangeShapes Go.WideShapes Go.RowKit
namespace Dem
theorem trodAll_nil {H:Type} {enc:TypeId×Value→H} {P:Program} {W:World} {vs:List Value} {ds:List (DataW H)} {ps:List MemPlace} (h:DataW.TrodAll enc P W 0 (fun _=>true) true [] vs ds ps):vs=[]∧ds=[]:=by
 cases vs with
 |nil=>cases ds with
  |nil=>exact ⟨rfl,rfl⟩
  |cons d ds=>exact h.elim
 |cons v vs=>cases ds<;>exact h.elim
theorem trodAll_cons {H:Type} {enc:TypeId×Value→H} {P:Program} {W:World} {t:TypeId} {ts:List TypeId} {vs:List Value} {ds:List (DataW H)} {ps:List MemPlace} (h:DataW.TrodAll enc P W 0 (fun _=>true) true (t::ts) vs ds ps):
 ∃v vs' d ds' p q,vs=v::vs'∧ds=d::ds'∧DataW.Trod enc P W 0 (fun _=>true) true t v d p∧DataW.TrodAll enc P W 0 (fun _=>true) true ts vs' ds' q:=by
 cases vs with
 |nil=>cases ds<;>exact h.elim
 |cons v vs=>cases ds with
  |nil=>exact h.elim
  |cons d ds=>
   obtain ⟨p,q,h1,h2,rfl⟩:=h
   exact ⟨v,vs,d,ds,p,q,rfl,rfl,h1,h2⟩
section
variable {H:Type} {enc:TypeId×Value→H} {W:World} {v:Value} {d:DataW H} {p:List MemPlace} {base:Nat}
abbrev okW (W:World):Nat→Prop:=bf (fun _=>0) [] W (fun _=>False)
theorem Wr (W:World):∀blk,blk<W.heap.size→okW W blk:=fun blk hb=>⟨hb,fun h=>h,fun i b hb=>by simp at hb⟩
theorem Ma {α:Type} {cells:α→List D} {Q:α→Prop}:∀(es:List (List D)),(∀r∈es,∃x,r=cells x∧Q x)→∃l:List α,es=l.map cells∧∀x∈l,Q x
 |[],_=>⟨[],rfl,by simp⟩
 |r::es,h=>by
  obtain ⟨x,rfl,hx⟩:=h r (by simp)
  obtain ⟨l,rfl,hl⟩:=Ma es (fun r hr=>h r (by simp [hr]))
  exact ⟨x::l,rfl,fun y hy=>by rcases List.mem_cons.1 hy with rfl|hy;exact hx;exact hl y hy⟩
end
end Dem
end
section
open Go
namespace Dem
theorem DD (c:UInt8):∀(s:aH),∀x∈bR c s,c ∉ x
 |[],x,h=>by simp [bR] at h;subst h;simp
 |y::ys,x,h=>by
  have ih:=DD c ys
  unfold bR at h
  split at h
  ·rcases List.mem_cons.1 h with rfl|h
   ·simp
   exact ih x h
  rename_i hy
  split at h
  ·rename_i hd r e
   rcases List.mem_cons.1 h with rfl|h
   ·have:=ih hd (by rw [e];simp)
    intro g;rcases List.mem_cons.1 g with g|g
    ·exact hy g.symm
    exact this g
   exact ih x (by rw [e];simp [h])
  simp at h;subst h
  intro g;simp at g;exact hy g.symm
theorem Bh (s:aH):∀(x:aH),(47:UInt8) ∉ x→bR 47 (x++47::s)=x::bR 47 s
 |[],_=>by simp [bR]
 |a::x,h=>by
  have ha:a≠47:=fun g=>h (by simp [g])
  have ih:=Bh s x (fun g=>h (by simp [g]))
  rw [List.cons_append,bR,if_neg ha,ih]
theorem og:fq []=[]:=Lib.join_nil _
theorem sK (x:aH):fq [x]=x:=by simp [fq,Lib.join_cons,Lib.joinTail]
theorem nj (x y:aH) (r:List aH):fq (x::y::r)=x++47::fq (y::r):=by
 show Lib.join (x::y::r) [47]=_
 rw [Lib.join_cons,tD]
theorem Bk (x:aH):∀l:List aH,l≠[]→fq (l++[x])=fq l++47::x
 |[],h=>absurd rfl h
 |[a],_=>by rw [List.singleton_append,nj,sK,sK]
 |a::b::l,_=>by
  have ih:=Bk x (b::l) (by simp)
  rw [List.cons_append] at ih
  rw [List.cons_append,List.cons_append,nj,ih,nj];simp
theorem yL:∀l:List aH,l≠[]→(∀x∈l,(47:UInt8) ∉ x)→bR 47 (fq l)=l
 |[],h,_=>absurd rfl h
 |[x],_,h=>by rw [sK];exact Be (List.count_eq_zero.2 (h x (by simp)))
 |x::y::r,_,h=>by
  rw [nj,Bh _ x (h x (by simp)),yL (y::r) (by simp) (fun z hz=>h z (by simp [hz]))]
theorem yM (s:aH):parts s=[]∨(parts s=bR 47 s∧(bR 47 s).length≤3∧∀x∈bR 47 s,eB x=true):=by
 unfold parts
 split
 ·exact .inl rfl
 rename_i h
 simp only [Bool.or_eq_true,decide_eq_true_eq,List.any_eq_true,not_or] at h
 refine .inr ⟨rfl,by omega,fun x hx=>?_⟩
 cases e:eB x with
 |true=>rfl
 |false=>exact absurd ⟨x,hx,by simp [e]⟩ h.2
theorem yN {s x:aH} (h:x∈parts s):eB x=true:=by
 rcases yM s with e|⟨e,_,h2⟩
 ·rw [e] at h;cases h
 exact h2 x (by rw [←e];exact h)
theorem Nl {x:aH} (h:eB x=true):x≠[]:=by
 rintro rfl;simp [eB] at h
theorem DE:parts []=[]:=by
 have:eB []=false:=by simp [eB]
 simp [parts,bR,this]
theorem parts_eq {s:aH} {l:List aH} (hs:bR 47 s=l) (hl:l.length≤3) (hr:l.any (fun n=>!eB n)=false):parts s=l:=by
 unfold parts;rw [hs,hr,if_neg (by simp;omega)]
theorem JY (s:aH) (k:Nat):parts (fq ((parts s).take k))=(parts s).take k:=by
 rcases yM s with e|⟨e,h1,h2⟩
 ·rw [e];simp [og,DE]
 cases k with
 |zero=>simp [og,DE]
 |succ k=>
  have hne:(parts s).take (k+1)≠[]:=by
   rw [e];have:=Dv 47 s
   cases h:bR 47 s with
   |nil=>exact absurd h this
   |cons a r=>simp
  have hs:bR 47 (fq ((parts s).take (k+1)))=(parts s).take (k+1):=by
   refine yL _ hne fun x hx=>?_
   have:=List.mem_of_mem_take hx
   rw [e] at this
   exact DD 47 s x this
  have hl:((parts s).take (k+1)).length≤3:=by rw [List.length_take,e];omega
  have hr:((parts s).take (k+1)).any (fun n=>!eB n)=false:=by
   rw [List.any_eq_false];intro x hx
   rw [yN (List.mem_of_mem_take hx)];simp
  exact parts_eq hs hl hr
def mV (P:aH) (k:Nat):aH:=fq ((parts P).take k)
theorem DF (P:aH):above P=(List.range ((parts P).length+1)).map (mV P):=by
 rw [List.range_succ_eq_map,List.map_cons,List.map_map]
 have h0:mV P 0=[]:=by simp [mV,og]
 rw [above,h0];rfl
theorem sL {P q:aH}:q∈above P↔∃k,k≤(parts P).length∧q=mV P k:=by
 rw [DF,List.mem_map]
 constructor
 ·rintro ⟨k,h,rfl⟩;rw [List.mem_range] at h;exact ⟨k,by omega,rfl⟩
 rintro ⟨k,h,rfl⟩;exact ⟨k,List.mem_range.2 (by omega),rfl⟩
theorem DG (P:aH):mV P 0=[]:=by simp [mV,og]
theorem Hw (P:aH) (k:Nat):parts (mV P k)=(parts P).take k:=JY P k
theorem TJ {P:aH} {i k:Nat} (h:i≤k):mV (mV P k) i=mV P i:=by
 show fq ((parts (mV P k)).take i)=fq ((parts P).take i)
 rw [Hw,List.take_take,Nat.min_eq_left h]
theorem Qw {P:aH} {k:Nat} (h:k<(parts P).length):(mV P k).length<(mV P (k+1)).length:=by
 have e:(parts P).take (k+1)=(parts P).take k++[(parts P)[k]]:=by rw [List.take_add_one,List.getElem?_eq_getElem h];rfl
 have hne:=Nl (yN (List.getElem_mem h))
 unfold mV
 rw [e]
 cases k with
 |zero=>
  simp only [List.take_zero,List.nil_append,og,sK]
  exact List.length_pos_iff.2 hne
 |succ k=>
  rw [Bk _ _ (by intro g;have:=congrArg List.length g;simp at this;rw [this] at h;simp at h)]
  simp
theorem EX {P:aH} {i:Nat}:∀{j:Nat},i<j→j≤(parts P).length→(mV P i).length<(mV P j).length
 |0,h,_=>by omega
 |j+1,h,hj=>by
  have h1:=Qw (P:=P) (k:=j) (by omega)
  by_cases e:i=j
  ·rw [e];exact h1
  exact Nat.lt_trans (EX (by omega) (by omega)) h1
theorem Qx {P:aH} {i j:Nat} (hi:i≤(parts P).length) (hj:j≤(parts P).length) (h:mV P i=mV P j):i=j:=by
 rcases Nat.lt_trichotomy i j with g|g|g
 ·have:=EX g hj;rw [h] at this;omega
 ·exact g
 have:=EX g hi;rw [h] at this;omega
theorem Qy {P:aH} {k:Nat} (h:k≤(parts P).length):above (mV P k)=(List.range (k+1)).map (mV P):=by
 rw [DF,Hw,List.length_take,Nat.min_eq_left h]
 refine List.map_congr_left fun i hi=>?_
 rw [List.mem_range] at hi
 exact TJ (by omega)
theorem xx {P:aH} {k:Nat} (h:k≤(parts P).length):parent (mV P k)=mV P (k-1):=by
 unfold parent
 rw [Qy h]
 simp only [lgM,List.length_range]
 rw [List.getD_eq_getElem?_getD,List.getElem?_map,List.getElem?_range (by omega)]
 simp [show k+1-2=k-1 by omega]
theorem JZ {P q r:aH} (hq:q∈above P) (hr:r∈above P) (q0:q≠[]) (r0:r≠[]) (h:parent q=parent r):q=r:=by
 obtain ⟨i,hi,rfl⟩:=sL.1 hq
 obtain ⟨j,hj,rfl⟩:=sL.1 hr
 rw [xx hi,xx hj] at h
 have i0:i≠0:=by rintro rfl;exact q0 (DG P)
 have j0:j≠0:=by rintro rfl;exact r0 (DG P)
 have:=Qx (by omega) (by omega) h
 rw [show i=j by omega]
theorem J3 {P q:aH} (hq:q∈above P):parent q∈above P:=by
 obtain ⟨i,hi,rfl⟩:=sL.1 hq
 rw [xx hi];exact sL.2 ⟨i-1,by omega,rfl⟩
theorem DH (P:aH):[]∈above P:=by simp [above]
theorem yO {P q:aH}:(decide (q=[])||nF q P)=decide (q∈above P):=by
 by_cases h:q=[]
 ·subst h;simp [DH]
 simp only [above,List.mem_cons,h,false_or,decide_false,Bool.false_or,nF]
 by_cases g:q∈mF P
 ·simp [g]
 simp [g]
structure ej where
 bu:Int
 cnt:Int
def ej.cells (m:ej):List D:=[.int .u64 m.bu,.int .i64 m.cnt]
def oh (l:List Int):List Int:=l.mergeSort (fun x y=>decide (x≤y))
theorem Bl {l m:List Int} (hl:l.Pairwise (fun x y=>x≤y)) (hm:m.Pairwise (fun x y=>x≤y)) (h:l.Perm m):l=m:=
 h.eq_of_pairwise (fun a b _ _ h1 h2=>Int.le_antisymm h1 h2) hl hm
theorem kB (l:List Int):(oh l).Perm l:=List.mergeSort_perm _ _
@[simp] theorem EY (l:List Int):(oh l).length=l.length:=(kB l).length_eq
theorem sM (l:List Int):(oh l).Pairwise (fun x y=>x≤y):=by
 have:=List.pairwise_mergeSort (le:=fun x y:Int=>decide (x≤y)) (by intro a b c;simp;omega) (by intro a b;simp;omega) l
 exact this.imp (by simp)
def gH (name:aH) (js:List Int) (x:Place):List Int:=if x.node=name then (if x.bu∈js then js else js++[x.bu]) else js
def fM (name:aH) (ps:List Place):List Int:=ps.foldl (gH name) []
def EZ (name:aH) (ps:List Place):List Int:=oh (fM name ps)
def tE (p:cB) (name:aH):cB×List Int×Int:=
 if (fK p name false).2=0 then ((fK p name false).1,EZ name p.places,0) else ((fK p name false).1,[],(fK p name false).2)
def eC:List ej→Int→Int→List ej
 |[],j,c=>[⟨j,c⟩]
 |m::l,j,c=>if j=m.bu then ⟨j,c⟩::l else m::eC l j c
theorem Hy:∀(l:List ej) (j:Int),qt (l.map ej.cells) (.int .u64 j)=none∨∃x,qt (l.map ej.cells) (.int .u64 j)=some [.int .i64 x]
 |[],_=>.inl rfl
 |m::l,j=>by
  simp only [List.map_cons,ej.cells,qt,nM]
  by_cases h:j=m.bu
  ·subst h;exact .inr ⟨m.cnt,by simp⟩
  have:=Hy l j
  simpa [h] using this
theorem ol:∀(l:List ej) (j c:Int),sU (l.map ej.cells) (.int .u64 j) [.int .i64 c]=(eC l j c).map ej.cells
 |[],_,_=>rfl
 |m::l,j,c=>by
  simp only [List.map_cons,eC]
  by_cases h:j=m.bu
  ·subst h;simp [ej.cells,sU,nM]
  simp only [if_neg h,List.map_cons]
  rw [←ol l j c]
  simp [ej.cells,sU,nM,h]
theorem gm:∀(l:List ej) (j c:Int),(eC l j c).map ej.bu=if j∈l.map ej.bu then l.map ej.bu else l.map ej.bu++[j]
 |[],_,_=>by simp [eC]
 |m::l,j,c=>by
  simp only [eC]
  by_cases h:j=m.bu
  ·subst h;simp
  rw [if_neg h,List.map_cons,List.map_cons,gm l j c]
  by_cases h2:j∈l.map ej.bu
  ·simp [h2]
  rw [if_neg h2,if_neg (by simp only [List.mem_cons];rintro (g|g);exact h g;exact h2 g)];rfl
theorem nG (name:aH):∀(ps:List Place) (js:List Int),js.Nodup→(ps.foldl (gH name) js).Nodup
 |[],_,h=>h
 |x::r,js,h=>by
  rw [List.foldl_cons]
  refine nG name r _ ?_
  unfold gH
  split
  ·split
   ·exact h
   rename_i g
   rw [List.nodup_append]
   exact ⟨h,by simp,fun a ha b hb e=>g (by simp at hb;rw [←hb,←e];exact ha)⟩
  exact h
theorem rA (name:aH) (j:Int):∀(ps:List Place) (js:List Int),j∈ps.foldl (gH name) js↔j∈js∨∃x∈ps,x.node=name∧x.bu=j
 |[],js=>by simp
 |x::r,js=>by
  rw [List.foldl_cons,rA name j r]
  unfold gH
  by_cases hx:x.node=name
  ·rw [if_pos hx]
   by_cases hj:x.bu∈js
   ·rw [if_pos hj]
    constructor
    ·rintro (h|⟨y,hy,g⟩)
     ·exact .inl h
     exact .inr ⟨y,by simp [hy],g⟩
    rintro (h|⟨y,hy,g1,g2⟩)
    ·exact .inl h
    rcases List.mem_cons.1 hy with rfl|hy
    ·exact .inl (by rw [←g2];exact hj)
    exact .inr ⟨y,hy,g1,g2⟩
   rw [if_neg hj]
   constructor
   ·rintro (h|⟨y,hy,g⟩)
    ·rcases List.mem_append.1 h with h|h
     ·exact .inl h
     simp at h;exact .inr ⟨x,by simp,hx,h.symm⟩
    exact .inr ⟨y,by simp [hy],g⟩
   rintro (h|⟨y,hy,g1,g2⟩)
   ·exact .inl (by simp [h])
   rcases List.mem_cons.1 hy with rfl|hy
   ·exact .inl (by simp [g2])
   exact .inr ⟨y,hy,g1,g2⟩
  rw [if_neg hx]
  constructor
  ·rintro (h|⟨y,hy,g⟩)
   ·exact .inl h
   exact .inr ⟨y,by simp [hy],g⟩
  rintro (h|⟨y,hy,g1,g2⟩)
  ·exact .inl h
  rcases List.mem_cons.1 hy with rfl|hy
  ·exact absurd g1 hx
  exact .inr ⟨y,hy,g1,g2⟩
theorem vK (name:aH):∀(ps:List Place) (js:List Int),js.length≤(ps.foldl (gH name) js).length
 |[],_=>Nat.le_refl _
 |x::r,js=>by
  rw [List.foldl_cons]
  refine Nat.le_trans ?_ (vK name r _)
  unfold gH
  split
  ·split<;>simp
  exact Nat.le_refl _
theorem Hz (name:aH) (ps:List Place) (k:Nat):(fM name (ps.take k)).length≤(fM name ps).length:=by
 have h:=vK name (ps.drop k) (fM name (ps.take k))
 unfold fM at h ⊢
 rwa [←List.foldl_append,List.take_append_drop] at h
theorem Qz {name:aH} {ps:List Place} {j:Int}:j∈EZ name ps↔∃x∈ps,x.node=name∧x.bu=j:=by
 unfold EZ
 rw [(kB _).mem_iff,fM,rA];simp
theorem QA (name:aH) (ps:List Place):(EZ name ps).Pairwise (fun x y=>x<y):=by
 have h1:=sM (fM name ps)
 have h2:(EZ name ps).Nodup:=(kB _).nodup_iff.2 (nG name ps [] List.nodup_nil)
 exact h1.imp₂ (fun a b h g=>by have:a≠b:=g;omega) h2
def Sx (s:aW) (prev:Option Int) (j:Jb):Bool:=
 if j.id<1 then false else if s.next≤j.id then false else if (match prev with|none=>false|some p=>decide (j.id≤p)) then false else
 if dY j.x≠0 then false else if !gV s.tree j.x.path then false else
 if j.runs then decide (1≤j.left)&&decide (j.left≤j.x.eZ) else decide (j.left=0)&&s.queue.contains ⟨j.id,j.x.prio⟩
def mH (s:aW):Option Int→List Jb→Bool
 |_,[]=>true
 |q,j::r=>Sx s q j&&mH s (some j.id) r
def ij (l:List Jb):Nat:=(l.filter fun j=>!j.runs).length
def jL:List Jb→List ej
 |l=>l.foldl (fun m j=>if j.runs then eC m j.id j.x.count else m) []
def fF (m:List ej) (id:Int):Int:=match m.find? (fun x=>decide (x.bu=id)) with
 |some x=>x.cnt
 |none=>0
def gY (l:List Jb):List Place→List ej→Option (List ej)
 |[],m=>some m
 |x::r,m=>if fF m x.bu<1 then none else if x.v≠(bC l x.bu).1.x.gB then none else gY l r (eC m x.bu (fF m x.bu-1))
def lT (s:aW):Bool:=match gY s.av s.aY.places (jL s.av) with
 |none=>false
 |some m=>m.all fun x=>decide (x.cnt=0)
def nk (p:aH):List Jb→bE→Option bE
 |[],v=>some v
 |j::r,v=>if !j.runs then nk p r v else if !decide (p=[])&&!nF p j.x.path then nk p r v else
  if !(c8 j.x).2||!(iV v (c8 j.x).1).2 then none else nk p r (iV v (c8 j.x).1).1
def p8 (s:aW) (e:aR):Bool:=match nk e.path s.av bE.zero with
 |none=>false
 |some v=>decide (v=e.used)
def kL (s:aW):Bool:=
 if !ph s.aY then false else if !ku s.tree then false else if !nE s.queue then false else if 32<s.av.length then false else if s.next<1 then false else
 if 32<max s.ev.l.length s.au.l.length then false else if !mH s none s.av then false else
 decide (ij s.av=s.queue.length)&&lT s&&!(s.tree.any fun e=>!p8 s e)
abbrev vk (k:Nat) (v:bE):Nat:=(v.at_ k).toNat
def Bn (k:Nat) (l:List aR):Nat:=(l.map fun e=>vk k e.used).sum
def kids (p:aH) (l:List aR):List aR:=l.filter fun x=>!decide (x.path=[])&&decide (parent x.path=p)
theorem pz (k:Nat):vk k bE.zero=0:=by unfold vk bE.at_;split<;>rfl
theorem J5 {v:bE} (h:v.w) {k:Nat} (hk:k<4):v.at_ k=(vk k v:Int)∧vk k v<18446744073709551616:=by
 have:=h k hk;unfold vk;omega
theorem Ws {a b:bE} (ha:a.w) (hb:b.w) (h:∀k<4,vk k a=vk k b):a=b:=by
 refine bE.Wn fun k hk=>?_
 rw [(J5 ha hk).1,(J5 hb hk).1,h k hk]
theorem J7 {a b:bE} (h:(iV a b).2=true):(iV a b).1.w:=by
 intro k hk
 have h1:=L8 h k hk
 have h2:=EU.1 h k hk
 rw [h1];omega
theorem pE {a b:bE} (h:(iV a b).2=true) {k:Nat} (hk:k<4):vk k (iV a b).1=vk k a+vk k b:=by
 unfold vk;rw [L8 h k hk];omega
theorem E0 {a b:bE} (ha:a.w) (h:(eH a b).2=true) {k:Nat} (hk:k<4):vk k (eH a b).1=vk k a-vk k b:=by
 have:=(J5 ha hk).2
 unfold vk at*;rw [EV h k hk]
 have h2:((a.at_ k).toNat-(b.at_ k).toNat)%18446744073709551616=(a.at_ k).toNat-(b.at_ k).toNat:=Nat.mod_eq_of_lt (by omega)
 omega
theorem om {a b:bE}:(iV a b).2=true↔∀k<4,vk k a+vk k b<18446744073709551616:=EU
theorem mI {a b:bE}:mE a b=true↔∀k<4,vk k a≤vk k b:=ng
theorem pF (p:aH):∀(l:List aR) (s:bE),s.w→(∀k<4,vk k s+Bn k (kids p l)<18446744073709551616)→
 ∃v,p7 p l s=some v∧v.w∧∀k<4,vk k v=vk k s+Bn k (kids p l)
 |[],s,hs,_=>⟨s,rfl,hs,by simp [kids,Bn]⟩
 |x::r,s,hs,h=>by
  unfold p7
  by_cases h1:x.path=[]
  ·have e:kids p (x::r)=kids p r:=by simp [kids,h1]
   rw [e] at h ⊢;rw [if_pos h1]
   exact pF p r s hs h
  rw [if_neg h1]
  by_cases h2:parent x.path≠p
  ·have e:kids p (x::r)=kids p r:=by simp [kids,h2]
   rw [e] at h ⊢;rw [if_pos h2]
   exact pF p r s hs h
  have e:kids p (x::r)=x::kids p r:=by simp only [Decidable.not_not] at h2;simp [kids,h1,h2]
  have eu:∀k,Bn k (kids p (x::r))=vk k x.used+Bn k (kids p r):=by intro k;rw [e];simp [Bn]
  simp only [eu] at h ⊢
  rw [if_neg h2]
  have ok:(iV s x.used).2=true:=om.2 fun k hk=>by have:=h k hk;omega
  rw [if_pos ok]
  obtain ⟨v,a1,a2,a3⟩:=pF p r (iV s x.used).1 (J7 ok) (fun k hk=>by rw [pE ok hk];have:=h k hk;omega)
  exact ⟨v,a1,a2,fun k hk=>by rw [a3 k hk,pE ok hk];omega⟩
theorem Nn {l:List aR} {e:aR} (hu:e.used.w) (h1:∀k<4,vk k e.used≤vk k e.dD) (h2:∀k<4,Bn k (kids e.path l)≤vk k e.used):lg l e=true:=by
 obtain ⟨v,a1,a2,a3⟩:=pF e.path l bE.zero Bg (fun k hk=>by rw [pz];have:=h2 k hk;have:=(J5 hu hk).2;omega)
 unfold lg
 rw [a1]
 simp only [Bool.and_eq_true]
 refine ⟨mI.2 h1,mI.2 fun k hk=>?_⟩
 rw [a3 k hk,pz];have:=h2 k hk;omega
structure Tree.ok (l:List aR):Prop where
 root:∃e r,l=e::r∧e.path=[]
 most:l.length≤16
 zN:l.Pairwise (fun x y=>x.path<y.path)
 named:∀e∈l,named e.path=true
 par:∀e∈l,∃f∈l,f.path=parent e.path
 fits:∀e∈l,∀k<4,vk k e.used≤vk k e.dD
 w:∀e∈l,e.dD.w∧e.used.w
theorem QB {t:List aR} (ha:t.Pairwise (fun x y=>x.path<y.path)) {i j:Nat} {x y:aR} (hx:t[i]?=some x) (hy:t[j]?=some y) (e:x.path=y.path):i=j:=by
 obtain ⟨hi,rfl⟩:=List.getElem?_eq_some_iff.1 hx
 obtain ⟨hj,rfl⟩:=List.getElem?_eq_some_iff.1 hy
 rcases Nat.lt_trichotomy i j with g|g|g
 ·have:=List.pairwise_iff_getElem.1 ha i j hi hj g;rw [e] at this;exact absurd this (kw _)
 ·exact g
 have:=List.pairwise_iff_getElem.1 ha j i hj hi g;rw [e] at this;exact absurd this (kw _)
theorem TK {t:List aR} (ha:t.Pairwise (fun x y=>x.path<y.path)) {x y:aR} (hx:x∈t) (hy:y∈t) (e:x.path=y.path):x=y:=by
 obtain ⟨i,hi⟩:=List.getElem?_of_mem hx
 obtain ⟨j,hj⟩:=List.getElem?_of_mem hy
 have:=QB ha hi hj e
 subst this;rw [hi] at hj;exact Option.some.inj hj
theorem uq {t:List aR} {q:aH} (h:0≤bP t q):∃(i:Nat) (e:aR),t[i]?=some e∧e.path=q∧bP t q=i:=by
 rcases cD (rfl:bP t q=idxOf _ t) with ⟨h1,_⟩|⟨i,x,h1,_,h3,h4,_⟩
 ·omega
 exact ⟨i,x,h3,by simpa using h4,h1⟩
theorem Bo {t:List aR} {e:aR} (he:e∈t):0≤bP t e.path:=by
 rcases cD (rfl:bP t e.path=idxOf _ t) with ⟨_,h2,_⟩|⟨i,x,h1,_⟩
 ·rw [List.findIdx?_eq_none_iff] at h2;have:=h2 e he;simp at this
 omega
theorem J8 {t:List aR} {q:aH}:bP t q<0↔∀e∈t,e.path≠q:=by
 constructor
 ·rintro h e he rfl;have:=Bo he;omega
 intro h
 refine Int.not_le.1 fun g=>?_
 obtain ⟨i,e,h1,h2,_⟩:=uq g
 exact h e (List.mem_of_getElem? h1) h2
theorem Bp {all:List aR} (hn:∀e∈all,named e.path=true) (hp:∀e∈all,∃f∈all,f.path=parent e.path):
 ∀(r:List aR) (q:aH),r.Pairwise (fun x y=>x.path<y.path)→(∀e∈r,q<e.path)→(∀e∈r,e∈all)→eY all (some q) r=true
 |[],_,_,_,_=>rfl
 |e::r,q,ha,hq,hm=>by
  rw [List.pairwise_cons] at ha
  have h1:(!sle e.path q)=true:=L7.2 (hq e (by simp))
  have h2:=hn e (hm e (by simp))
  have h3:(!decide (bP all (parent e.path)<0))=true:=by
   obtain ⟨f,hf,g⟩:=hp e (hm e (by simp))
   have:=Bo hf;rw [g] at this
   simp;omega
  unfold eY
  rw [h1,h2,h3,Bp hn hp r e.path ha.2 (fun x hx=>ha.1 x hx) (fun x hx=>hm x (by simp [hx]))];rfl
theorem J9 {l:List aR} (h:Tree.ok l) (hk:∀e∈l,∀k<4,Bn k (kids e.path l)≤vk k e.used):ku l=true:=by
 obtain ⟨e,r,rfl,he⟩:=h.root
 have hm:=h.most
 have h1:eY (e::r) none (e::r)=true:=by
  rw [eY]
  have ha:=h.zN
  rw [List.pairwise_cons] at ha
  exact Bp h.named h.par r e.path ha.2 (fun x hx=>ha.1 x hx) (fun x hx=>by simp [hx])
 have h2:((e::r).any fun x=>!lg (e::r) x)=false:=by
  rw [List.any_eq_false];intro x hx
  rw [Nn (h.w x hx).2 (h.fits x hx) (hk x hx)];simp
 unfold ku
 rw [if_neg (by simp),if_neg (by omega),if_neg (by simp [he]),h1,h2];rfl
def vL (f:aR→aR×Int) (A:List aH) (t:List aR):List aR:=t.map fun e=>if e.path∈A then (f e).1 else e
theorem vM (f:aR→aR×Int) {t:List aR} (ha:t.Pairwise (fun x y=>x.path<y.path)):∀(A:List aH) (out:List aR),(∀q∈A,0≤bP t q)→out.length=t.length→
 ((∃e∈t,e.path∈A∧(f e).2≠0)∧(kr f t A out).1=t∧(kr f t A out).2≠0)∨
 ((∀e∈t,e.path∈A→(f e).2=0)∧(kr f t A out).2=0∧(kr f t A out).1.length=t.length∧∀(i:Nat) (e:aR),t[i]?=some e→(kr f t A out).1[i]?=if e.path∈A then some (f e).1 else out[i]?)
 |[],out,_,hl=>.inr ⟨by simp,rfl,hl,by intro i e _;simp [kr]⟩
 |q::A,out,hq,hl=>by
  obtain ⟨i,e,h1,h2,h3⟩:=uq (hq q (by simp))
  have hg:t.getD (bP t q).toNat aR.zero=e:=by rw [h3,Int.toNat_natCast,List.getD_eq_getElem?_getD,h1];rfl
  have hem:=List.mem_of_getElem? h1
  have hil:=(List.getElem?_eq_some_iff.1 h1).1
  unfold kr
  rw [hg]
  by_cases h0:(f e).2≠0
  ·rw [if_pos h0];exact .inl ⟨⟨e,hem,by simp [h2],h0⟩,rfl,h0⟩
  rw [if_neg h0]
  simp only [Decidable.not_not] at h0
  rw [h3,Int.toNat_natCast]
  rcases vM f ha A (out.set i (f e).1) (fun q hq'=>hq q (by simp [hq'])) (by simp [hl]) with ⟨⟨x,b1,b2,b3⟩,b4,b5⟩|⟨b1,b2,b3,b4⟩
  ·exact .inl ⟨⟨x,b1,by simp [b2],b3⟩,b4,b5⟩
  refine .inr ⟨?_,b2,b3,?_⟩
  ·intro x hx hp
   rcases List.mem_cons.1 hp with g|g
   ·rw [TK ha hx hem (by rw [g,h2])];exact h0
   exact b1 x hx g
  intro j x hx
  rw [b4 j x hx]
  by_cases g:x.path∈A
  ·rw [if_pos g,if_pos (by simp [g])]
  rw [if_neg g]
  by_cases g2:x.path=q
  ·have:=QB ha hx h1 (by rw [g2,h2])
   subst this
   rw [hx] at h1;cases h1
   rw [if_pos (by simp [g2]),List.getElem?_set_self (by omega)]
  have hji:i≠j:=by rintro rfl;rw [hx] at h1;cases h1;exact g2 h2
  rw [if_neg (by simp [g2,g]),List.getElem?_set_ne hji]
theorem rB (f:aR→aR×Int) {t:List aR} (ha:t.Pairwise (fun x y=>x.path<y.path)) (p:aH):
 ((pZ f t p).1=t∧(pZ f t p).2≠0∧(named p=false∨(∃q∈above p,∀e∈t,e.path≠q)∨∃e∈t,e.path∈above p∧(f e).2≠0))∨
 (pZ f t p=(vL f (above p) t,0)∧named p=true∧(∀q∈above p,∃e∈t,e.path=q)∧∀e∈t,e.path∈above p→(f e).2=0):=by
 unfold pZ
 cases hn:named p with
 |false=>exact .inl ⟨rfl,by simp,.inl rfl⟩
 |true=>
  simp only [Bool.not_true,Bool.false_eq_true,if_false]
  by_cases h:((above p).any fun q=>decide (bP t q<0))=true
  ·rw [if_pos h]
   obtain ⟨q,hq,g⟩:=List.any_eq_true.1 h
   exact .inl ⟨rfl,by simp,.inr (.inl ⟨q,hq,J8.1 (by simpa using g)⟩)⟩
  rw [if_neg h]
  have hq:∀q∈above p,0≤bP t q:=fun q hq=>Int.not_lt.1 fun g=>h (List.any_eq_true.2 ⟨q,hq,by simpa using g⟩)
  rcases vM f ha (above p) t hq rfl with ⟨b1,b2,b3⟩|⟨b1,b2,b3,b4⟩
  ·exact .inl ⟨b2,b3,.inr (.inr b1)⟩
  refine .inr ⟨?_,by trivial,fun q hm=>?_,b1⟩
  ·refine Prod.ext ?_ b2
   refine List.ext_getElem? fun i=>?_
   unfold vL
   rw [List.getElem?_map]
   cases hi:t[i]? with
   |none=>rw [List.getElem?_eq_none_iff] at hi;simp only [Option.map_none];rw [List.getElem?_eq_none_iff];omega
   |some e=>
    rw [b4 i e hi]
    simp only [Option.map_some]
    split
    ·rfl
    exact hi
  obtain ⟨i,e,g1,g2,_⟩:=uq (hq q hm)
  exact ⟨e,List.mem_of_getElem? g1,g2⟩
theorem pG {v:bE} {e:aR}:(fL v e).2=0↔(iV e.used v).2=true∧mE (iV e.used v).1 e.dD=true:=by
 unfold fL
 cases h1:(iV e.used v).2<;>cases h2:mE (iV e.used v).1 e.dD<;>simp
theorem yP {v:bE} {e:aR} (h:(fL v e).2=0):(fL v e).1={e with used:=(iV e.used v).1}:=by
 obtain ⟨h1,h2⟩:=pG.1 h
 unfold fL;rw [h1,h2];rfl
theorem vN {v:bE} {e:aR}:(eJ v e).2=0↔(eH e.used v).2=true:=by
 unfold eJ
 cases h1:(eH e.used v).2<;>simp
theorem yQ {v:bE} {e:aR} (h:(eJ v e).2=0):(eJ v e).1={e with used:=(eH e.used v).1}:=by
 unfold eJ;rw [vN.1 h];rfl
structure bW (t u:List aR):Prop where
 len:u.length=t.length
 at_:∀(i:Nat) (e:aR),t[i]?=some e→∃x,u[i]?=some x∧x.path=e.path∧x.dD=e.dD
theorem bW.paths {t u:List aR} (h:bW t u):u.map (·.path)=t.map (·.path):=by
 refine List.ext_getElem? fun i=>?_
 rw [List.getElem?_map,List.getElem?_map]
 cases hi:t[i]? with
 |none=>rw [List.getElem?_eq_none_iff] at hi;rw [List.getElem?_eq_none_iff.2 (by rw [h.len];exact hi)]
 |some e=>obtain ⟨x,h1,h2,_⟩:=h.at_ i e hi;rw [h1];simp [h2]
theorem bW.back {t u:List aR} (h:bW t u) {x:aR} (hx:x∈u):∃e∈t,x.path=e.path∧x.dD=e.dD:=by
 obtain ⟨i,hi⟩:=List.getElem?_of_mem hx
 have hl:=(List.getElem?_eq_some_iff.1 hi).1
 rw [h.len] at hl
 obtain ⟨y,h1,h2,h3⟩:=h.at_ i t[i] (List.getElem?_eq_getElem hl)
 rw [hi] at h1;cases h1
 exact ⟨t[i],List.getElem_mem hl,h2,h3⟩
theorem bW.mem {t u:List aR} (h:bW t u) {e:aR} (he:e∈t):∃x∈u,x.path=e.path:=by
 obtain ⟨i,hi⟩:=List.getElem?_of_mem he
 obtain ⟨x,h1,h2,_⟩:=h.at_ i e hi
 exact ⟨x,List.mem_of_getElem? h1,h2⟩
theorem bW.zN {t u:List aR} (h:bW t u) (ha:t.Pairwise (fun x y=>x.path<y.path)):u.Pairwise (fun x y=>x.path<y.path):=by
 have h1:(t.map (·.path)).Pairwise (·<·):=List.pairwise_map.2 ha
 rw [←h.paths] at h1
 exact List.pairwise_map.1 h1
theorem bW.ok {t u:List aR} (h:bW t u) (ho:Tree.ok t) (hf:∀e∈u,∀k<4,vk k e.used≤vk k e.dD) (hw:∀e∈u,e.used.w):Tree.ok u where
 root:=by
  obtain ⟨e,r,rfl,he⟩:=ho.root
  obtain ⟨x,h1,h2,_⟩:=h.at_ 0 e rfl
  cases u with
  |nil=>cases h1
  |cons y r2=>simp at h1;subst h1;exact ⟨y,r2,rfl,by rw [h2,he]⟩
 most:=by rw [h.len];exact ho.most
 zN:=h.zN ho.zN
 named:=fun x hx=>by obtain ⟨e,he,h1,_⟩:=h.back hx;rw [h1];exact ho.named e he
 par:=fun x hx=>by
  obtain ⟨e,he,h1,_⟩:=h.back hx
  obtain ⟨f,hf,h2⟩:=ho.par e he
  obtain ⟨y,hy,h3⟩:=h.mem hf
  exact ⟨y,hy,by rw [h3,h2,h1]⟩
 fits:=hf
 w:=fun x hx=>by obtain ⟨e,he,_,h1⟩:=h.back hx;exact ⟨by rw [h1];exact (ho.w e he).1,hw x hx⟩
theorem Bq {f:aR→aR×Int} {A:List aH} {t:List aR} (h:∀e∈t,e.path∈A→(f e).1.path=e.path∧(f e).1.dD=e.dD):bW t (vL f A t) where
 len:=by simp [vL]
 at_:=by
  intro i e hi
  refine ⟨if e.path∈A then (f e).1 else e,by rw [vL,List.getElem?_map,hi];rfl,?_⟩
  split
  ·rename_i g;exact h e (List.mem_of_getElem? hi) g
  exact ⟨rfl,rfl⟩
abbrev Jb.tot (j:Jb):bE:=(c8 j.x).1
def fZ (k:Nat) (p:aH) (j:Jb):Nat:=if j.runs=true∧p∈above j.x.path then vk k j.tot else 0
def iq (k:Nat) (p:aH) (l:List Jb):Nat:=(l.map (fZ k p)).sum
theorem gZ (k:Nat) (p:aH) (j:Jb) (l:List Jb):iq k p (j::l)=fZ k p j+iq k p l:=by simp [iq]
theorem pH (p:aH):∀(l:List Jb) (v:bE),v.w→(∀j∈l,j.runs=true→(c8 j.x).2=true)→(∀k<4,vk k v+iq k p l<18446744073709551616)→
 ∃u,nk p l v=some u∧u.w∧∀k<4,vk k u=vk k v+iq k p l
 |[],v,hv,_,_=>⟨v,rfl,hv,by simp [iq]⟩
 |j::l,v,hv,ht,h=>by
  simp only [gZ] at h ⊢
  unfold nk
  by_cases h1:j.runs=true
  ·rw [if_neg (by simp [h1])]
   by_cases h2:(!decide (p=[])&&!nF p j.x.path)=true
   ·have h3:¬p∈above j.x.path:=by
     have:=yO (P:=j.x.path) (q:=p)
     intro g
     rw [decide_eq_true g] at this
     simp only [Bool.and_eq_true,Bool.not_eq_true'] at h2
     rw [h2.1,h2.2] at this;simp at this
    have h4:∀k,fZ k p j=0:=fun k=>by simp [fZ,h3]
    rw [if_pos h2]
    simp only [h4,Nat.zero_add] at h ⊢
    exact pH p l v hv (fun x hx=>ht x (by simp [hx])) h
   have h3:p∈above j.x.path:=by
    have:=yO (P:=j.x.path) (q:=p)
    refine Decidable.byContradiction fun g=>?_
    rw [decide_eq_false g] at this
    rw [Bool.or_eq_false_iff] at this
    rw [this.1,this.2] at h2;simp at h2
   have h4:∀k,fZ k p j=vk k j.tot:=fun k=>by simp [fZ,h1,h3]
   simp only [h4] at h ⊢
   have ok:(iV v j.tot).2=true:=om.2 fun k hk=>by have:=h k hk;omega
   have ht1:=ht j (by simp) h1
   rw [if_neg h2,if_neg (by rw [ht1,ok];simp)]
   obtain ⟨u,a1,a2,a3⟩:=pH p l (iV v j.tot).1 (J7 ok) (fun x hx=>ht x (by simp [hx])) (fun k hk=>by rw [pE ok hk];have:=h k hk;omega)
   exact ⟨u,a1,a2,fun k hk=>by rw [a3 k hk,pE ok hk];omega⟩
  have h4:∀k,fZ k p j=0:=fun k=>by simp [fZ,h1]
  rw [if_pos (by simpa using h1)]
  simp only [h4,Nat.zero_add] at h ⊢
  exact pH p l v hv (fun x hx=>ht x (by simp [hx])) h
theorem QC {s:aW} {e:aR} (hu:e.used.w) (ht:∀j∈s.av,j.runs=true→(c8 j.x).2=true) (h:∀k<4,vk k e.used=iq k e.path s.av):p8 s e=true:=by
 obtain ⟨u,a1,a2,a3⟩:=pH e.path s.av bE.zero Bg ht (fun k hk=>by rw [pz,←h k hk];have:=(J5 hu hk).2;omega)
 unfold p8
 rw [a1]
 simp only [decide_eq_true_eq]
 exact Ws a2 hu fun k hk=>by rw [a3 k hk,pz,h k hk];omega
theorem Br {α:Type}:∀l:List α,(l.map fun _=>0).sum=0
 |[]=>rfl
 |_::l=>by simp only [List.map_cons,List.sum_cons,Br l]
theorem Mb (k:Nat) (p:aH) (j:Jb):∀(K:List aH),K.Nodup→(∀q∈K,q≠[]∧parent q=p)→(K.map fun q=>fZ k q j).sum≤fZ k p j
 |[],_,_=>Nat.zero_le _
 |q::K,hn,hp=>by
  rw [List.nodup_cons] at hn
  have hq:=hp q (by simp)
  by_cases h:j.runs=true∧q∈above j.x.path
  ·have h0:(K.map fun q=>fZ k q j).sum=0:=by
    have:∀r∈K,fZ k r j=0:=fun r hr=>by
     unfold fZ;rw [if_neg];rintro ⟨_,g⟩
     have oN:=hp r (by simp [hr])
     exact hn.1 (by rw [JZ h.2 g hq.1 oN.1 (by rw [hq.2,oN.2])];exact hr)
    rw [List.map_congr_left this,Br]
   have h1:p∈above j.x.path:=by rw [←hq.2];exact J3 h.2
   simp only [List.map_cons,List.sum_cons]
   rw [h0]
   simp [fZ,h,h1]
  simp only [List.map_cons,List.sum_cons]
  rw [show fZ k q j=0 by unfold fZ;rw [if_neg h],Nat.zero_add]
  exact Mb k p j K hn.2 (fun r hr=>hp r (by simp [hr]))
theorem sum_add {α:Type} (f g:α→Nat):∀l:List α,(l.map fun x=>f x+g x).sum=(l.map f).sum+(l.map g).sum
 |[]=>rfl
 |x::l=>by simp only [List.map_cons,List.sum_cons,sum_add f g l];omega
theorem HA (k:Nat) (p:aH) (K:List aH) (hn:K.Nodup) (hp:∀q∈K,q≠[]∧parent q=p):∀(l:List Jb),(K.map fun q=>iq k q l).sum≤iq k p l
 |[]=>by
  have:(K.map fun q=>iq k q []).sum=0:=Br K
  rw [this];exact Nat.zero_le _
 |j::l=>by
  simp only [gZ]
  rw [sum_add]
  exact Nat.add_le_add (Mb k p j K hn hp) (HA k p K hn hp l)
theorem TL {t:List aR} (ha:t.Pairwise (fun x y=>x.path<y.path)) {l:List Jb} {k:Nat} (h:∀e∈t,vk k e.used=iq k e.path l) (p:aH):Bn k (kids p t)≤iq k p l:=by
 have e:Bn k (kids p t)=(((kids p t).map (·.path)).map fun q=>iq k q l).sum:=by
  unfold Bn;rw [List.map_map]
  congr 1
  exact List.map_congr_left fun x hx=>h x (List.mem_filter.1 hx).1
 rw [e]
 refine HA k p _ ?_ ?_ l
 ·rw [List.nodup_iff_pairwise_ne,List.pairwise_map]
  exact (ha.filter _).imp fun h g=>by rw [g] at h;exact kw _ h
 intro q hq
 obtain ⟨x,hx,rfl⟩:=List.mem_map.1 hq
 have:=(List.mem_filter.1 hx).2
 simpa using this
abbrev zA (l:List bK):Prop:=l.Pairwise (fun a b=>bO a b=true)
abbrev Bt (l:List bK):Prop:=l.Pairwise (fun a b=>a.id≠b.id)
theorem iO {a b:bK}:bO a b=true↔b.prio<a.prio∨(a.prio=b.prio∧a.id<b.id):=by simp [bO]
theorem vO {a b c:bK} (h:bO a b=true) (g:bO b c=true):bO a c=true:=by
 rw [iO] at*;omega
theorem Ka {a b:bK} (h:a.id≠b.id) (g:¬bO a b=true):bO b a=true:=by
 rw [iO] at*;omega
theorem QD (l:List bK) (e:bK):vI l e≤l.length∧(∀x∈l.take (vI l e),¬bO e x=true)∧(∀x,l[vI l e]?=some x→bO e x=true):=by
 unfold vI
 cases h:l.findIdx? (fun x=>bO e x) with
 |none=>
  rw [List.findIdx?_eq_none_iff] at h
  refine ⟨Nat.le_refl _,?_,?_⟩
  ·intro x hx;rw [List.take_length] at hx;simp [h x hx]
  intro x hx;simp at hx
 |some k=>
  obtain ⟨hk,hp,hb⟩:=List.findIdx?_eq_some_iff_getElem.1 h
  refine ⟨Nat.le_of_lt hk,?_,?_⟩
  ·intro x hx
   obtain ⟨j,hj⟩:=List.getElem?_of_mem hx
   simp only [List.getElem?_take] at hj
   by_cases g:j<k
   ·rw [if_pos g] at hj
    have:=hb j g
    rw [List.getElem?_eq_getElem (by omega)] at hj
    cases hj;simpa using this
   rw [if_neg g] at hj;cases hj
  intro x hx
  simp only at hx
  rw [List.getElem?_eq_getElem hk] at hx;cases hx;exact hp
theorem HB {l:List bK} (ha:zA l) {e:bK} (hn:∀x∈l,x.id≠e.id):zA (l.take (vI l e)++e::l.drop (vI l e)):=by
 obtain ⟨h1,h2,h3⟩:=QD l e
 have hsp:zA (l.take (vI l e)++l.drop (vI l e)):=by rw [List.take_append_drop];exact ha
 rw [zA,List.pairwise_append] at hsp ⊢
 obtain ⟨a1,a2,a3⟩:=hsp
 have hb:∀x∈l.take (vI l e),bO x e=true:=fun x hx=>Ka (a:=e) (by have:=hn x (List.mem_of_mem_take hx);exact fun g=>this g.symm) (h2 x hx)
 have hc:∀x∈l.drop (vI l e),bO e x=true:=by
  cases hd:l.drop (vI l e) with
  |nil=>intro x hx;cases hx
  |cons y r=>
   have hy:l[vI l e]?=some y:=by
    have:(l.drop (vI l e))[0]?=some y:=by rw [hd];rfl
    rw [List.getElem?_drop,Nat.add_zero] at this;exact this
   have g:=h3 y hy
   intro x hx
   rcases List.mem_cons.1 hx with rfl|hx
   ·exact g
   rw [hd,List.pairwise_cons] at a2
   exact vO g (a2.1 x hx)
 refine ⟨a1,List.pairwise_cons.2 ⟨hc,a2⟩,?_⟩
 intro x hx y hy
 rcases List.mem_cons.1 hy with rfl|hy
 ·exact hb x hx
 exact a3 x hx y hy
theorem HC {l:List bK} {k:Nat} {x y:bK}:y∈l.take k++x::l.drop k↔y∈l∨y=x:=by
 conv=>rhs;rw [←List.take_append_drop k l]
 simp only [List.mem_append,List.mem_cons]
 constructor
 ·rintro (h|h|h)
  ·exact .inl (.inl h)
  ·exact .inr h
  exact .inl (.inr h)
 rintro ((h|h)|h)
 ·exact .inl h
 ·exact .inr (.inr h)
 exact .inr (.inl h)
theorem HD {l:List bK} (hi:Bt l) {e:bK} (hn:∀x∈l,x.id≠e.id) (k:Nat):Bt (l.take k++e::l.drop k):=by
 have hsp:Bt (l.take k++l.drop k):=by rw [List.take_append_drop];exact hi
 rw [Bt,List.pairwise_append] at hsp ⊢
 obtain ⟨a1,a2,a3⟩:=hsp
 refine ⟨a1,List.pairwise_cons.2 ⟨fun x hx=>fun g=>hn x (List.mem_of_mem_drop hx) g.symm,a2⟩,?_⟩
 intro x hx y hy
 rcases List.mem_cons.1 hy with rfl|hy
 ·exact hn x (List.mem_of_mem_take hx)
 exact a3 x hx y hy
theorem Kb {l:List bK} {id:Int} (h:0≤iN l id):∃x∈l,x.id=id:=by
 rcases cD (rfl:iN l id=idxOf _ l) with ⟨h1,_⟩|⟨i,x,h1,_,h3,h4,_⟩
 ·omega
 exact ⟨x,List.mem_of_getElem? h3,by simpa using h4⟩
theorem rC (l:List bK) (e:bK):((jZ l e).1=l∧(jZ l e).2≠0∧(gS e=true∨(∃x∈l,x.id=e.id)∨32≤l.length))∨
 (jZ l e=(l.take (vI l e)++e::l.drop (vI l e),0)∧gS e=false∧(∀x∈l,x.id≠e.id)∧l.length<32):=by
 unfold jZ
 cases h1:gS e with
 |true=>exact .inl ⟨rfl,by simp,.inl rfl⟩
 |false=>
  simp only [Bool.false_eq_true,if_false]
  by_cases h2:0≤iN l e.id
  ·rw [if_pos h2];exact .inl ⟨rfl,by simp,.inr (.inl (Kb h2))⟩
  rw [if_neg h2]
  by_cases h3:32≤l.length
  ·rw [if_pos h3];exact .inl ⟨rfl,by simp,.inr (.inr h3)⟩
  rw [if_neg h3]
  refine .inr ⟨rfl,by trivial,?_,by omega⟩
  intro x hx g
  refine h2 ?_
  rcases cD (rfl:iN l e.id=idxOf _ l) with ⟨_,h4,_⟩|⟨i,x,h4,_⟩
  ·rw [List.findIdx?_eq_none_iff] at h4;have:=h4 x hx;simp [g] at this
  omega
theorem erase_filter {l:List bK} (hi:Bt l) {k:Nat} {x:bK} (hx:l[k]?=some x):l.eraseIdx k=l.filter fun y=>!decide (y.id=x.id):=by
 induction l generalizing k with
 |nil=>simp at hx
 |cons y r ih=>
  rw [Bt,List.pairwise_cons] at hi
  cases k with
  |zero=>
   simp at hx;subst hx
   have:r.filter (fun z=>!decide (z.id=y.id))=r:=by
    rw [List.filter_eq_self];intro z hz;have:=hi.1 z hz;simp;exact fun g=>this g.symm
   simp [this]
  |succ k=>
   simp only [List.getElem?_cons_succ] at hx
   have hne:=hi.1 x (List.mem_of_getElem? hx)
   rw [List.eraseIdx_cons_succ,ih hi.2 hx]
   simp [hne]
theorem lU {l:List bK} (hi:Bt l) (id:Int):(Bd l id).1=l.filter fun y=>!decide (y.id=id):=by
 unfold Bd
 cases h:l.findIdx? (fun x=>decide (x.id=id)) with
 |none=>
  rw [List.findIdx?_eq_none_iff] at h
  exact (List.filter_eq_self.2 fun x hx=>by simp [h x hx]).symm
 |some k=>
  obtain ⟨hk,hp,_⟩:=List.findIdx?_eq_some_iff_getElem.1 h
  simp only [decide_eq_true_eq] at hp
  show l.eraseIdx k=_
  rw [erase_filter hi (List.getElem?_eq_getElem hk),hp]
theorem No {l:List bK} (hi:Bt l) {k:Nat} {x:bK} (hx:l[k]?=some x):iN l x.id=k:=by
 rcases cD (rfl:iN l x.id=idxOf _ l) with ⟨_,h2,_⟩|⟨i,y,h1,_,h3,h4,_⟩
 ·rw [List.findIdx?_eq_none_iff] at h2;have:=h2 x (List.mem_of_getElem? hx);simp at this
 rw [h1]
 simp only [decide_eq_true_eq] at h4
 obtain ⟨g1,rfl⟩:=List.getElem?_eq_some_iff.1 hx
 obtain ⟨g2,rfl⟩:=List.getElem?_eq_some_iff.1 h3
 rcases Nat.lt_trichotomy i k with g|g|g
 ·exact absurd h4 (List.pairwise_iff_getElem.1 hi i k g2 g1 g)
 ·rw [g]
 exact absurd h4.symm (List.pairwise_iff_getElem.1 hi k i g1 g2 g)
theorem Bu {all:List bK} (hi:Bt all) (hw:∀q∈all,gS q=false):∀(r:List bK) (k:Nat) (q:Option bK),all.drop k=r→zA r→(∀p,q=some p→∀x∈r,bO p x=true)→jJ all q k r=true
 |[],_,_,_,_,_=>rfl
 |e::r,k,q,hd,ha,hq=>by
  rw [zA,List.pairwise_cons] at ha
  have he:all[k]?=some e:=by
   have:(all.drop k)[0]?=some e:=by rw [hd];rfl
   rw [List.getElem?_drop,Nat.add_zero] at this;exact this
  have h1:=hw e (List.mem_of_getElem? he)
  have h2:=No hi he
  have h3:Nc q e=true:=by
   cases q with
   |none=>rfl
   |some p=>exact hq p rfl e (by simp)
  have h4:all.drop (k+1)=r:=by rw [←List.drop_drop,hd];rfl
  unfold jJ
  rw [h1,h2,h3,Bu hi hw r (k+1) (some e) h4 ha.2 (fun p hp x hx=>by cases hp;exact ha.1 x hx)]
  simp
theorem Np {l:List bK} (hi:Bt l) (ha:zA l) (hw:∀q∈l,gS q=false) (hl:l.length≤32):nE l=true:=by
 unfold nE
 rw [Bu hi hw l 0 none (by simp) ha (fun p hp=>by cases hp)]
 simpa using hl
theorem ur (m:List ej) (j c i:Int):fF (eC m j c) i=if i=j then c else fF m i:=by
 induction m with
 |nil=>
  simp only [eC,fF,List.find?_cons,List.find?_nil]
  by_cases h:i=j
  ·simp [h]
  have:¬j=i:=fun g=>h g.symm
  simp [h,this]
 |cons x m ih=>
  unfold fF at ih ⊢
  simp only [eC]
  by_cases h:j=x.bu
  ·simp only [if_pos h,List.find?_cons]
   by_cases g:i=j
   ·subst g;simp
   have h2:¬j=i:=fun e=>g e.symm
   have h3:¬x.bu=i:=fun e=>g (by rw [h,e])
   simp [g,h2,h3]
  simp only [if_neg h,List.find?_cons]
  by_cases g:x.bu=i
  ·have:¬i=j:=fun e=>h (by rw [←e,g])
   simp [g,this]
  simp only [g,decide_false]
  exact ih
theorem pJ {m:List ej} (h:(m.map ej.bu).Nodup) (j c:Int):((eC m j c).map ej.bu).Nodup:=by
 rw [gm];split
 ·exact h
 rename_i g
 rw [List.nodup_append]
 exact ⟨h,by simp,fun a ha b hb e=>g (by simp at hb;rw [←hb,←e];exact ha)⟩
theorem Kc {m:List ej} (h:(m.map ej.bu).Nodup) {x:ej} (hx:x∈m):fF m x.bu=x.cnt:=by
 induction m with
 |nil=>cases hx
 |cons y m ih=>
  rw [List.map_cons,List.nodup_cons] at h
  unfold fF at ih ⊢
  rw [List.find?_cons]
  rcases List.mem_cons.1 hx with rfl|hx
  ·simp
  have:¬y.bu=x.bu:=fun g=>h.1 (by rw [g];exact List.mem_map_of_mem hx)
  simp only [this,decide_false]
  exact ih h.2 hx
abbrev sZ (id:Int) (ps:List Place):Nat:=(ps.filter fun x=>decide (x.bu=id)).length
theorem HE (id:Int) (x:Place) (ps:List Place):sZ id (x::ps)=(if x.bu=id then 1 else 0)+sZ id ps:=by
 unfold sZ
 rw [List.filter_cons]
 by_cases h:x.bu=id
 ·simp [h];omega
 simp [h]
theorem vP (id:Int):∀(l:List Jb) (m:List ej),(l.Pairwise fun a b=>a.id<b.id)→(m.map ej.bu).Nodup→
 ((l.foldl (fun m j=>if j.runs then eC m j.id j.x.count else m) m).map ej.bu).Nodup∧
 fF (l.foldl (fun m j=>if j.runs then eC m j.id j.x.count else m) m) id=(match l.find? (fun j=>decide (j.id=id)&&j.runs) with|some j=>j.x.count|none=>fF m id)
 |[],m,_,h=>⟨h,rfl⟩
 |j::l,m,ha,h=>by
  rw [List.pairwise_cons] at ha
  rw [List.foldl_cons]
  by_cases hr:j.runs=true
  ·rw [if_pos hr]
   obtain ⟨a1,a2⟩:=vP id l (eC m j.id j.x.count) ha.2 (pJ h _ _)
   refine ⟨a1,?_⟩
   rw [a2,List.find?_cons]
   by_cases g:j.id=id
   ·have hno:l.find? (fun j=>decide (j.id=id)&&j.runs)=none:=by
     rw [List.find?_eq_none];intro x hx;have:=ha.1 x hx
     simp;intro e;omega
    rw [hno,ur]
    simp [g,hr]
   simp only [g,decide_false,Bool.false_and]
   cases l.find? (fun j=>decide (j.id=id)&&j.runs) with
   |some j=>rfl
   |none=>simp only;rw [ur,if_neg (fun e=>g e.symm)]
  rw [if_neg hr]
  obtain ⟨a1,a2⟩:=vP id l m ha.2 h
  refine ⟨a1,?_⟩
  rw [a2,List.find?_cons]
  simp [hr]
theorem vQ {l:List Jb}:∀(ps:List Place) (m:List ej),(m.map ej.bu).Nodup→(∀x∈ps,x.v=(bC l x.bu).1.x.gB)→(∀id,fF m id=(sZ id ps:Int))→
 ∃m',gY l ps m=some m'∧m'.all (fun x=>decide (x.cnt=0))=true
 |[],m,hn,_,hc=>⟨m,rfl,by
  rw [List.all_eq_true];intro x hx
  have:=hc x.bu;rw [Kc hn hx] at this;simpa [sZ] using this⟩
 |x::ps,m,hn,hv,hc=>by
  have h1:=hc x.bu
  rw [HE,if_pos rfl] at h1
  unfold gY
  rw [if_neg (by omega),if_neg (by have:=hv x (by simp);simp [this])]
  refine vQ ps _ (pJ hn _ _) (fun y hy=>hv y (by simp [hy])) fun id=>?_
  rw [ur]
  have h2:=hc id
  rw [HE] at h2
  by_cases g:id=x.bu
  ·subst g;rw [if_pos rfl];omega
  rw [if_neg g,h2,if_neg (fun e=>g e.symm)];omega
theorem yR (l:List Node) (bu:Int) (v:bE):∀(names:List aH) (ps:List Place),(gu l bu v names ps).1=none→(gu l bu v names ps).2=ps++names.map (fun n=>⟨bu,n,v⟩)∧∀n∈names,(eF n l).2=true∧(eF n l).1.up=true
 |[],ps,_=>by simp [gu]
 |n::r,ps,g=>by
  unfold gu at g ⊢
  split
  ·rename_i h1;rw [if_pos h1] at g;cases g
  rename_i h1
  rw [if_neg h1] at g
  obtain ⟨a,b⟩:=yR l bu v r _ g
  refine ⟨by rw [a];simp,?_⟩
  intro m hm
  rcases List.mem_cons.1 hm with rfl|hm
  ·have h0:pY m v l ps=0:=by omega
   exact ⟨(um h0).1,(um h0).2.1⟩
  exact b m hm
theorem yS (l:List Node) (bu:Int) (v:bE):∀(names:List aH) (ps:List Place) (e:Int),(gu l bu v names ps).1=some e→e≠0
 |[],ps,e,g=>by cases g
 |n::r,ps,e,g=>by
  unfold gu at g
  split at g
  ·cases g;assumption
  exact yS l bu v r _ e g
theorem Bv (p:cB) (bu:Int) (names:List aH) (v:bE):((xk p bu names v).1=p∧(xk p bu names v).2≠0)∨
 ((xk p bu names v)=(⟨p.nodes,p.places++names.map (fun n=>⟨bu,n,v⟩)⟩,0)∧∀n∈names,(eF n p.nodes).2=true∧(eF n p.nodes).1.up=true):=by
 unfold xk
 split
 ·rename_i e he;exact .inl ⟨rfl,yS _ _ _ _ _ _ he⟩
 rename_i he
 obtain ⟨a,b⟩:=yR _ _ _ _ _ he
 exact .inr ⟨by rw [a],b⟩
theorem HF {p:cB} (h:p.ok) (hw:p.w) (bu:Int):(ry p bu).ok∧(ry p bu).w:=⟨TD h hw _,Wo hw _⟩
theorem HG (p:cB) (ha:JS p.nodes) (name:aH) (up:Bool):((fK p name up)=(p,7)∧(eF name p.nodes).2=false)∨
 (∃i x,p.nodes[i]?=some x∧x.name=name∧eF name p.nodes=(x,true)∧((x.up=up∧fK p name up=(p,15))∨(x.up=!up∧fK p name up=(⟨p.nodes.set i {x with up:=up},p.places⟩,0)))):=by
 rcases cD (p:=fun x:Node=>decide (x.name=name)) (l:=p.nodes) rfl with ⟨_,h1,h2⟩|⟨i,x,_,hi,hx,hp,h1,h2⟩
 ·refine .inl ⟨by unfold fK;rw [h1,h2],by unfold eF;rw [h2]⟩
 simp only [decide_eq_true_eq] at hp
 refine .inr ⟨i,x,hx,hp,by unfold eF;rw [h2],?_⟩
 by_cases hu:x.up=up
 ·exact .inl ⟨hu,by unfold fK;rw [h1,h2];simp [hu]⟩
 refine .inr ⟨by cases h:x.up<;>cases up<;>simp_all,by unfold fK;rw [h1,h2];simp [hu]⟩
def gv (p:cB):List bM:=p.nodes.filterMap (oa p.nodes p.places)
theorem dZ {x:Ask}:dY x=0↔nF x.path x.path=true∧(1≤x.count∧x.count≤8)∧(0≤x.prio∧x.prio≤9)∧(1≤x.eZ∧x.eZ≤100)∧Bc x.bY=true∧(c8 x).2=true:=by
 unfold dY
 have e:(!Sw x.count 1 8||!Sw x.prio 0 9||!Sw x.eZ 1 100)=!decide ((1≤x.count∧x.count≤8)∧(0≤x.prio∧x.prio≤9)∧(1≤x.eZ∧x.eZ≤100)):=by
  unfold Sw
  by_cases h1:1≤x.count<;>by_cases h2:x.count≤8<;>by_cases h3:0≤x.prio<;>by_cases h4:x.prio≤9<;>by_cases h5:1≤x.eZ<;>by_cases h6:x.eZ≤100<;>simp [h1,h2,h3,h4,h5,h6]
 rw [e]
 by_cases h1:nF x.path x.path=true
 ·by_cases h2:(1≤x.count∧x.count≤8)∧(0≤x.prio∧x.prio≤9)∧(1≤x.eZ∧x.eZ≤100)
  ·by_cases h3:Bc x.bY=true
   ·by_cases h4:(c8 x).2=true
    ·simp [h1,h2,h3,h4]
    simp [h1,h2,h3,h4]
   simp [h1,h2,h3]
  simp only [h2,decide_false]
  simp only [h1,Bool.not_true,Bool.false_eq_true,if_false,Bool.not_false,if_true]
  constructor
  ·intro h;cases h
  rintro ⟨_,a,b,c,_⟩;exact absurd ⟨a,b,c⟩ h2
 simp [h1]
theorem Bw {t:List aR} {q:aH}:(ru t q).2=true↔∃e∈t,e.path=q:=by
 unfold ru
 cases h:t.find? (fun e=>decide (e.path=q)) with
 |none=>
  rw [List.find?_eq_none] at h
  constructor
  ·intro g;cases g
  rintro ⟨e,he,g⟩;have:=h e he;simp [g] at this
 |some e=>
  have h1:=List.find?_some h
  exact ⟨fun _=>⟨e,List.mem_of_find?_eq_some h,by simpa using h1⟩,fun _=>rfl⟩
theorem Bx {t:List aR} {p:aH}:gV t p=true↔∀q∈above p,∃e∈t,e.path=q:=by
 unfold gV
 rw [Bool.not_eq_true',List.any_eq_false]
 simp only [List.mem_append,List.mem_singleton]
 constructor
 ·intro h q hq
  have:=h q (by rcases List.mem_cons.1 hq with g|g;exact .inr g;exact .inl g)
  exact Bw.1 (by simpa using this)
 intro h q hq
 have:=Bw.2 (h q (by rcases hq with g|g;exact List.mem_cons_of_mem _ g;rw [g];exact DH p))
 simp [this]
theorem jM {t u:List aR} (h:bW t u) {p:aH} (hs:gV t p=true):gV u p=true:=by
 rw [Bx] at hs ⊢
 intro q hq
 obtain ⟨e,he,rfl⟩:=hs q hq
 exact h.mem he
abbrev tc (l:List Jb):Prop:=l.Pairwise (fun a b=>a.id<b.id)
theorem vR {l:List Jb} (ha:tc l) {i k:Nat} {x y:Jb} (hx:l[i]?=some x) (hy:l[k]?=some y) (e:x.id=y.id):i=k:=by
 obtain ⟨hi,rfl⟩:=List.getElem?_eq_some_iff.1 hx
 obtain ⟨hk,rfl⟩:=List.getElem?_eq_some_iff.1 hy
 rcases Nat.lt_trichotomy i k with g|g|g
 ·have:=List.pairwise_iff_getElem.1 ha i k hi hk g;omega
 ·exact g
 have:=List.pairwise_iff_getElem.1 ha k i hk hi g;omega
theorem dh {l:List Jb} (ha:tc l) {x y:Jb} (hx:x∈l) (hy:y∈l) (e:x.id=y.id):x=y:=by
 obtain ⟨i,hi⟩:=List.getElem?_of_mem hx
 obtain ⟨j,hj⟩:=List.getElem?_of_mem hy
 have:=vR ha hi hj e
 subst this;rw [hi] at hj;exact Option.some.inj hj
theorem By {l:List Jb} (ha:tc l) {k:Nat} {j x:Jb} (hj:l[k]?=some j) {y:Jb}:y∈l.set k x↔y=x∨(y∈l∧y.id≠j.id):=by
 have hk:=(List.getElem?_eq_some_iff.1 hj).1
 constructor
 ·intro h
  obtain ⟨i,hi⟩:=List.getElem?_of_mem h
  by_cases e:k=i
  ·subst e;rw [List.getElem?_set_self hk] at hi;cases hi;exact .inl rfl
  rw [List.getElem?_set_ne e] at hi
  exact .inr ⟨List.mem_of_getElem? hi,fun g=>e (vR ha hj hi g.symm)⟩
 rintro (rfl|⟨h,g⟩)
 ·exact List.mem_of_getElem? (List.getElem?_set_self hk)
 obtain ⟨i,hi⟩:=List.getElem?_of_mem h
 have e:k≠i:=by rintro rfl;rw [hi] at hj;cases hj;exact g rfl
 exact List.mem_of_getElem? (i:=i) (by rw [List.getElem?_set_ne e];exact hi)
theorem QE {l:List Jb} (ha:tc l) {k:Nat} {j:Jb} (hj:l[k]?=some j):l.eraseIdx k=l.filter fun y=>!decide (y.id=j.id):=by
 induction l generalizing k with
 |nil=>simp at hj
 |cons y r ih=>
  rw [tc,List.pairwise_cons] at ha
  cases k with
  |zero=>
   simp at hj;subst hj
   have:r.filter (fun z=>!decide (z.id=y.id))=r:=by
    rw [List.filter_eq_self];intro z hz;have:=ha.1 z hz;simp;omega
   simp [this]
  |succ k=>
   simp only [List.getElem?_cons_succ] at hj
   have hne:¬y.id=j.id:=by have:=ha.1 j (List.mem_of_getElem? hj);omega
   rw [List.eraseIdx_cons_succ,ih ha.2 hj]
   simp [hne]
theorem Ke {l:List Jb} (ha:tc l) {k:Nat} {j:Jb} (hj:l[k]?=some j) {y:Jb}:y∈l.eraseIdx k↔y∈l∧y.id≠j.id:=by
 rw [QE ha hj,List.mem_filter];simp
theorem vS {l:List Jb} (ha:tc l) {k:Nat} {j x:Jb} (hj:l[k]?=some j) (e:x.id=j.id):tc (l.set k x):=by
 have h1:(l.set k x).map (·.id)=l.map (·.id):=by
  rw [List.map_set,e]
  have hk:=(List.getElem?_eq_some_iff.1 hj).1
  refine List.ext_getElem? fun i=>?_
  by_cases g:k=i
  ·subst g;rw [List.getElem?_set_self (by simpa using hk),List.getElem?_map,hj];rfl
  rw [List.getElem?_set_ne g]
 have h2:(l.map (·.id)).Pairwise (·<·):=List.pairwise_map.2 ha
 rw [←h1] at h2
 exact List.pairwise_map.1 h2
theorem vT (k:Nat) (p:aH):∀{l:List Jb} {i:Nat} {j:Jb} (x:Jb),l[i]?=some j→iq k p (l.set i x)+fZ k p j=iq k p l+fZ k p x
 |[],_,_,_,h=>by simp at h
 |y::r,0,j,x,h=>by simp at h;subst h;simp only [List.set_cons_zero,gZ];omega
 |y::r,i+1,j,x,h=>by
  simp only [List.getElem?_cons_succ] at h
  have:=vT k p x h
  simp only [List.set_cons_succ,gZ];omega
theorem uu (k:Nat) (p:aH):∀{l:List Jb} {i:Nat} {j:Jb},l[i]?=some j→iq k p (l.eraseIdx i)+fZ k p j=iq k p l
 |[],_,_,h=>by simp at h
 |y::r,0,j,h=>by simp at h;subst h;simp only [List.eraseIdx_cons_zero,gZ];omega
 |y::r,i+1,j,h=>by
  simp only [List.getElem?_cons_succ] at h
  have:=uu k p h
  simp only [List.eraseIdx_cons_succ,gZ];omega
theorem Nq (k:Nat) (p:aH) (l:List Jb) (x:Jb):iq k p (l++[x])=iq k p l+fZ k p x:=by simp [iq]
theorem TM (k:Nat) (p:aH) {l:List Jb} {j:Jb} (h:j∈l):fZ k p j≤iq k p l:=by
 induction l with
 |nil=>cases h
 |cons y r ih=>
  rw [gZ]
  rcases List.mem_cons.1 h with rfl|h
  ·omega
  have:=ih h;omega
theorem nH {l:List Jb} {id:Int} {k:Nat} (h:l.findIdx? (fun j=>decide (j.id=id))=some k):∃j,l[k]?=some j∧j.id=id∧l.getD k Jb.zero=j:=by
 obtain ⟨hk,hp,_⟩:=List.findIdx?_eq_some_iff_getElem.1 h
 refine ⟨l[k],List.getElem?_eq_getElem hk,by simpa using hp,?_⟩
 rw [List.getD_eq_getElem?_getD,List.getElem?_eq_getElem hk];rfl
structure aW.ok (s:aW):Prop where
 aY:s.aY.ok
 ie:s.aY.w
 tree:Tree.ok s.tree
 used:∀e∈s.tree,∀k<4,vk k e.used=iq k e.path s.av
 most:s.av.length≤32
 next:1≤s.next∧s.next<18446744073709551616
 ids:tc s.av
 vU:∀j∈s.av,1≤j.id∧j.id<s.next
 sN:∀j∈s.av,dY j.x=0∧j.x.gB.w∧gV s.tree j.x.path=true
 left:∀j∈s.av,(j.runs=true→1≤j.left∧j.left≤j.x.eZ)∧(j.runs=false→j.left=0)
 kC:zA s.queue
 kY:Bt s.queue
 iP:∀q,q∈s.queue↔∃j∈s.av,j.runs=false∧q=⟨j.id,j.x.prio⟩
 places:∀x∈s.aY.places,∃j∈s.av,j.runs=true∧j.id=x.bu∧x.v=j.x.gB
 count:∀j∈s.av,j.runs=true→(sZ j.id s.aY.places:Int)=j.x.count
 notes:s.ev.l.length≤32∧s.au.l.length≤32
theorem Kf {l:List Jb} (ha:tc l) (f:Jb→bK) (hf:∀j,(f j).id=j.id):(l.map f).Nodup:=by
 rw [List.nodup_iff_pairwise_ne,List.pairwise_map]
 exact ha.imp fun {a b} h e=>by have:=congrArg bK.id e;rw [hf,hf] at this;omega
theorem aW.ok.Wt {s:aW} (h:s.ok):s.queue.length=ij s.av:=by
 have h1:(((s.av.filter fun j=>!j.runs).map fun j=>(⟨j.id,j.x.prio⟩:bK))).Nodup:=Kf (h.ids.filter _) _ (fun _=>rfl)
 have h2:s.queue.Nodup:=by rw [List.nodup_iff_pairwise_ne];exact h.kY.imp fun {a b} g e=>g (by rw [e])
 have:=((List.perm_ext_iff_of_nodup h2 h1).2 fun q=>by
  rw [h.iP q,List.mem_map]
  constructor
  ·rintro ⟨j,a,b,c⟩;exact ⟨j,List.mem_filter.2 ⟨a,by simp [b]⟩,c.symm⟩
  rintro ⟨j,a,c⟩;obtain ⟨a1,a2⟩:=List.mem_filter.1 a;exact ⟨j,a1,by simpa using a2,c.symm⟩).length_eq
 rw [this,lgM];rfl
theorem HH {s:aW} (h:s.ok):∀(r:List Jb) (q:Option Int),(∀j∈r,j∈s.av)→tc r→(∀p,q=some p→∀j∈r,p<j.id)→mH s q r=true
 |[],_,_,_,_=>rfl
 |j::r,q,hm,ha,hq=>by
  rw [tc,List.pairwise_cons] at ha
  have hj:=hm j (by simp)
  obtain ⟨a1,a2⟩:=h.vU j hj
  obtain ⟨b1,_,b3⟩:=h.sN j hj
  have key:(if j.runs then decide (1≤j.left)&&decide (j.left≤j.x.eZ) else decide (j.left=0)&&s.queue.contains ⟨j.id,j.x.prio⟩)=true:=by
   obtain ⟨c1,c2⟩:=h.left j hj
   cases hr:j.runs with
   |true=>have:=c1 hr;simp;exact this
   |false=>
    have hc:s.queue.contains ⟨j.id,j.x.prio⟩=true:=by rw [List.contains_iff_mem];exact (h.iP _).2 ⟨j,hj,hr,rfl⟩
    simp only [Bool.false_eq_true,if_false,hc,c2 hr];simp
  have h1:Sx s q j=true:=by
   unfold Sx
   cases q with
   |none=>rw [if_neg (by omega),if_neg (by omega),if_neg (by simp),if_neg (by simp [b1]),b3,if_neg (by simp),key]
   |some p=>rw [if_neg (by omega),if_neg (by omega),if_neg (by have:=hq p rfl j (by simp);simp;omega),if_neg (by simp [b1]),b3,if_neg (by simp),key]
  unfold mH
  rw [h1,HH h r (some j.id) (fun x hx=>hm x (by simp [hx])) ha.2 (fun p hp x hx=>by cases hp;exact ha.1 x hx)];rfl
theorem aW.ok.right {s:aW} (h:s.ok):kL s=true:=by
 have h1:ph s.aY=true:=JT.2 h.aY
 have h2:ku s.tree=true:=J9 h.tree fun e he k hk=>by
  rw [h.used e he k hk];exact TL h.tree.zN (fun x hx=>h.used x hx k hk) e.path
 have hq:=h.Wt
 have hw:ij s.av≤s.av.length:=List.length_filter_le _ _
 have hm:=h.most
 have h3:nE s.queue=true:=by
  refine Np h.kY h.kC ?_ (by omega)
  intro q hq
  obtain ⟨j,hj,_,rfl⟩:=(h.iP q).1 hq
  obtain ⟨_,_,hp,_⟩:=dZ.1 (h.sN j hj).1
  simp [gS];omega
 have h4:mH s none s.av=true:=HH h s.av none (fun j hj=>hj) h.ids (fun p hp=>by cases hp)
 have h5:lT s=true:=by
  have hn:=vP 0 s.av [] h.ids (by simp)
  obtain ⟨m,a1,a2⟩:=vQ (l:=s.av) s.aY.places (jL s.av) hn.1 (fun x hx=>by
   obtain ⟨j,hj,_,g2,g3⟩:=h.places x hx
   have:(bC s.av x.bu).1=j:=by
    unfold bC
    cases hf:s.av.find? (fun j=>decide (j.id=x.bu)) with
    |none=>rw [List.find?_eq_none] at hf;have:=hf j hj;simp [g2] at this
    |some y=>
     have e:=List.find?_some hf
     simp only [decide_eq_true_eq] at e
     exact dh h.ids (List.mem_of_find?_eq_some hf) hj (by rw [e,g2])
   rw [this,g3]) (fun id=>by
   rw [jL,(vP id s.av [] h.ids (by simp)).2]
   cases hf:s.av.find? (fun j=>decide (j.id=id)&&j.runs) with
   |some j=>
    have e:=List.find?_some hf
    simp only [Bool.and_eq_true,decide_eq_true_eq] at e
    have hj:=List.mem_of_find?_eq_some hf
    have:=h.count j hj e.2
    rw [e.1] at this
    exact this.symm
   |none=>
    rw [List.find?_eq_none] at hf
    have:sZ id s.aY.places=0:=by
     unfold sZ
     rw [List.length_eq_zero_iff,List.filter_eq_nil_iff]
     intro x hx g
     obtain ⟨j,hj,g1,g2,_⟩:=h.places x hx
     have:=hf j hj
     simp only [decide_eq_true_eq] at g
     simp [g2,g,g1] at this
    rw [this];rfl)
  unfold lT;rw [a1];exact a2
 have h6:(s.tree.any fun e=>!p8 s e)=false:=by
  rw [List.any_eq_false];intro e he
  rw [QC (h.tree.w e he).2 (fun j hj _=>(dZ.1 (h.sN j hj).1).2.2.2.2.2) (h.used e he)];simp
 have h7:=h.notes
 have h8:=h.next
 unfold kL
 rw [h1,h2,h3,h4,h5,h6]
 simp only [Bool.not_true,Bool.false_eq_true,if_false]
 rw [if_neg (by omega),if_neg (by omega),if_neg (by omega)]
 simp [hq]
theorem QF {x:CH} (h:x.l.length≤32) (n:dc):(tell x n).l.length≤32:=by
 unfold tell
 by_cases g:32<(x.l++[n]).length
 ·rw [if_pos g];simp;omega
 rw [if_neg g];simp only at*;omega
theorem aW.ok.event {s:aW} (h:s.ok) (id kind:Int):(jK s id kind).ok:=
 {h with notes:=⟨QF h.notes.1 _,h.notes.2⟩}
theorem Nr {x:Ask} (h:dY x=0) (id:Int):gS ⟨id,x.prio⟩=false:=by
 obtain ⟨_,_,hp,_⟩:=dZ.1 h
 simp [gS];omega
theorem Kg {x:Ask} (h:dY x=0):named x.path=true:=by
 unfold named;rw [(dZ.1 h).1];simp
theorem aW.ok.cY {s:aW} (h:s.ok) {x:Ask} (hx:x.gB.w):(cY s x).1.ok:=by
 unfold Dem.cY
 by_cases h1:dY x≠0
 ·rw [if_pos h1];exact h
 rw [if_neg h1];simp only [Decidable.not_not] at h1
 by_cases h2:(!gV s.tree x.path)=true
 ·rw [if_pos h2];exact h
 rw [if_neg h2]
 by_cases h3:32≤s.av.length∨s.next=18446744073709551615
 ·rw [if_pos h3];exact h
 rw [if_neg h3]
 have hnx:=h.next
 rcases rC s.queue ⟨s.next,x.prio⟩ with ⟨_,e2,_⟩|⟨e,_,hno,_⟩
 ·rw [if_pos e2];exact h
 rw [e]
 rw [if_neg (by simp)]
 have hu:u64 (s.next+1)=s.next+1:=by unfold u64;omega
 have hn:fZ=fZ:=rfl
 refine aW.ok.event (s:=⟨s.round,u64 (s.next+1),s.aY,s.tree,s.av++[⟨s.next,x,false,0⟩],_,s.ev,s.au⟩) ?_ _ _
 rw [hu]
 have hm:∀j,j∈s.av++[(⟨s.next,x,false,0⟩:Jb)]↔j∈s.av∨j=⟨s.next,x,false,0⟩:=fun j=>by simp
 exact {
  aY:=h.aY,ie:=h.ie,tree:=h.tree,notes:=h.notes
  used:=fun e he k hk=>by rw [h.used e he k hk];simp only [Nq];simp [fZ]
  most:=by simp only [List.length_append,List.length_singleton];omega
  next:=by simp only;omega
  ids:=by
   rw [tc,List.pairwise_append]
   refine ⟨h.ids,by simp,fun a ha b hb=>?_⟩
   simp at hb;subst hb;exact (h.vU a ha).2
  vU:=fun j hj=>by
   rcases (hm j).1 hj with g|rfl
   ·have:=h.vU j g;simp only;omega
   simp only;omega
  sN:=fun j hj=>by
   rcases (hm j).1 hj with g|rfl
   ·exact h.sN j g
   exact ⟨h1,hx,by simpa using h2⟩
  left:=fun j hj=>by
   rcases (hm j).1 hj with g|rfl
   ·exact h.left j g
   exact ⟨fun g=>(by cases g),fun _=>rfl⟩
  kC:=HB h.kC hno
  kY:=HD h.kY hno _
  iP:=fun q=>by
   show q∈List.take _ s.queue++_::List.drop _ s.queue↔_
   rw [HC,h.iP q]
   constructor
   ·rintro (⟨j,a,b,c⟩|rfl)
    ·exact ⟨j,(hm j).2 (.inl a),b,c⟩
    exact ⟨_,(hm _).2 (.inr rfl),rfl,rfl⟩
   rintro ⟨j,a,b,c⟩
   rcases (hm j).1 a with g|rfl
   ·exact .inl ⟨j,g,b,c⟩
   exact .inr c
  places:=fun y hy=>by
   obtain ⟨j,a,b⟩:=h.places y hy
   exact ⟨j,(hm j).2 (.inl a),b⟩
  count:=fun j hj hr=>by
   rcases (hm j).1 hj with g|rfl
   ·exact h.count j g hr
   cases hr}
theorem DI {s:aW} (h:s.ok) {p:aH} {v:bE} (hc:(dy s.tree p v).2=0):
 Tree.ok (dy s.tree p v).1∧bW s.tree (dy s.tree p v).1∧∀e∈(dy s.tree p v).1,∀k<4,vk k e.used=iq k e.path s.av+if e.path∈above p then vk k v else 0:=by
 unfold dy at*
 rcases rB (fL v) h.tree.zN p with ⟨_,e2,_⟩|⟨e,_,_,hf⟩
 ·exact absurd hc e2
 rw [e]
 have hk:bW s.tree (vL (fL v) (above p) s.tree):=Bq fun e he hp=>by rw [yP (hf e he hp)];exact ⟨rfl,rfl⟩
 have hv:∀x∈vL (fL v) (above p) s.tree,x.used.w∧(∀k<4,vk k x.used≤vk k x.dD)∧∀k<4,vk k x.used=iq k x.path s.av+if x.path∈above p then vk k v else 0:=by
  intro x hx
  obtain ⟨e,he,rfl⟩:=List.mem_map.1 hx
  by_cases hp:e.path∈above p
  ·rw [if_pos hp]
   have h0:=hf e he hp
   obtain ⟨c1,c2⟩:=pG.1 h0
   rw [yP h0]
   refine ⟨J7 c1,mI.1 c2,fun k hk=>?_⟩
   simp only
   rw [pE c1 hk,h.used e he k hk,if_pos hp]
  rw [if_neg hp]
  exact ⟨(h.tree.w e he).2,h.tree.fits e he,fun k hk=>by rw [h.used e he k hk,if_neg hp];rfl⟩
 exact ⟨hk.ok h.tree (fun e he=>(hv e he).2.1) (fun e he=>(hv e he).1),hk,fun e he=>(hv e he).2.2⟩
theorem oo {s:aW} (h:s.ok) {i:Nat} {j:Jb} (hj:s.av[i]?=some j) (hr:j.runs=true):
 sJ s.tree j.x.path j.tot=(vL (eJ j.tot) (above j.x.path) s.tree,0)∧
 Tree.ok (vL (eJ j.tot) (above j.x.path) s.tree)∧bW s.tree (vL (eJ j.tot) (above j.x.path) s.tree)∧∀e∈vL (eJ j.tot) (above j.x.path) s.tree,∀k<4,vk k e.used+fZ k e.path j=iq k e.path s.av:=by
 have hm:=List.mem_of_getElem? hj
 obtain ⟨g1,g2,g3⟩:=h.sN j hm
 have hs:∀e∈s.tree,e.path∈above j.x.path→(eH e.used j.tot).2=true:=fun e he hp=>ng.2 fun k hk=>by
  have:=TM k e.path hm
  rw [←h.used e he k hk] at this
  rw [fZ,if_pos ⟨hr,hp⟩] at this
  exact this
 have hz:∀e∈s.tree,e.path∈above j.x.path→(eJ j.tot e).2=0:=fun e he hp=>vN.2 (hs e he hp)
 have hk:bW s.tree (vL (eJ j.tot) (above j.x.path) s.tree):=Bq fun e he hp=>by rw [yQ (hz e he hp)];exact ⟨rfl,rfl⟩
 have hv:∀x∈vL (eJ j.tot) (above j.x.path) s.tree,x.used.w∧(∀k<4,vk k x.used≤vk k x.dD)∧∀k<4,vk k x.used+fZ k x.path j=iq k x.path s.av:=by
  intro x hx
  obtain ⟨e,he,rfl⟩:=List.mem_map.1 hx
  by_cases hp:e.path∈above j.x.path
  ·rw [if_pos hp]
   have h0:=hs e he hp
   rw [yQ (hz e he hp)]
   have hwe:=(h.tree.w e he).2
   refine ⟨JW h0,fun k hk=>?_,fun k hk=>?_⟩
   ·simp only;rw [E0 hwe h0 hk];have:=h.tree.fits e he k hk;omega
   have h1:=ng.1 h0 k hk
   simp only;rw [E0 hwe h0 hk,fZ,if_pos ⟨hr,hp⟩,←h.used e he k hk]
   unfold vk;omega
  rw [if_neg hp]
  exact ⟨(h.tree.w e he).2,h.tree.fits e he,fun k hk=>by rw [h.used e he k hk,fZ,if_neg (fun g=>hp g.2)];rfl⟩
 refine ⟨?_,hk.ok h.tree (fun e he=>(hv e he).2.1) (fun e he=>(hv e he).1),hk,fun e he=>(hv e he).2.2⟩
 unfold sJ
 rcases rB (eJ j.tot) h.tree.zN j.x.path with ⟨_,_,e|⟨q,hq,e⟩|⟨y,hy,hp,e⟩⟩|⟨e,_⟩
 ·rw [Kg g1] at e;cases e
 ·obtain ⟨z,hz,g⟩:=Bx.1 g3 q hq;exact absurd g (e z hz)
 ·exact absurd (hz y hy hp) e
 exact e
theorem aW.ok.Mc {s:aW} (h:s.ok) {j:Jb} (hj:j∈s.av) (hr:j.runs=false):∀x∈s.aY.places,x.bu≠j.id:=by
 intro x hx g
 obtain ⟨y,a,b,c,_⟩:=h.places x hx
 have:=dh h.ids a hj (by rw [c,g])
 subst this;rw [hr] at b;cases b
theorem aW.ok.E1 {s:aW} (h:s.ok) {j:Jb} (hj:j∈s.av) (hr:j.runs=true):∀q∈s.queue,q.id≠j.id:=by
 intro q hq g
 obtain ⟨y,a,b,rfl⟩:=(h.iP q).1 hq
 have:=dh h.ids a hj g
 subst this;rw [hr] at b;cases b
theorem Kh (id:Int) (a b:List Place):sZ id (a++b)=sZ id a+sZ id b:=by simp [sZ]
theorem QG (id bu:Int) (v:bE) (names:List aH):sZ id (names.map fun n=>(⟨bu,n,v⟩:Place))=if bu=id then names.length else 0:=by
 unfold sZ
 by_cases h:bu=id
 ·rw [if_pos h,List.filter_eq_self.2 (by intro x hx;obtain ⟨n,_,rfl⟩:=List.mem_map.1 hx;simpa using h)];simp
 rw [if_neg h,List.filter_eq_nil_iff.2 (by intro x hx;obtain ⟨n,_,rfl⟩:=List.mem_map.1 hx;simpa using h)];rfl
theorem HI (id bu:Int) (ps:List Place):sZ id (ps.filter fun x=>!decide (x.bu=bu))=if id=bu then 0 else sZ id ps:=by
 unfold sZ
 rw [List.filter_filter]
 by_cases h:id=bu
 ·rw [if_pos h,List.length_eq_zero_iff,List.filter_eq_nil_iff];intro x _;simp;intro g;omega
 rw [if_neg h];congr 1;refine List.filter_congr fun x _=>?_
 by_cases g:x.bu=id
 ·simp [g,h]
 simp [g]
theorem aW.ok.kx {s:aW} (h:s.ok) {i:Nat} {j:Jb} (hj:s.av[i]?=some j) (names:List aH):(kx s i j j.id names).1.ok:=by
 have hm:=List.mem_of_getElem? hj
 obtain ⟨g1,g2,g3⟩:=h.sN j hm
 unfold Dem.kx
 by_cases h1:j.runs=true
 ·rw [if_pos h1];exact h
 rw [if_neg h1]
 by_cases h2:(names.length:Int)≠j.x.count
 ·rw [if_pos h2];exact h
 rw [if_neg h2]
 by_cases h3:(!(c8 j.x).2)=true
 ·rw [if_pos h3];exact h
 rw [if_neg h3]
 by_cases h4:(dy s.tree j.x.path (c8 j.x).1).2≠0
 ·rw [if_pos h4];exact h
 rw [if_neg h4]
 rcases Bv s.aY j.id names j.x.gB with ⟨_,e2⟩|⟨e,_⟩
 ·rw [if_pos e2];exact h
 rw [if_neg (by rw [e];simp)]
 simp only [Decidable.not_not] at h2 h4
 have hrf:j.runs=false:=by simpa using h1
 obtain ⟨c1,c2,c3⟩:=DI h h4
 obtain ⟨p1,p2⟩:=Wp h.aY h.ie j.id names g2
 rw [lU h.kY]
 rw [e] at p1 p2 ⊢
 refine aW.ok.event (s:=⟨s.round,s.next,_,_,s.av.set i {j with runs:=true,left:=j.x.eZ},_,s.ev,s.au⟩) ?_ _ _
 have hs:∀y,y∈s.av.set i {j with runs:=true,left:=j.x.eZ}↔y={j with runs:=true,left:=j.x.eZ}∨(y∈s.av∧y.id≠j.id):=fun y=>By h.ids hj
 obtain ⟨_,_,_,Wu,_⟩:=dZ.1 g1
 exact {
  aY:=p1,ie:=p2,tree:=c1,notes:=h.notes
  used:=fun e he k hk=>by
   have:=vT k e.path {j with runs:=true,left:=j.x.eZ} hj
   have t0:fZ k e.path j=0:=by simp [fZ,hrf]
   have t1:fZ k e.path {j with runs:=true,left:=j.x.eZ}=if e.path∈above j.x.path then vk k (c8 j.x).1 else 0:=by simp [fZ]
   rw [t0,t1] at this
   rw [c3 e he k hk];simp only;omega
  most:=by simp only [List.length_set];exact h.most
  next:=h.next
  ids:=vS h.ids hj rfl
  vU:=fun y hy=>by rcases (hs y).1 hy with rfl|⟨g,_⟩;exact h.vU j hm;exact h.vU y g
  sN:=fun y hy=>by
   rcases (hs y).1 hy with rfl|⟨g,_⟩
   ·exact ⟨g1,g2,jM c2 g3⟩
   obtain ⟨a,b,c⟩:=h.sN y g;exact ⟨a,b,jM c2 c⟩
  left:=fun y hy=>by
   rcases (hs y).1 hy with rfl|⟨g,_⟩
   ·exact ⟨fun _=>⟨Wu.1,Int.le_refl _⟩,fun g=>by cases g⟩
   exact h.left y g
  kC:=h.kC.filter _
  kY:=h.kY.filter _
  iP:=fun q=>by
   show q∈s.queue.filter _↔_
   rw [List.mem_filter,h.iP q]
   constructor
   ·rintro ⟨⟨y,a,b,rfl⟩,c⟩
    exact ⟨y,(hs y).2 (.inr ⟨a,by simpa using c⟩),b,rfl⟩
   rintro ⟨y,a,b,rfl⟩
   rcases (hs y).1 a with rfl|⟨g,g4⟩
   ·cases b
   exact ⟨⟨y,g,b,rfl⟩,by simpa using g4⟩
  places:=fun x hx=>by
   rcases List.mem_append.1 hx with g|g
   ·obtain ⟨y,a,b,c,d⟩:=h.places x g
    refine ⟨y,(hs y).2 (.inr ⟨a,fun e2=>?_⟩),b,c,d⟩
    have:=dh h.ids a hm e2
    subst this;rw [hrf] at b;cases b
   obtain ⟨n,_,rfl⟩:=List.mem_map.1 g
   exact ⟨_,(hs _).2 (.inl rfl),rfl,rfl,rfl⟩
  count:=fun y hy hr=>by
   show ((sZ y.id (s.aY.places++names.map fun n=>(⟨j.id,n,j.x.gB⟩:Place)):Nat):Int)=_
   rw [Kh,QG]
   rcases (hs y).1 hy with rfl|⟨g,g4⟩
   ·have:sZ j.id s.aY.places=0:=by
     unfold sZ;rw [List.length_eq_zero_iff,List.filter_eq_nil_iff];intro x hx;simpa using h.Mc hm hrf x hx
    simp only [this];simp;exact h2
   rw [if_neg (fun e2=>g4 e2.symm),Nat.add_zero];exact h.count y g hr}
theorem aW.ok.Ki {s:aW} (h:s.ok) (id:Int) (names:List aH):(cJ s id names).1.ok:=by
 unfold cJ
 cases hf:s.av.findIdx? (fun j=>decide (j.id=id)) with
 |none=>exact h
 |some k=>
  obtain ⟨j,a,b,c⟩:=nH hf
  simp only
  rw [c,←b];exact h.kx a names
theorem aW.ok.jN {s:aW} (h:s.ok) {i:Nat} {j:Jb} (hj:s.av[i]?=some j) (hr:j.runs=true):
 nh s j=⟨s.round,s.next,ry s.aY j.id,vL (eJ j.tot) (above j.x.path) s.tree,s.av,s.queue,s.ev,s.au⟩:=by
 have hm:=List.mem_of_getElem? hj
 unfold nh
 rw [if_pos (dZ.1 (h.sN j hm).1).2.2.2.2.2,(oo h hj hr).1]
theorem aW.ok.Wv {s:aW} (h:s.ok) {j:Jb} (hm:j∈s.av) (hr:j.runs=true):
 jZ s.queue ⟨j.id,j.x.prio⟩=(s.queue.take (vI s.queue ⟨j.id,j.x.prio⟩)++⟨j.id,j.x.prio⟩::s.queue.drop (vI s.queue ⟨j.id,j.x.prio⟩),0):=by
 rcases rC s.queue ⟨j.id,j.x.prio⟩ with ⟨_,_,e|⟨q,hq,e⟩|e⟩|⟨e,_⟩
 ·rw [Nr (h.sN j hm).1] at e;cases e
 ·exact absurd e (h.E1 hm hr q hq)
 ·have h1:=h.Wt
  have h2:=h.most
  have h3:ij s.av<s.av.length:=by
   unfold ij
   exact List.length_filter_lt_length_iff_exists.2 ⟨j,hm,by simp [hr]⟩
  omega
 exact e
theorem aW.ok.stop {s:aW} (h:s.ok) (id kind:Int):(gG s id kind).1.ok:=by
 unfold gG
 cases hf:s.av.findIdx? (fun j=>decide (j.id=id)) with
 |none=>exact h
 |some i=>
  obtain ⟨j,hj,hid,c⟩:=nH hf
  simp only
  rw [c]
  by_cases h1:(!j.runs)=true
  ·rw [if_pos h1];exact h
  rw [if_neg h1]
  have hr:j.runs=true:=by simpa using h1
  have hm:=List.mem_of_getElem? hj
  obtain ⟨g1,g2,g3⟩:=h.sN j hm
  obtain ⟨_,c1,c2,c3⟩:=oo h hj hr
  rw [h.jN hj hr,←hid]
  simp only [DC]
  rw [h.Wv hm hr]
  obtain ⟨p1,p2⟩:=HF h.aY h.ie j.id
  refine aW.ok.event (s:=⟨s.round,s.next,_,_,s.av.set i {j with runs:=false,left:=0},_,s.ev,s.au⟩) ?_ _ _
  have hs:∀y,y∈s.av.set i {j with runs:=false,left:=0}↔y={j with runs:=false,left:=0}∨(y∈s.av∧y.id≠j.id):=fun y=>By h.ids hj
  exact {
   aY:=p1,ie:=p2,tree:=c1,notes:=h.notes
   used:=fun e he k hk=>by
    have:=vT k e.path {j with runs:=false,left:=0} hj
    have t1:fZ k e.path {j with runs:=false,left:=0}=0:=by simp [fZ]
    rw [t1] at this
    have:=c3 e he k hk;simp only;omega
   most:=by simp only [List.length_set];exact h.most
   next:=h.next
   ids:=vS h.ids hj rfl
   vU:=fun y hy=>by rcases (hs y).1 hy with rfl|⟨g,_⟩;exact h.vU j hm;exact h.vU y g
   sN:=fun y hy=>by
    rcases (hs y).1 hy with rfl|⟨g,_⟩
    ·exact ⟨g1,g2,jM c2 g3⟩
    obtain ⟨a,b,c⟩:=h.sN y g;exact ⟨a,b,jM c2 c⟩
   left:=fun y hy=>by
    rcases (hs y).1 hy with rfl|⟨g,_⟩
    ·exact ⟨fun g=>(by cases g),fun _=>rfl⟩
    exact h.left y g
   kC:=HB h.kC (h.E1 hm hr)
   kY:=HD h.kY (h.E1 hm hr) _
   iP:=fun q=>by
    show q∈List.take _ s.queue++_::List.drop _ s.queue↔_
    rw [HC,h.iP q]
    constructor
    ·rintro (⟨y,a,b,rfl⟩|rfl)
     ·refine ⟨y,(hs y).2 (.inr ⟨a,fun e=>?_⟩),b,rfl⟩
      have:=dh h.ids a hm e
      subst this;rw [hr] at b;cases b
     exact ⟨_,(hs _).2 (.inl rfl),rfl,rfl⟩
    rintro ⟨y,a,b,rfl⟩
    rcases (hs y).1 a with rfl|⟨g,g4⟩
    ·exact .inr rfl
    exact .inl ⟨y,g,b,rfl⟩
   places:=fun x hx=>by
    obtain ⟨hx1,OZ⟩:=List.mem_filter.1 hx
    obtain ⟨y,a,b,c,d⟩:=h.places x hx1
    exact ⟨y,(hs y).2 (.inr ⟨a,by rw [c];simpa using OZ⟩),b,c,d⟩
   count:=fun y hy hr=>by
    rcases (hs y).1 hy with rfl|⟨g,g4⟩
    ·cases hr
    show ((sZ y.id (s.aY.places.filter fun x=>!decide (x.bu=j.id)):Nat):Int)=_
    rw [HI,if_neg g4];exact h.count y g hr}
theorem aW.ok.end_ {s:aW} (h:s.ok) (id kind:Int):(send s id kind).1.ok:=by
 unfold send
 cases hf:s.av.findIdx? (fun j=>decide (j.id=id)) with
 |none=>exact h
 |some i=>
  obtain ⟨j,hj,hid,c⟩:=nH hf
  simp only
  rw [c]
  have hm:=List.mem_of_getElem? hj
  have hs:∀y,y∈s.av.eraseIdx i↔y∈s.av∧y.id≠j.id:=fun y=>Ke h.ids hj
  have hlen:(s.av.eraseIdx i).length≤s.av.length:=by rw [List.length_eraseIdx];split<;>omega
  have hsub:(s.av.eraseIdx i).Sublist s.av:=List.eraseIdx_sublist _ _
  by_cases hr:j.runs=true
  ·rw [if_pos hr,h.jN hj hr]
   obtain ⟨_,c1,c2,c3⟩:=oo h hj hr
   obtain ⟨p1,p2⟩:=HF h.aY h.ie j.id
   refine aW.ok.event (s:=⟨s.round,s.next,_,_,s.av.eraseIdx i,s.queue,s.ev,s.au⟩) ?_ _ _
   exact {
    aY:=p1,ie:=p2,tree:=c1,notes:=h.notes
    used:=fun e he k hk=>by
     have:=uu k e.path hj
     have:=c3 e he k hk;simp only;omega
    most:=Nat.le_trans hlen h.most
    next:=h.next
    ids:=h.ids.sublist hsub
    vU:=fun y hy=>h.vU y ((hs y).1 hy).1
    sN:=fun y hy=>by obtain ⟨a,b,c⟩:=h.sN y ((hs y).1 hy).1;exact ⟨a,b,jM c2 c⟩
    left:=fun y hy=>h.left y ((hs y).1 hy).1
    kC:=h.kC,kY:=h.kY
    iP:=fun q=>by
     rw [h.iP q]
     constructor
     ·rintro ⟨y,a,b,rfl⟩
      refine ⟨y,(hs y).2 ⟨a,fun e=>?_⟩,b,rfl⟩
      have:=dh h.ids a hm e
      subst this;rw [hr] at b;cases b
     rintro ⟨y,a,b,rfl⟩;exact ⟨y,((hs y).1 a).1,b,rfl⟩
    places:=fun x hx=>by
     obtain ⟨hx1,OZ⟩:=List.mem_filter.1 hx
     obtain ⟨y,a,b,c,d⟩:=h.places x hx1
     exact ⟨y,(hs y).2 ⟨a,by rw [c];simpa using OZ⟩,b,c,d⟩
    count:=fun y hy hr=>by
     obtain ⟨g,g4⟩:=(hs y).1 hy
     show ((sZ y.id (s.aY.places.filter fun x=>!decide (x.bu=j.id)):Nat):Int)=_
     rw [HI,if_neg g4];exact h.count y g hr}
  have hrf:j.runs=false:=by simpa using hr
  rw [if_neg hr,lU h.kY,←hid]
  refine aW.ok.event (s:=⟨s.round,s.next,s.aY,s.tree,s.av.eraseIdx i,_,s.ev,s.au⟩) ?_ _ _
  exact {
   aY:=h.aY,ie:=h.ie,tree:=h.tree,notes:=h.notes
   used:=fun e he k hk=>by
    have:=uu k e.path hj
    have t0:fZ k e.path j=0:=by simp [fZ,hrf]
    rw [h.used e he k hk];simp only;omega
   most:=Nat.le_trans hlen h.most
   next:=h.next
   ids:=h.ids.sublist hsub
   vU:=fun y hy=>h.vU y ((hs y).1 hy).1
   sN:=fun y hy=>h.sN y ((hs y).1 hy).1
   left:=fun y hy=>h.left y ((hs y).1 hy).1
   kC:=h.kC.filter _
   kY:=h.kY.filter _
   iP:=fun q=>by
    show q∈s.queue.filter _↔_
    rw [List.mem_filter,h.iP q]
    constructor
    ·rintro ⟨⟨y,a,b,rfl⟩,c⟩
     exact ⟨y,(hs y).2 ⟨a,by simpa using c⟩,b,rfl⟩
    rintro ⟨y,a,b,rfl⟩
    obtain ⟨g,g4⟩:=(hs y).1 a
    exact ⟨⟨y,g,b,rfl⟩,by simpa using g4⟩
   places:=fun x hx=>by
    obtain ⟨y,a,b,c,d⟩:=h.places x hx
    refine ⟨y,(hs y).2 ⟨a,fun e=>?_⟩,b,c,d⟩
    have:=dh h.ids a hm e
    subst this;rw [hrf] at b;cases b
   count:=fun y hy hr=>h.count y ((hs y).1 hy).1 hr}
structure iX where
 kind:Nat
 a:Nat
 b:Nat
 c:Nat
 d:Nat
structure iX.u (x:iX):Prop where
 kind:x.kind<256
 a:x.a<256
 b:x.b<256
 c:x.c<256
 d:x.d<256
def iX.cells (x:iX):List D:=[.int .u8 x.kind,.int .u8 x.a,.int .u8 x.b,.int .u8 x.c,.int .u8 x.d]
def Bz:List aH:=[[97],[97,47,98],[98],[206,177,206,178]]
def lm:List aH:=[[110,49],[110,50],[110,51]]
def CJ (x:iX):Ask:=⟨Bz.getD (x.a%4) [],⟨(x.b%5:Nat),(x.b / 5%5:Nat),0,(x.b / 25%3:Nat)⟩,(1+x.c%3:Nat),(x.c / 3%4:Nat),(1+x.d%5:Nat),if 200<x.d then [⟨TH,decide (x.d%2=1),[[97]]⟩] else []⟩
def Vw:List aH:=[[97],[97,47,98],[98]]
def rD (m:Nat):Nat→List aR
 |0=>(vJ [⟨[],bE.zero,bE.zero⟩] [] ⟨30,30,30,30⟩).1
 |i+1=>(vJ (rD m i) (Vw.getD i []) ⟨(6+4*i+m:Nat),20,20,20⟩).1
def BA (i:Nat):List dj:=if i<2 then [⟨TH,[[97],[98]].getD i []⟩] else []
def TN (n i:Nat):Bool:=decide (n / 2^(5+i)%2=0)
def fe (n:Nat):Nat→cB
 |0=>⟨[],[]⟩
 |i+1=>if TN n i then (ri (fe n i) ⟨lm.getD i [],⟨(4+2*i:Nat),9,9,9⟩,BA i,false⟩).1 else fe n i
def jO (n:Nat):aW:=⟨0,1,fe n 3,rD (n%5) 3,[],[],⟨0,[]⟩,⟨0,[]⟩⟩
def p9 (m:Nat):List aR:=[⟨[],⟨30,30,30,30⟩,bE.zero⟩,⟨[97],⟨(6+m:Nat),20,20,20⟩,bE.zero⟩,⟨[97,47,98],⟨(10+m:Nat),20,20,20⟩,bE.zero⟩,⟨[98],⟨(14+m:Nat),20,20,20⟩,bE.zero⟩]
theorem Md:∀m<5,rD m 3=p9 m:=by decide+kernel
theorem QH:∀m<5,∀i<4,(rD m i).length≤4:=by decide+kernel
theorem TO {n:Nat} (i:Nat):TN n i=TN (n / 32*32) i:=by
 unfold TN
 rw [show 5+i=5+i from rfl,Nat.pow_add,←Nat.div_div_eq_div_mul,←Nat.div_div_eq_div_mul,show (2:Nat)^5=32 from rfl,Nat.mul_div_cancel _ (by decide)]
theorem HJ (n:Nat):∀i,fe n i=fe (n / 32*32) i
 |0=>rfl
 |i+1=>by rw [fe,fe,←HJ n i,TO]
theorem Ns {m:Nat} (hm:m<5):Tree.ok (p9 m)∧∀e∈p9 m,e.used=bE.zero:=by
 have hz:∀e∈p9 m,e.used=bE.zero:=by
  intro e he;simp only [p9,List.mem_cons,List.not_mem_nil,or_false] at he
  rcases he with rfl|rfl|rfl|rfl<;>rfl
 have hp:(p9 m).map (·.path)=[[],[97],[97,47,98],[98]]:=rfl
 refine ⟨⟨⟨_,_,rfl,rfl⟩,by simp [p9],?_,?_,?_,?_,?_⟩,hz⟩
 ·have:(((p9 m).map (·.path)).Pairwise (·<·)):=by rw [hp];decide
  exact List.pairwise_map.1 this
 ·intro e he
  have:e.path∈(p9 m).map (·.path):=List.mem_map_of_mem he
  rw [hp] at this
  have hn:∀p∈([[],[97],[97,47,98],[98]]:List aH),named p=true:=by decide+kernel
  exact hn _ this
 ·intro e he
  have h1:e.path∈(p9 m).map (·.path):=List.mem_map_of_mem he
  have hn:∀p∈([[],[97],[97,47,98],[98]]:List aH),parent p∈([[],[97],[97,47,98],[98]]:List aH):=by decide+kernel
  rw [hp] at h1
  have h2:=hn _ h1
  rw [←hp] at h2
  obtain ⟨f,hf,g⟩:=List.mem_map.1 h2
  exact ⟨f,hf,g⟩
 ·intro e he k _;rw [hz e he,pz];omega
 intro e he
 refine ⟨?_,by rw [hz e he];exact Bg⟩
 simp only [p9,List.mem_cons,List.not_mem_nil,or_false] at he
 rcases he with rfl|rfl|rfl|rfl<;>(intro k hk;unfold bE.at_;split<;>simp only<;>omega)
theorem Zd (i:Nat) (hi:i<3):(⟨(4+2*i:Nat),9,9,9⟩:bE).w:=by intro k hk;unfold bE.at_;split<;>simp only<;>omega
theorem Me (n:Nat):∀i≤3,(fe n i).ok∧(fe n i).w
 |0,_=>⟨L9,Qv⟩
 |i+1,h=>by
  obtain ⟨a,b⟩:=Me n i (by omega)
  unfold fe
  split
  ·exact Wq a b (Zd i (by omega))
  exact ⟨a,b⟩
theorem HK (p:cB) (n:Node):(ri p n).1.places=p.places:=by
 rcases uo p n with ⟨e,_⟩|⟨_,_,_,e⟩
 ·rw [e]
 rw [e]
theorem rE (n:Nat):∀i,(fe n i).places=[]
 |0=>rfl
 |i+1=>by
  unfold fe;split
  ·rw [HK,rE n i]
  exact rE n i
theorem BB (n:Nat):(jO n).ok:=by
 have hm:n%5<5:=Nat.mod_lt _ (by decide)
 obtain ⟨t1,t2⟩:=Ns hm
 obtain ⟨p1,p2⟩:=Me n 3 (Nat.le_refl _)
 unfold jO
 rw [Md _ hm]
 exact {
  aY:=p1,ie:=p2,tree:=t1
  used:=fun e he k _=>by simp only at he;rw [t2 e he,pz];rfl
  most:=by simp
  next:=by simp
  ids:=List.Pairwise.nil
  vU:=fun j hj=>by cases hj
  sN:=fun j hj=>by cases hj
  left:=fun j hj=>by cases hj
  kC:=List.Pairwise.nil
  kY:=List.Pairwise.nil
  iP:=fun q=>by simp
  places:=fun x hx=>by simp only at hx;rw [rE] at hx;cases hx
  count:=fun j hj=>by cases hj
  notes:=by simp}
theorem QI (x:iX):(CJ x).gB.w:=by intro k hk;unfold CJ bE.at_;split<;>simp only<;>omega
end Dem
end
section
open Go Go.Proofs Go.ChangeShapes Go.WideShapes Go.RowKit
namespace Dem
section
variable {H:Type} {enc:TypeId×Value→H} {W:World} {v:Value} {d:DataW H} {p:List MemPlace} {base:Nat}
theorem wf_u8 {n:Int} (h:(Lit.int .u8 n).wf=true):∃k:Nat,n=k∧k<256:=by
 simp only [Lit.wf,Bool.and_eq_true,IntKind.min,IntKind.max,IntKind.signed,IntKind.bits] at h
 simp at h
 exact ⟨n.toNat,by omega,by omega⟩
theorem TP {r:List D} (h:c7 [.int .u8,.int .u8,.int .u8,.int .u8,.int .u8] r):∃x:iX,r=x.cells∧x.u:=by
 simp only [c7,yq] at h
 obtain ⟨_,_,rfl,⟨n0,rfl,h0⟩,_,_,rfl,⟨n1,rfl,h1⟩,_,_,rfl,⟨n2,rfl,h2⟩,_,_,rfl,⟨n3,rfl,h3⟩,_,_,rfl,⟨n4,rfl,h4⟩,rfl⟩:=h
 obtain ⟨k0,rfl,g0⟩:=wf_u8 h0
 obtain ⟨k1,rfl,g1⟩:=wf_u8 h1
 obtain ⟨k2,rfl,g2⟩:=wf_u8 h2
 obtain ⟨k3,rfl,g3⟩:=wf_u8 h3
 obtain ⟨k4,rfl,g4⟩:=wf_u8 h4
 exact ⟨⟨k0,k1,k2,k3,k4⟩,rfl,⟨g0,g1,g2,g3,g4⟩⟩
theorem BC (hval:Value.okWide Tryz.prog W .any base 5 v) (h:DataW.Trod enc Tryz.prog W 0 (fun _=>true) true 5 v d p):
 ∃k:Nat,aj (fun _=>0) [] W (okW W) (.d (.int .u8 (k:Int))) v∧k<256:=by
 obtain ⟨n,rfl,_,_,hw⟩:=open_int (show Tryz.prog.underlying 5=some (.int .u8) by kernel_rfl) hval h
 obtain ⟨k,rfl,hk⟩:=wf_u8 hw
 exact ⟨k,by simp only [aj,aJ],hk⟩
end
end Dem
end
section
open Go Go.Proofs Go.ChangeShapes Go.WideShapes Go.RowKit
namespace Dem
section
variable {H:Type} {enc:TypeId×Value→H} {W:World} {v:Value} {d:DataW H} {p:List MemPlace} {base:Nat}
theorem yT (hval:Value.okWide Tryz.prog W .any base 63 v) (h:DataW.Trod enc Tryz.prog W 0 (fun _=>true) true 63 v d p):
 ∃l:List iX,aj (fun _=>0) [] W (okW W) (SL (l.map iX.cells)) v∧(∀x∈l,x.u)∧l.length≤maxLen:=by
 obtain ⟨fuel,hf⟩:=h
 obtain ⟨a,len,cap,rfl⟩:=okWide_slice (show Tryz.prog.underlying 63=some (.slice 109) by kernel_rfl) hval
 obtain ⟨h1,h2⟩:=vg (Wr W) 8 fuel 63 [.slice a len cap] (d,p) [.sl [.int .u8,.int .u8,.int .u8,.int .u8,.int .u8]] hf (by kernel_rfl)
 simp only [c7,yq] at h2
 obtain ⟨_,_,e,⟨es,rfl,hl,hr⟩,rfl⟩:=h2
 rw [e] at h1
 simp only [cC] at h1
 obtain ⟨u,r,e2,h3,rfl⟩:=h1
 cases e2
 obtain ⟨l,rfl,O0⟩:=Ma (cells:=iX.cells) (Q:=iX.u) es (fun r hm=>TP (hr r hm))
 exact ⟨l,by simpa only [aj] using h3,O0,by simpa using hl⟩
end
end Dem
end
section
open Go Go.Proofs
namespace Dem
theorem cr {t:Th} (ht:TT t) {f N:Nat} {fn:Func} {c:Code} {args:List AV} {aL:List aA} {res:iB} (hf:Tryz.prog.funcs[f]?=some fn) {rs:List ResultVar} (h:vE t FC tT gl N 0 c (pW t tT rs 0 res aL) ⟨nO 0 args,[]⟩)
 (hb:fn.body=some c:=by rfl) (hname:(fn.name== "runtime.NumGoroutine")=false:=by rfl) (hN:fn.ntmps=N:=by rfl) (MP:fn.results.toList=rs:=by rfl) (hlen:Nat.ble args.length N=true:=by rfl):FC f args [] res aL:=
 jG ht (bz:=[]) hf hb hname hN MP rfl hlen h
theorem an {n:Nat} {c d:Prop} {v u:AV} {bx aL:List aA} {res:iB} (hr:res=.ret u) (hc:c:=by trivial) (hd:d:=by trivial) (hw:u.within n=true:=by rfl) (hb:aL=(tg bx v).take n:=by rfl) (Tw:bX n aL=true:=by rfl):EI n c v bx (some (d,u)) res aL:=
 lQ hc hd hw hb Tw hr
theorem rF {ops:List Oper} {A:Option Nat→List Bool→Prop} {X:List Nat→Prop} {B1:OT→St→Prop} {B2:St→Prop} {B3:List Nd→List St→Prop} (pre late:List Nat) (fs:List Bool) (h:A none fs) (hp:iI ops.toArray [] pre=true:=by kernel_rfl) (hs:l7 ops.toArray=true:=by kernel_rfl) (hl:su (bI pre 0 ops).toArray late=true:=by kernel_rfl) (hx:X pre:=by kernel_rfl)
 (h1:gr (gy (bI pre 0 ops).toArray late 0 (bI pre 0 ops)).toArray (cg (gy (bI pre 0 ops).toArray late 0 (bI pre 0 ops)) []) 0 (gy (bI pre 0 ops).toArray late 0 (bI pre 0 ops))=true:=by kernel_rfl)
 (h2:jD (cg (gy (bI pre 0 ops).toArray late 0 (bI pre 0 ops)) []) 0 ops=fs:=by kernel_rfl):AY ops A X B1 B2 B3:=
 Yt pre late fs hp hs hl hx h1 h2 h
theorem bS {ops:List Oper} {A:Option Nat→List Bool→Prop} {X:List Nat→Prop} {B1:OT→St→Prop} {B2:St→Prop} {B3:List Nd→List St→Prop} (fs:List Bool) (h:A none fs) (h1:gr ops.toArray (cg ops []) 0 ops=true:=by kernel_rfl) (h2:jD (cg ops []) 0 ops=fs:=by kernel_rfl):AY ops A X B1 B2 B3:=Ys fs h1 h2 h
section
variable {P:Program} {FC:Nat→List AV→List aA→iB→List aA→Prop} {jV:Prop} {f:Nat} {args args':List AV} {c:Prop} {bx:List aA} {K Kp:AV→List aA→Prop} {ρ:Type}
theorem aD {E:ρ→AV} {r0:ρ} (h:FC f args' [] (.ret (E r0)) []) (hc:c) (hK:∀r,r=r0→K (E r) bx) (ho:jV:=by trivial) (hs:AV.shut.lu args'=true:=by rfl) (hz:eS [] args=some args':=by rfl) (hv:(E r0).shut=true:=by rfl):m8 FC jV f args (some (c,args')) bx K Kp:=
 Qo ho h hc hs hz hv hK
theorem aG {E:ρ→AV} {r0:ρ} (h:FC f args' [] (.ret (E r0)) []) (hc:c) (hK:∀r,r=r0→K (E r) bx) (ho:jV:=by trivial) (hs:AV.shut.lu args'=true:=by rfl) (hf:(E r0).flat=true:=by rfl):m8 FC jV f args (some (c,args')) bx K Kp:=
 Wh ho h hc hs hf hK
end
theorem fc {A B C D E F G R:Type} {a:A→R} {b:B→R} {c:C→R} {d:D→R} {e:E→R} {f:F→R} {g:G→R} {k l m n o p q:List R} {k':List A} {l':List B} {m':List C} {n':List D} {o':List E} {p':List F} {q':List G} (h1:k=k'.map a) (h2:l=l'.map b) (h3:m=m'.map c) (h4:n=n'.map d) (h5:o=o'.map e) (h6:p=p'.map f) (h7:q=q'.map g):
 k.length=k'.length∧l.length=l'.length∧m.length=m'.length∧n.length=n'.length∧o.length=o'.length∧p.length=p'.length∧q.length=q'.length:=by
 simp [*]
end Dem
end
section
open Go
namespace Dem
structure tF {α:Type} (p:α→Bool) (l:List α) (n v:Nat):Prop where
 a:v+n=l.length
 b:∀i<v,∀x,l[i]?=some x→p x=false
theorem tF.nil {α:Type} {p:α→Bool} {l:List α}:tF p l l.length 0:=⟨by omega,fun i hi=>by omega⟩
theorem tF.lt {α:Type} {p:α→Bool} {l:List α} {n k:Nat} {x:α} (h:tF p l n k) (hx:l[k]?=some x):n-1<n:=by
 have:=h.a;have:=(List.getElem?_eq_some_iff.1 hx).1;omega
theorem tF.next {α:Type} {p:α→Bool} {l:List α} {n k:Nat} {x:α} (h:tF p l n k) (hx:l[k]?=some x) (hb:p x=false):tF p l (n-1) (k+1):=by
 refine ⟨by have:=h.a;have:=(List.getElem?_eq_some_iff.1 hx).1;omega,fun i hi y hy=>?_⟩
 by_cases e:i<k
 ·exact h.b i e y hy
 have:i=k:=by omega
 subst this;rw [hx] at hy;cases hy;exact hb
theorem tF.hit {α:Type} {p:α→Bool} {l:List α} {n k:Nat} {x:α} (h:tF p l n k) (hx:l[k]?=some x) (hb:p x=true):idxOf p l=k:=by
 rw [idxOf,vH hx hb h.b]
theorem tF.none {α:Type} {p:α→Bool} {l:List α} {n k:Nat} (h:tF p l n k) (hk:l.length≤k):idxOf p l=-1:=by
 rw [idxOf,A8]
 intro i y hy
 have:=(List.getElem?_eq_some_iff.1 hy).1
 exact h.b i (by omega) y hy
theorem tF.get {α:Type} {p:α→Bool} {l:List α} {n k:Nat} (_:tF p l n k) (hk:k<l.length):∃x,l[k]?=some x∧x∈l∧∃b,b=p x:=⟨l[k],by simp,by simp,_,rfl⟩
theorem pK {α:Type} {cells:α→List D} {l:List α} {es:List (List D)} (aC:es=l.map cells) {k n:Nat} (h:k<es.length) (hn:∀x,(cells x).length=n):0≤(k:Int)∧(k:Int)<es.length∧∀r∈es,r.length=n:=by
 refine ⟨by omega,by omega,fun r hr=>?_⟩
 rw [aC] at hr
 obtain ⟨y,_,rfl⟩:=List.mem_map.1 hr
 exact hn y
end Dem
end
section
namespace Dem
theorem vV {es:List (List D)} {row z:List D} {i:Nat} (h:i≤es.length):wrote (wrote (es.take i++List.replicate (es.length+1-i) z) i [row]) (i+1) (es.drop i)=es.take i++row::es.drop i:=by
 have hl:(es.take i).length=i:=by simp;omega
 have e1:wrote (es.take i++List.replicate (es.length+1-i) z) i [row]=es.take i++row::List.replicate (es.length-i) z:=by
  unfold wrote
  rw [List.take_left' hl,show i+[row].length=(es.take i).length+1 by rw [hl];rfl,List.drop_length_add_append,List.drop_replicate]
  simp;omega
 rw [e1]
 unfold wrote
 rw [show i+1=(es.take i).length+1 by rw [hl],List.take_length_add_append]
 have e2:List.drop ((es.take i).length+1+(es.drop i).length) (es.take i++row::List.replicate (es.length-i) z)=[]:=by
  rw [List.drop_eq_nil_iff];simp;omega
 rw [e2]
 simp
theorem E2 {es:List (List D)} {row:List D} {i:Nat} (h:i<es.length):wrote (wrote es (i+1) (es.drop i)) i [row]=es.take i++row::es.drop i:=by
 have e1:wrote es (i+1) (es.drop i)=es.take (i+1)++es.drop i:=by
  unfold wrote
  have:es.drop (i+1+(es.drop i).length)=[]:=by rw [List.drop_eq_nil_iff];simp;omega
  rw [this,List.append_nil]
 rw [e1]
 unfold wrote
 have hl:(es.take (i+1)).length=i+1:=by simp;omega
 rw [List.take_append_of_le_length (by omega),List.take_take,show i+[row].length=(es.take (i+1)).length by rw [hl];rfl,List.drop_left]
 rw [Nat.min_eq_left (by omega)];simp
theorem kM:∀(xs ys:List D),ys.length=xs.length→be xs 0 ys=ys
 |[],[],_=>by simp [be]
 |[],_::_,h=>by simp at h
 |_::_,[],h=>by simp at h
 |x::xs,y::ys,h=>by
  simp only [be]
  rw [kM xs ys (by simpa using h)]
theorem kN {α:Type}:∀(l:List α) (i:Nat) (x:α),i<l.length→(l.set i x).take (i+1)=l.take i++[x]
 |[],i,x,h=>by simp at h
 |y::l,0,x,h=>by simp
 |y::l,i+1,x,h=>by
  simp only [List.set_cons_succ,List.take_succ_cons,List.cons_append]
  rw [kN l i x (by simpa using h)]
theorem nt {α:Type}:∀(l:List α) (i j:Nat) (x:α),i<j→(l.set i x).drop j=l.drop j
 |[],i,j,x,h=>by simp
 |y::l,0,j+1,x,h=>by simp
 |y::l,i+1,j+1,x,h=>by
  simp only [List.set_cons_succ,List.drop_succ_cons]
  exact nt l i j x (by omega)
 |y::l,_,0,x,h=>by omega
end Dem
end
