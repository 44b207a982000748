/- Parts of a proof, joined. -/
import Derived.Test.YtihohjnkkalgiaaGreatDoorM21
import Derived.RangeFuncSeq
import Derived.WalkKit
import Derived.OwnWalkIn
import Derived.TacticsInMore
import Derived.RegionIn
import Derived.LoopNIn
import Derived.LoopIn
import Derived.RangeFuncGives
import Derived.RangeFuncBound
import Derived.Maps.AppendAt
import Derived.Sort.MapsRangeIn
import Derived.Shelf.Abstract
import Derived.Sort.Defs
import Derived.Sort.LotA
set_option linter.all false
set_option maxRecDepth 100000
set_option maxHeartbeats 4000000
section
namespace Go.Proofs
open Go.RowKit Go.Maps Go.Sort Go.Shelf
open Dem (gA pO fC oz BK)
set_option maxRecDepth 100000 in
set_option maxHeartbeats 1000000 in
theorem Ks.Ol {H:Type} (F:Fence) (n:Nat) (h10:F.fn 196) (hro:F.round=none) (hn:1≤n) (l Bm off b nn:Nat) (D0:DataW H) {R:Value→Option (DataW H×List MemPlace)} (J:List Int→World→Prop)
 (hY:∀pre x W,J pre W→pre.length<Maps.size D0→YieldAt F (n-1) Tryz.prog l #[gA x] W fun e W'=>e=.returned (.bool true)∧J (pre++[x]) W'∧KeepsWalks W W')
 (W:World) (hJ:AbidesFrom W.heap.size J) (hm:W.cell? ⟨Bm,off,none⟩=some (.map (some b))) (hown:W.ownsMap Tryz.prog 24 R b nn D0) (h0:J [] W):
 CallsIn F n Tryz.prog 196 #[.func (.yield l) #[] #[],.pointer (some ⟨Bm,off,none⟩)] W fun e W'=>(∃v,e=.returned v)∧∃ss:List Int,ss.Perm (pO D0)∧J ss W':=by
 refine callsIn_of_wp Tryz.func196 rfl h10 ?_ hro
 simp only [Tryz.ntmps196,List.size_toArray,List.length_cons,List.length_nil,Nat.reduceAdd,Nat.reduceSub,Array.replicate_succ,Array.replicate_zero,List.push_toArray,List.append_toArray,List.nil_append,List.cons_append]
 gi_wp2_with (first
  |(gi_at_range;refine wpListIn_range_own _ rfl _ 192 rfl 24 3 (Maps.int_keyed Tryz.underlying24) Tryz.underlying192 _ b nn _ rfl hown ?_;intro w0 hrg0 hg0 hs0)
  |gi_in)
 go_frame
 gi_loopw [3] (fun _ wr=>∃(left:Lit→Bool) (cnt:Nat) (ss:List Int),wr.ranges Tryz.prog 24 R b W.heap.size nn D0 left cnt∧ss.length+cnt≤Maps.size D0∧fC D0 left ss∧J ss wr)
  (fun _ wr=>wr.rangeLeft b W.heap.size)
 case atStart=>
  exact ⟨_,_,[],hrg0,by simp,fC.start D0,hJ [] W w0 none h0 hg0 (fun r e=>by cases e)⟩
 case round=>
  obtain ⟨left,cnt,ss,hrg,hcs,hC,hJs⟩:=hrel
  gi_wp2_with (first
   |(gi_at_next;refine wpListIn_next_ranges _ rfl _ rfl 24 (Maps.int_keyed Tryz.underlying24) R gA id (fun key kl hk=>by obtain ⟨x,hx,_⟩:=oz Tryz.underlying24 hk;exact ⟨x,hx⟩) (fun v _ _=>⟨v,rfl⟩) b W.heap.size nn _ _ _ rfl hrg ?_ ?_)
   |gi_in)
  ·
   intro hc0 hl0
   gi_wp2
   go_end0
   exact ⟨⟨_,rfl⟩,ss,hC.perm hown (Maps.int_keyed Tryz.underlying24) Tryz.underlying24 hl0,hJs⟩
  ·
   intro x c kl yd yp w2 cnt2 hkey hlk hv hat hrg2 hlt hg2 hs2 hen
   obtain ⟨x',ex,rfl,_⟩:=oz Tryz.underlying24 hkey
   obtain rfl:x=x':=BK ex
   have hJ2:J ss w2:=hJ ss wr w2 (some W.heap.size) hJs hg2 (fun r e=>by cases e;exact ⟨Nat.le_refl _,hrg.iter_walk⟩)
   obtain ⟨fn,tmps,assign,body,hy,hR⟩:=hY ss x w2 hJ2 (by omega)
   clear hs2
   gi_wp2
   refine hR.mono ?_
   rintro e W3 ⟨rfl,hJ3,hk3⟩
   gi_wp2
   have hrg3:=hrg2.of_walks hk3
   go_roundw
   case rel=>exact ⟨_,cnt2,ss++[x],hrg3,by simp;omega,hC.step hlk hat,hJ3⟩
   case measure=>rw [hrg3.left_eq,hrg.left_eq];exact hlt
theorem Ks.KQ {H:Type} (F:Fence) (n:Nat) (h10:F.fn 196) (hro:F.round=none) (hn:1≤n) (Bm off b nn:Nat) (D0:DataW H) {R:Value→Option (DataW H×List MemPlace)} (w:World) (hBm:Bm<w.heap.size)
 (hm:w.cell? ⟨Bm,off,none⟩=some (.map (some b))) (hown:w.ownsMap Tryz.prog 24 R b nn D0):
 SeqGives F n Tryz.prog 196 #[.pointer (some ⟨Bm,off,none⟩)] gA (fun ss=>ss.Perm (pO D0)) (Maps.size D0) w:=fun l J W hW hJ hY h0=>by
 have hown':W.ownsMap Tryz.prog 24 R b nn D0:=by
  have hbl:=hown.lt
  obtain ⟨es,clock,hb,Ft,hs,hD⟩:=hown
  exact ⟨es,clock,(hW.block b hbl).trans hb,Ft,hs,hD⟩
 exact Ks.Ol F n h10 hro hn l Bm off b nn D0 J hY W hJ ((hW.cell (p:=⟨Bm,off,none⟩) hBm).trans hm) hown' h0
def Ks.BM:Code:=(Code.region 2 #[{dst:=some 5,op:=Op.assign (Operand.tmp 7),type:=24,pos:= "iter.go:51",after:=#[],guard:=none}] false)
def Ks.KR:Code:=(Code.block 1 (Code.region 3 #[{dst:=some 8,op:=Op.load 48 (Operand.tmp 2),type:=48,pos:= "iter.go:52",after:=#[],guard:=none},{dst:=some 9,op:=Op.move (Operand.tmp 5),type:=24,pos:= "iter.go:52",after:=#[],guard:=none},{dst:=some 10,op:=Op.buildSlice 48 1 #[(0,Operand.tmp 9)],type:=48,pos:= "iter.go:52",after:=#[{on:=1,ground:=Ground.data}],guard:=none},{dst:=some 11,op:=Op.call {callee:=Callee.builtin Builtin.append,args:=#[Operand.tmp 8,Operand.tmp 10],argTypes:=#[48,48]},type:=48,pos:= "iter.go:52",after:=#[{on:=0,ground:=Ground.data},{on:=2,ground:=Ground.data}],guard:=none},{dst:=none,op:=Op.store 48 (Operand.tmp 2) (Operand.tmp 11),type:=0,pos:= "iter.go:52",after:=#[{on:=3,ground:=Ground.data},{on:=3,ground:=Ground.chain},{on:=0,ground:=Ground.phase},{on:=1,ground:=Ground.phase},{on:=2,ground:=Ground.phase},{on:=3,ground:=Ground.phase}],guard:=none}] false))
def Ks.rI (fn:FuncId) (sv:Value) (Bs D:Nat) (st:LoopState) (pend:Option Code):Loop:=
 {state:=st,pending:=pend,fn,tmps:=#[.slice none 0 0,sv,.pointer (some ⟨Bs,0,none⟩),undef,.slice none 0 0,undef,sv,undef,undef,undef,undef,undef,undef],params:=#[7],assign:=Ks.BM,body:=Ks.KR,defers:=D}
structure Ks.RA (w0:World) (fn:FuncId) (sv:Value) (Bs l D:Nat) (ss:List Int) (W:World):Prop where
 box:∃v,W.heap[Bs]?=some (.cells #[v] 48 (0,0))∧W.ownsRow w0.heap.size 24 1 v ss.length (ss.map gA)∧(v=.slice none 0 0↔ss=[])
 L:W.heap[l]?=some (.loop (Ks.rI fn sv Bs D .ready none))
 K:W.heap[D]?=some (.deferred (some []))
 below:Below w0.heap.size w0 W
theorem BN {W W':World} {row:Option Nat} {base:Nat} {e:TypeId} {size:Nat} {v:Value} {k:Nat} {xs:List Value} (h:W.ownsRow base e size v k xs) (hg:W.grownBy W' row)
 (hrow:∀r,row=some r→∃o:Obj,W.heap[r]?=some o∧o.isWalk=true):W'.ownsRow base e size v k xs:=by
 refine h.kept hg ?_
 rcases h.2 with ⟨rfl,_⟩|⟨g,cap,cur,rfl,_,hgb,_⟩
 ·exact .inl rfl
 refine .inr fun e'=>?_
 obtain ⟨o,ho,hw⟩:=hrow g (by simpa [Value.ownBlock] using e'.symm)
 rw [hgb] at ho;cases ho;cases hw
theorem Ks.Om (w0:World) (fn:FuncId) (sv:Value) (Bs l D B:Nat) (hB:w0.heap.size≤B):AbidesFrom B (Ks.RA w0 fn sv Bs l D):=fun s W W' row h hg hrow=>by
 have hrow':∀r,row=some r→∃o:Obj,W.heap[r]?=some o∧o.isWalk=true:=fun r e=>(hrow r e).2
 obtain ⟨v,hv,hr,hn⟩:=h.box
 exact ⟨⟨v,(grownBy_keeps hg hrow' hv rfl).trans hv,BN hr hg hrow',hn⟩,(grownBy_keeps hg hrow' h.L rfl).trans h.L,(grownBy_keeps hg hrow' h.K rfl).trans h.K,
  h.below.grown hg h.below.size (fun k e=>Nat.le_trans hB (hrow k e).1)⟩
theorem fN (W:World) (l:Nat) (o:Obj):W.grownBy (W.putObj l o) (some l):=
 ⟨rfl,rfl,rfl,by simp,fun k _ hk=>World.putObj_heap_other (fun e=>hk (by rw [e]))⟩
theorem xo (W:World) (b:Nat) (v:Value):W.grownBy (W.setCell ⟨b,0,none⟩ v) (some b):=
 ⟨rfl,rfl,rfl,(KeepsWalks.setCell W _ v).size,fun k _ hk=>Below.heap_setCell _ _ _ k (fun e=>hk (by rw [e]))⟩
theorem kr {W:World} {base:Nat} {e:TypeId} {size:Nat} {v:Value} {k:Nat} {xs:List Value} (h:W.ownsRow base e size v k xs) {j:Nat} {o:Obj} (hj:W.heap[j]?=some o) (hno:∀cur,o≠.cells cur e (0,0)):
 v.ownBlock=none∨v.ownBlock≠some j:=by
 rcases h.2 with ⟨rfl,_⟩|⟨g,cap,cur,rfl,_,hgb,_⟩
 ·exact .inl rfl
 refine .inr fun e'=>?_
 have:g=j:=by simpa [Value.ownBlock] using e'
 subst this;rw [hgb] at hj;cases hj;exact hno cur rfl
theorem rJ {W:World} {B:Nat} {v:Value} {t:TypeId} (h:W.heap[B]?=some (.cells #[v] t (0,0))):W.cell? ⟨B,0,none⟩=some v∧W.frozen? ⟨B,0,none⟩=false:=by
 constructor<;>simp [World.cell?,World.frozen?,h]
theorem xu {W:World} {B:Nat} {v:Value} {t:TypeId} (v':Value) (h:W.heap[B]?=some (.cells #[v] t (0,0))):(W.setCell ⟨B,0,none⟩ v').heap[B]?=some (.cells #[v'] t (0,0)):=by
 obtain ⟨hlt,hk⟩:=Array.getElem?_eq_some_iff.1 h
 show (W.heap.modify B _)[B]?=_
 rw [Array.getElem?_eq_getElem (by rw [Array.size_modify];exact hlt),Array.getElem_modify_self,hk]
 rfl
theorem xw {W:World} {base:Nat} {e:TypeId} {size:Nat} {v:Value} {k:Nat} {xs:List Value} (h:W.ownsRow base e size v k xs):∀(j:Nat) (o:Obj),v.ownBlock=some j→W.heap[j]?=some o→o.isWalk=false:=by
 intro j o hj ho
 rcases h.2 with ⟨rfl,_⟩|⟨g,cap,cur,rfl,_,hgb,_⟩
 ·simp [Value.ownBlock] at hj
 have:g=j:=by simpa [Value.ownBlock] using hj
 subst this;rw [hgb] at ho;cases ho;rfl
theorem Ks.Y4:(Tryz.prog.info? 24).map (fun i=>(i.zero,i.size,i.bytes))=some (some (.int .u64 0),1,8):=by kernel_rfl
set_option maxRecDepth 100000 in
set_option maxHeartbeats 2000000 in
theorem Ks.T7 (F:Fence) (m:Nat) (w0:World) (fn:FuncId) (hfn:F.fn fn) (sv:Value) (Bs l D:Nat) (hBl:Bs≠l) (hDl:D≠l) (hDB:D≠Bs) (h0B:w0.heap.size≤Bs) (h0l:w0.heap.size≤l)
 (N:Nat) (hN:N≤maxLen) (hNb:N*8≤140737488355328) (ss:List Int) (x:Int) (W:World) (h:Ks.RA w0 fn sv Bs l D ss W) (hlen:ss.length<N):
 YieldAt F m Tryz.prog l #[gA x] W fun e W'=>e=.returned (.bool true)∧Ks.RA w0 fn sv Bs l D (ss++[x]) W'∧KeepsWalks W W':=by
 obtain ⟨i0,hi,hz0,hz1,hz2⟩:=info_parts Ks.Y4
 obtain ⟨v,hv,hrow,_⟩:=h.box
 refine ⟨fn,#[.slice none 0 0,sv,.pointer (some ⟨Bs,0,none⟩),undef,.slice none 0 0,undef,sv,gA x,undef,undef,undef,undef,undef],Ks.BM,Ks.KR,by simpa [Ks.rI] using run_yield (P:=Tryz.prog) (args:=#[gA x]) h.L rfl,roundIn_of_wpIn hfn ?_⟩
 have hl:l<W.heap.size:=(Array.getElem?_eq_some_iff.1 h.L).1
 have hbr:=run_beginRound (P:=Tryz.prog) h.L rfl
 obtain ⟨W2,hW2⟩:∃W2,W.putObj l (.loop {Ks.rI fn sv Bs D .ready none with state:=.busy})=W2:=⟨_,rfl⟩
 rw [hW2] at hbr
 have hg2:W.grownBy W2 (some l):=by rw [←hW2];exact fN _ _ _
 have hk2:KeepsWalks W W2:=by rw [←hW2];exact KeepsWalks.putObj _ h.L rfl
 have hv2:W2.heap[Bs]?=some (.cells #[v] 48 (0,0)):=by rw [←hW2];exact (World.putObj_heap_other hBl).trans hv
 have hK2:W2.heap[D]?=some (.deferred (some [])):=by rw [←hW2];exact (World.putObj_heap_other hDl).trans h.K
 have hL2:W2.heap[l]?=some (.loop {Ks.rI fn sv Bs D .ready none with state:=.busy}):=by rw [←hW2];exact World.putObj_heap_same hl
 have hrow2:W2.ownsRow w0.heap.size 24 1 v ss.length (ss.map gA):=hrow.kept hg2 (kr hrow h.L (fun cur e=>by cases e))
 have hb2:Below w0.heap.size w0 W2:=h.below.grown hg2 h.below.size (fun k e=>by cases e;exact h0l)
 obtain ⟨hc2,hf2⟩:=rJ hv2
 have hBlt:Bs<W2.heap.size:=(Array.getElem?_eq_some_iff.1 hv2).1
 have hl2:l<W2.heap.size:=(Array.getElem?_eq_some_iff.1 hL2).1
 have hDlt:D<W2.heap.size:=(Array.getElem?_eq_some_iff.1 hK2).1
 have ne_of:∀{j:Nat} {o:Obj},W2.heap[j]?=some o→(∀cur,o≠.cells cur 24 (0,0))→some j≠v.ownBlock:=fun hj hno=>by
  rcases kr hrow2 hj hno with e|e
  ·rw [e];simp
  exact fun e'=>e e'.symm
 clear hW2
 unfold Ks.BM
 gi_wp2_with (rw [Oper.semAt_eq _ _ _ (fun c h=>by cases h)];go_simp;try go_bits)
 unfold Ks.KR
 gi_wp2_with (first
  |(
   gi_at_builtin;refine wpListIn_append_own _ rfl _ _ 48 rfl w0.heap.size 24 i0 (.int .u64 0) 1 8 Tryz.underlying48 hi hz0 hz1 hz2 rfl (by decide) _ _ _ rfl (hrow2.alloc _) ⟨W2.heap.size,0,none⟩ 1 1 [gA x] rfl rfl (cell_one_new _ _ _) (by simp [Value.oneCell',gA]) (by omega) (by omega) (by have:=hb2.size;simp;omega) ?_;intro v' w3 hown' hg3 hnil3
   have hv3:w3.heap[Bs]?=some (.cells #[v] 48 (0,0)):=(hg3.block Bs (by simp;omega) (ne_of hv2 (fun cur e=>by cases e))).trans ((Below.heap_alloc _ _ Bs hBlt).trans hv2)
   obtain ⟨hc3,hf3⟩:=rJ hv3
   obtain ⟨g',cap',cur',rfl,hbase',hgb',hr1,hr2,hr3,hr4⟩:∃g' cap' cur',v'=.slice (some ⟨g',0,none⟩) (ss.length+1) cap'∧w0.heap.size≤g'∧w3.heap[g']?=some (.cells cur' 24 (0,0))∧ss.length+1≤cap'∧cap'≤maxLen∧cur'.size=cap'*1∧cur'.toList.take ((ss.length+1)*1)=ss.map gA++[gA x]:=by
    rcases hown'.2 with ⟨_,h0⟩|h'
    ·exact absurd h0 (by omega)
    exact h'
   go_frame)
  |(rw [Oper.semAt_eq _ _ _ (fun c h=>by cases h)];go_simp;try go_bits))
 have hg3':(W2.alloc (.cells #[gA x] 24)).grownBy w3 v.ownBlock:=hg3
 have hL3:w3.heap[l]?=some (.loop {Ks.rI fn sv Bs D .ready none with state:=.busy}):=(hg3'.block l (by simp;omega) (ne_of hL2 (fun cur e=>by cases e))).trans ((Below.heap_alloc _ _ l hl2).trans hL2)
 have hK3:w3.heap[D]?=some (.deferred (some [])):=(hg3'.block D (by simp;omega) (ne_of hK2 (fun cur e=>by cases e))).trans ((Below.heap_alloc _ _ D hDlt).trans hK2)
 obtain ⟨w4,hw4⟩:∃w4,w3.setCell ⟨Bs,0,none⟩ (.slice (some ⟨g',0,none⟩) (ss.length+1) cap')=w4:=⟨_,rfl⟩
 rw [hw4]
 have hg4:w3.grownBy w4 (some Bs):=by rw [←hw4];exact xo _ _ _
 have hv4:w4.heap[Bs]?=some (.cells #[.slice (some ⟨g',0,none⟩) (ss.length+1) cap'] 48 (0,0)):=by rw [←hw4];exact xu _ hv3
 have hL4:w4.heap[l]?=some (.loop {Ks.rI fn sv Bs D .ready none with state:=.busy}):=(hg4.block l (Array.getElem?_eq_some_iff.1 hL3).1 (fun e=>hBl (by cases e;rfl))).trans hL3
 have hK4:w4.heap[D]?=some (.deferred (some [])):=(hg4.block D (Array.getElem?_eq_some_iff.1 hK3).1 (fun e=>hDB (by cases e;rfl))).trans hK3
 have hrow4:=hown'.kept hg4 (kr hown' hv3 (fun cur e=>by cases e))
 have hl4:l<w4.heap.size:=(Array.getElem?_eq_some_iff.1 hL4).1
 have hb3:Below w0.heap.size w0 w3:=(hb2.alloc hb2.size _).grown hg3' (by have:=hb2.size;simp;omega) (fun k e=>(hrow2.lt k e).1)
 have hb4:Below w0.heap.size w0 w4:=hb3.grown hg4 hb3.size (fun k e=>by cases e;exact h0B)
 have hk4:KeepsWalks W w4:=((hk2.trans (KeepsWalks.alloc _ _)).trans (KeepsWalks.of_grownBy hg3' (xw (hrow2.alloc _)))).trans (by rw [←hw4];exact KeepsWalks.setCell _ _ _)
 clear hw4
 refine ⟨_,_,run_endRound none hL4,rfl,⟨⟨_,(World.putObj_heap_other hBl).trans hv4,?_,by simp⟩,World.putObj_heap_same hl4,(World.putObj_heap_other hDl).trans hK4,hb4.grown (fN _ _ _) hb4.size (fun k e=>by cases e;exact h0l)⟩,hk4.trans (KeepsWalks.putObj _ hL4 rfl)⟩
 have:=hrow4.kept (fN w4 l (.loop {{Ks.rI fn sv Bs D .ready none with state:=.busy} with state:=if (none:Option Code).isNone then .ready else .done,pending:=none})) (kr hrow4 hL4 (fun cur e=>by cases e))
 simpa using this
set_option maxRecDepth 100000 in
set_option maxHeartbeats 2000000 in
theorem Ks.E4 (F:Fence) (n:Nat) (h11:F.fn 218) (hro:F.round=none) (hn:2≤n) (g:Nat) (lb:Array Value) (hFg:F.fn g) (eg:∀args w,(callFunc g args).run Tryz.prog w=.ok (.enter g args) w)
 (S:List Int→Prop) (N:Nat) (hN:N≤maxLen) (hNb:N*8≤140737488355328) (w:World) (hseq:SeqGives F (n-1) Tryz.prog g lb gA S N w):
 CallsIn F n Tryz.prog 218 #[.slice none 0 0,.func (.func g) #[] lb] w fun e w'=>∃(v:Value) (ss:List Int),e=.returned v∧S ss∧w'.ownsRow w.heap.size 24 1 v ss.length (ss.map gA)∧(v=.slice none 0 0↔ss=[])∧Below w.heap.size w w':=by
 have h1:1≤n:=by omega
 refine callsIn_of_wp_marks Tryz.func218 rfl h11 ?_ hro
 simp only [Tryz.ntmps218,List.size_toArray,List.length_cons,List.length_nil,Nat.reduceAdd,Nat.reduceSub,Array.replicate_succ,Array.replicate_zero,List.push_toArray,List.append_toArray,List.nil_append,List.cons_append]
 gi_wp2
 refine wpIn_rangeFunc ?_
 intro fn hfn
 rw [hro]
 obtain ⟨W0,hW0⟩:∃W0,w.alloc (.cells #[.slice none 0 0] 48)=W0:=⟨_,rfl⟩
 have hs0:W0.heap.size=w.heap.size+1:=by rw [←hW0];simp
 have hv0:W0.heap[w.heap.size]?=some (.cells #[.slice none 0 0] 48 (0,0)):=by rw [←hW0];exact World.alloc_heap_new w _
 have hb0:Below w.heap.size w W0:=by rw [←hW0];exact (Below.refl _ w).alloc (Nat.le_refl _) _
 rw [hW0]
 obtain ⟨W1,hW1⟩:∃W1,(W0.alloc (.deferred (some []))).alloc (.loop (Ks.rI fn (.func (.func g) #[] lb) w.heap.size W0.heap.size .ready none))=W1:=⟨_,rfl⟩
 have hold:∀k,k<W0.heap.size→W1.heap[k]?=W0.heap[k]?:=fun k hk=>by
  rw [←hW1];exact (Below.heap_alloc _ _ k (by simp;omega)).trans (Below.heap_alloc _ _ k hk)
 have hb1:Below w.heap.size w W1:=by rw [←hW1];exact (hb0.alloc hb0.size _).alloc (by have:=hb0.size;simp;omega) _
 have hs1:W1.heap.size=W0.heap.size+2:=by rw [←hW1];simp
 have hM:Ks.RA w fn (.func (.func g) #[] lb) w.heap.size (W0.heap.size+1) W0.heap.size [] W1:=
  ⟨⟨_,(hold w.heap.size (by omega)).trans hv0,⟨rfl,.inl ⟨rfl,rfl⟩⟩,by simp⟩,
   by rw [←hW1];have:=World.alloc_heap_new (W0.alloc (.deferred (some []))) (.loop (Ks.rI fn (.func (.func g) #[] lb) w.heap.size W0.heap.size .ready none));rwa [World.size_alloc] at this,
   by rw [←hW1];exact (Below.heap_alloc _ _ _ (by simp)).trans (World.alloc_heap_new W0 _),hb1⟩
 refine ⟨W0.heap.size+1,[{target:=.collected W0.heap.size,args:=#[]}],W1,{target:=.fn (.func g) lb,args:=#[.func (.yield (W0.heap.size+1)) #[] #[]]},W1,g,
  #[.func (.yield (W0.heap.size+1)) #[] #[]]++lb,W1,?_,?_,?_,?_,fun _=>h1,?_⟩
 ·rw [←hW1];exact run_enterLoop_outer _ _ _ _ _
 ·simp [resolve,go_sem]
 ·intro f' hf';simp [Target.leads] at hf';subst hf';exact hFg
 ·simp [invoke,go_sem,eg]
 refine (hseq (W0.heap.size+1) (Ks.RA w fn (.func (.func g) #[] lb) w.heap.size (W0.heap.size+1) W0.heap.size) W1 hb1 (Ks.Om _ _ _ _ _ _ _ hb1.size)
  (fun pre x W hJ hl=>Ks.T7 F (n-1-1) w fn hfn _ w.heap.size (W0.heap.size+1) W0.heap.size (by omega) (by omega) (by omega) (Nat.le_refl _) (by omega) N hN hNb pre x W hJ hl) hM).mono ?_
 rintro e W2 ⟨⟨v0,rfl⟩,ss,hS,h2⟩
 obtain ⟨v,hv,hrow,hnil⟩:=h2.box
 have hend:=run_endLoop (P:=Tryz.prog) h2.L (by simp [Ks.rI])
 obtain ⟨W3,hW3⟩:∃W3,W2.putObj (W0.heap.size+1) (.loop {Ks.rI fn (.func (.func g) #[] lb) w.heap.size W0.heap.size .ready none with state:=.exhausted})=W3:=⟨_,rfl⟩
 rw [hW3] at hend
 have hg3:W2.grownBy W3 (some (W0.heap.size+1)):=by rw [←hW3];exact fN _ _ _
 have hv3:W3.heap[w.heap.size]?=some (.cells #[v] 48 (0,0)):=by rw [←hW3];exact (World.putObj_heap_other (by omega)).trans hv
 have hK3:W3.heap[W0.heap.size]?=some (.deferred (some [])):=by rw [←hW3];exact (World.putObj_heap_other (by omega)).trans h2.K
 have hrow3:=hrow.kept hg3 (kr hrow h2.L (fun cur e=>by cases e))
 have hb3:Below w.heap.size w W3:=h2.below.grown hg3 h2.below.size (fun k e=>by cases e;omega)
 obtain ⟨hc3,hf3⟩:=rJ hv3
 clear hW3
 refine ⟨none,W3,hend,?_⟩
 gi_wp2
 rw [←hs0]
 refine ⟨by simp,.inl ⟨_,_,rfl,run_takeDeferred hK3,?_⟩⟩
 exact ⟨_,results_tmp rfl _ _ _,v,ss,rfl,hS,hrow3.kept (fN _ _ _) (kr hrow3 hK3 (fun cur e=>by cases e)),hnil,hb3.grown (fN _ _ _) hb3.size (fun k e=>by cases e;omega)⟩
set_option maxHeartbeats 1000000 in
theorem Ks.KV (F:Fence) (n:Nat) (h8:F.fn 194) (h11:F.fn 218) (hro:F.round=none) (hn:3≤n) (g:Nat) (lb:Array Value) (hFg:F.fn g) (eg:∀args w,(callFunc g args).run Tryz.prog w=.ok (.enter g args) w)
 (S:List Int→Prop) (N:Nat) (hN:N≤maxLen) (hNb:N*8≤140737488355328) (w:World) (hseq:SeqGives F (n-1-1) Tryz.prog g lb gA S N w):
 CallsIn F n Tryz.prog 194 #[.func (.func g) #[] lb] w fun e w'=>∃(v:Value) (ss:List Int),e=.returned v∧S ss∧w'.ownsRow w.heap.size 24 1 v ss.length (ss.map gA)∧(v=.slice none 0 0↔ss=[])∧Below w.heap.size w w':=by
 have h1:1≤n:=by omega
 refine callsIn_of_wp Tryz.func194 rfl h8 ?_ hro
 simp only [Tryz.ntmps194,List.size_toArray,List.length_cons,List.length_nil,Nat.reduceAdd,Nat.reduceSub,Array.replicate_succ,Array.replicate_zero,List.push_toArray,List.append_toArray,List.nil_append,List.cons_append]
 gi_wp2_with (gi_at_call 218;refine (Ks.E4 F (n-1) h11 hro (by omega) g lb hFg eg S N hN hNb _ hseq).mono ?_;rintro e w' ⟨v,ss,rfl,hS,hrow,hnil,hb⟩)
 go_ret
 exact ⟨v,ss,rfl,hS,hrow,hnil,hb⟩
end Go.Proofs
end
section
open Go
namespace Dem
section
variable {α:Type} [Inhabited α] {lt:α→α→Bool} {cells:α→List D}
theorem tn (a b i:Nat) (d:Array α) (h:i<b):Sort.insOuter lt a b i d=Sort.insOuter lt a b (i+1) (Sort.insInner lt a i d):=by rw [Sort.insOuter,if_pos h]
theorem vS (a b i:Nat) (d:Array α) (h:b≤i):Sort.insOuter lt a b i d=d:=by rw [Sort.insOuter,if_neg (by omega)]
theorem swp_size (q:Array α) (i j:Nat):(Sort.swp q i j).size=q.size:=by simp [Sort.swp]
theorem yM {a j:Nat} {q:Array α} (h:a<j) (hl:lt q[j]! q[j-1]! =true):Sort.insInner lt a j q=Sort.insInner lt a (j-1) (Sort.swp q j (j-1)):=by
 cases j with
 |zero=>omega
 |succ j=>rw [Sort.insInner,if_pos (by simpa using ⟨h,hl⟩)];simp
theorem tq {a j:Nat} {q:Array α} (h:a<j→lt q[j]! q[j-1]! =false):Sort.insInner lt a j q=q:=by
 cases j with
 |zero=>rfl
 |succ j=>rw [Sort.insInner,if_neg (by simp;intro g;simpa using h (by omega))]
theorem E5 {q:Array α} {u:List (List D)} (hu:u=q.toList.map cells) {j:Nat} (h:j<q.size):u.getD j []=cells q[j]!:=by
 subst hu;simp [List.getD,h]
theorem zF {q:Array α} {u:List (List D)} (hu:u=q.toList.map cells) (cT:α→List D) (hT:∀x,cells x=cT x) (j:Nat) {g:Bool} {c:Prop} {ds:List D} {K:List D→Prop} (h:g=true→j<q.size∧u.getD j []=ds∧(j<u.length→c)) (hK:∀x,x=q[j]!→K (cT x)):AF g c ds K:=by
 refine VI _ (fun hg=>?_) (hK _ rfl)
 obtain ⟨h1,h2,h3⟩:=h hg
 exact ⟨h3 (by rw [hu];simpa using h1),by rw [←h2,E5 hu h1,hT]⟩
theorem BP:∀{r s:List D},r.length=s.length→bw r 0 s=s
 |[],[],_=>rfl
 |x::r,y::s,h=>by rw [bw,BP (by simpa using h)]
theorem KW {q:Array α} {u:List (List D)} (hu:u=q.toList.map cells) {n:Nat} (hn:∀x,(cells x).length=n) {i:Nat} (h:i<q.size) (y:α):u.set i (bw (u.getD i []) 0 (cells y))=(q.setIfInBounds i y).toList.map cells:=by
 rw [E5 hu h,BP (by rw [hn,hn])];subst hu;simp [List.map_set]
theorem RC {q:Array α} {u:List (List D)} (hu:u=q.toList.map cells) {n:Nat} (hn:∀x,(cells x).length=n) {i:Nat} (h:i<q.size) {s:List D} (hs:s.length=n):i<u.length∧0+s.length≤(u.getD i []).length:=by
 refine ⟨by rw [hu];simpa using h,?_⟩
 rw [E5 hu h,hn];omega
theorem RD {q:Array α} {u:List (List D)} (hu:u=q.toList.map cells) {n:Nat} (hn:∀x,(cells x).length=n) {i j:Nat} (hi:i<q.size) (hj:j<q.size) {y z:α} (hy:y=q[i]!) (hz:z=q[j]!):
 (u.set i (bw (u.getD i []) 0 (cells z))).set j (bw ((u.set i (bw (u.getD i []) 0 (cells z))).getD j []) 0 (cells y))=(Sort.swp q i j).toList.map cells:=by
 rw [KW hu hn hi z,KW rfl hn (by simpa using hj) y,hy,hz];rfl
end
end Dem
end
section
open Go Dem Go.Proofs
namespace Dem
variable {t:Th}
def cY (x:Int):List D:=[.int .u64 x]
def Uc (_:Th) (x:Int):List D:=[.int .u64 x]
def yN (x y:Int):Bool:=decide (x<y)
theorem Ud (ht:TT t) (x y:Int):FC 240 [aA x,aA y] [] (.ret (bX (t _ fun _=>yN x y))) []:=by
 refine bH ht (aF:=[]) Tryz.func240 rfl rfl (N:=17) rfl rfl (n:=0) rfl rfl ?_
 cbv
 refine aM trv (EX ht _) trv rfl rfl (fun r0 cN=>?_)
 simp only [ht] at cN
 cbv
 refine gI (by simp [ht,ah]) ?_
 refine bJ (fun g1=>⟨by simp [ht] at g1 ⊢;exact g1,trv,EX ht _⟩) rfl rfl (fun r2 fQ=>?_)
 simp only [ht] at fQ
 cbv
 refine gI (by simp [ht,ah]) ?_
 refine pI (by simp [ht,ah]) ?_
 iterate 3 refine gI (by simp [ht,ah]) ?_
 refine pI (by simp [ht,ah];intros;simp_all) ?_
 refine av trv trv rfl rfl rfl ?_
 (simp [ht,bX,yN, *];done)
theorem E6 {q:Array Int} {u:List (List D)} (hu:u=q.toList.map cY) {j:Nat} (h:j<q.size):u.getD j []=[.int .u64 q[j]!]:=by
 subst hu;simp [List.getD,h,cY]
theorem Ue {q:Array Int} {u:List (List D)} (hu:u=q.toList.map cY) (j:Nat) {g:Bool} {c:Prop} {ds:List D} {K:List D→Prop} (h:g=true→j<q.size∧u.getD j []=ds∧(j<u.length→c)) (hK:∀x,x=q[j]!→K [.int .u64 x]):AF g c ds K:=by
 refine VI _ (fun hg=>?_) (hK _ rfl)
 obtain ⟨h1,h2,h3⟩:=h hg
 exact ⟨h3 (by rw [hu];simpa using h1),by rw [←h2,E6 hu h1]⟩
theorem KX {q:Array Int} {u:List (List D)} (hu:u=q.toList.map cY) {i:Nat} (h:i<q.size) (y:Int):u.set i (bw (u.getD i []) 0 [.int .u64 y])=(q.setIfInBounds i y).toList.map cY:=by
 rw [E6 hu h];subst hu;simp [bw,List.map_set,cY]
theorem RE {q:Array Int} {u:List (List D)} (hu:u=q.toList.map cY) {i:Nat} (h:i<q.size) (x:D):i<u.length∧0+[x].length≤(u.getD i []).length:=by
 refine ⟨by rw [hu];simpa using h,?_⟩
 rw [E6 hu h];exact Nat.le_refl _
theorem WC (ht:TT t) (a b n:Nat) (d:Array Int) {es:List (List D)} {ai bi:Int} (ha:ai=a) (xJ:bi=b) (aB:es=d.toList.map cY) (hn:n=d.size) (hb:b≤n) (hl:n<1000000000) (haa:a<1000000000):
 FC 234 [.ow 0 1 n,bI ai,bI bi] [.row 1 es] (.ret (.eE [])) [.row 1 (t _ fun _=>(Sort.insertionSort yN d a b).toList.map cY)]:=by
 refine bH ht (aF:=[.row 1 es]) Tryz.func234 rfl rfl (N:=49) rfl rfl (n:=1) rfl rfl ?_
 cbv
 obtain ⟨J0,dR⟩:∃J0:Nat→Int×List (List D)→Prop,∀m i u,J0 m (i,u)↔(∃(k:Nat) (r:Array Int),i=k∧b≤k+m∧a+1≤k∧k≤1000000000∧r.size=n∧u=r.toList.map cY∧Sort.insertionSort yN d a b=Sort.insOuter yN a b k r):=⟨fun m v=>match v with|(i,u)=>(∃(k:Nat) (r:Array Int),i=k∧b≤k+m∧a+1≤k∧k≤1000000000∧r.size=n∧u=r.toList.map cY∧Sort.insertionSort yN d a b=Sort.insOuter yN a b k r),fun _ _ _=>Iff.rfl⟩
 refine bF ⟨[0,1,2,6],[],[]⟩ (σ:=Int×List (List D)) (fun v=>[(6,.d (.int .i64 (t _ fun _=>v.1)))]) (fun v=>[(0,.row 1 (t _ fun _=>v.2))]) J0 ?_
 cbv
 refine aD ⟨b,(_,_),(dR _ _ _).2 ?_,by simp only [ht];rfl,?_⟩
 ·exact ⟨a+1,d,by rw [ha];exact aC (by ((try simp only [aa] at*);omega)),by ((try simp only [aa] at*);omega),by ((try simp only [aa] at*);omega),by ((try simp only [aa] at*);omega),hn.symm,aB,rfl⟩
 rintro m ⟨i,u⟩ hj
 replace hj:=(dR _ _ _).1 hj
 obtain ⟨k,r,rfl,j1,j2,j3,j5,j6,j4⟩:=hj
 cbv
 refine an (fun h1=>?_) (fun h1=>?_)
 ·simp [ht,aa] at h1
  cbv
  obtain ⟨J2,yL⟩:∃J2:Nat→Int×List (List D)→Prop,∀m2 jj u,J2 m2 (jj,u)↔(∃(j:Nat) (q:Array Int),jj=j∧j≤m2∧j≤k∧q.size=n∧u=q.toList.map cY∧Sort.insertionSort yN d a b=Sort.insOuter yN a b (k+1) (Sort.insInner yN a j q)):=⟨fun m2 v=>match v with|(jj,u)=>(∃(j:Nat) (q:Array Int),jj=j∧j≤m2∧j≤k∧q.size=n∧u=q.toList.map cY∧Sort.insertionSort yN d a b=Sort.insOuter yN a b (k+1) (Sort.insInner yN a j q)),fun _ _ _=>Iff.rfl⟩
  refine bF ⟨[0,1,2,6,7],[],[]⟩ (σ:=Int×List (List D)) (fun v=>[(7,.d (.int .i64 (t _ fun _=>v.1)))]) (fun v=>[(0,.row 1 (t _ fun _=>v.2))]) J2 ?_
  cbv
  refine aD ⟨k,(_,_),(yL _ _ _).2 ?_,rfl,?_⟩
  ·exact ⟨k,r,rfl,by ((try simp only [aa] at*);omega),by ((try simp only [aa] at*);omega),j5,j6,by rw [j4,tn];((try simp only [aa] at*);omega)⟩
  rintro m2 ⟨jj,u⟩ hj
  replace hj:=(yL _ _ _).1 hj
  obtain ⟨j,q,rfl,q1,q2,q5,q6,q4⟩:=hj
  cbv
  refine cO [false,false,true,true,false,false,false,false,false,false,false,false,false,true,true] (by kernel_rfl) (by kernel_rfl) ?_
  cbv
  iterate 4 refine gI (by simp [ht,ah]) ?_
  refine gI (by simp [ht,ah,bO,aa,yN];grind) ?_
  (refine Ue q6 j (fun g=>(by simp [ht,aa] at g ⊢;exact ⟨by ((try simp only [aa] at*);omega),fun h=>(by first|exact h|exact ⟨g,h⟩|exact g|((try simp only [aa] at*);omega))⟩)) (fun y ey=>?_))
  cbv
  iterate 3 refine gI (by simp [ht,ah]) ?_
  refine gI (by (simp [ht,aa];intro g;rw [wrap64 (by ((try simp only [aa] at*);omega)) (by ((try simp only [aa] at*);omega))];((try simp only [aa] at*);omega))) ?_
  (refine Ue q6 (j-1) (fun g=>(by simp only [ht,decide_eq_true_eq,aa] at g ⊢;rw [wrap64 (by ((try simp only [aa] at*);omega)) (by ((try simp only [aa] at*);omega)),show ((j:Int)-1).toNat=j-1 by ((try simp only [aa] at*);omega)];exact ⟨by ((try simp only [aa] at*);omega),rfl,fun h=>(by first|exact h|exact ⟨g,h⟩|exact ⟨trv,h⟩)⟩)) (fun z ez=>?_))
  cbv
  refine bJ (fun g3=>⟨by simp [ht] at g3 ⊢;exact g3,trv,Ud ht _ _⟩) rfl rfl (fun r4 iA=>?_)
  simp only [ht] at iA
  cbv
  refine pI (by simp [ht,ah]) ?_
  refine an (fun h5=>?_) (fun h5=>?_)
  ·simp [ht,aa] at h5
   cbv
   refine Gw [0,1,2,3,4,5,6,7,10,11] [false,false,false,false,false,false,false,false,false,false,false,false,false,false,true,true,true,true] (by kernel_rfl) (by kernel_rfl) (by kernel_rfl) (by kernel_rfl) (by kernel_rfl) ?_
   cbv
   iterate 8 refine gI (by simp [ht,ah]) ?_
   refine gI (by (simp [ht,aa];rw [wrap64 (by ((try simp only [aa] at*);omega)) (by ((try simp only [aa] at*);omega))];((try simp only [aa] at*);omega))) ?_
   (refine Ue q6 (j-1) (fun g=>(by simp only [ht,aa];rw [wrap64 (by ((try simp only [aa] at*);omega)) (by ((try simp only [aa] at*);omega)),show ((j:Int)-1).toNat=j-1 by ((try simp only [aa] at*);omega)];exact ⟨by ((try simp only [aa] at*);omega),rfl,fun h=>h⟩)) (fun z2 ez2=>?_))
   cbv
   iterate 2 refine gI (by simp [ht,ah]) ?_
   refine gI (by simp [ht,ah,bO,aa,yN];grind) ?_
   (refine Ue q6 j (fun g=>(by simp only [ht,aa,Int.toNat_natCast];exact ⟨by ((try simp only [aa] at*);omega),trv,fun h=>h⟩)) (fun y2 ey2=>?_))
   cbv
   refine ⟨?_,?_⟩
   ·(simp only [ht,aa] at*;omega)
   refine ⟨?_,?_⟩
   ·(simp only [ht,aa,Int.toNat_natCast];exact RE q6 (by ((try simp only [aa] at*);omega)) _)
   refine ⟨?_,?_⟩
   ·(simp only [ht,aa];rw [wrap64 (by ((try simp only [aa] at*);omega)) (by ((try simp only [aa] at*);omega))];((try simp only [aa] at*);omega))
   refine ⟨?_,?_⟩
   ·(simp only [ht,aa,Int.toNat_natCast];rw [wrap64 (by ((try simp only [aa] at*);omega)) (by ((try simp only [aa] at*);omega)),show ((j:Int)-1).toNat=j-1 by ((try simp only [aa] at*);omega),KX q6 (by ((try simp only [aa] at*);omega))];exact RE rfl (by simp;((try simp only [aa] at*);omega)) _)
   cbv
   refine bQ (_,_) (by simp only [ht];rfl) (m2-1) ?_ ((yL _ _ _).2 ?_)
   ·((try simp only [aa] at*);omega)
   simp only [ht,aa]
   exact ⟨j-1,Sort.swp q j (j-1),pe (by ((try simp only [aa] at*);omega)) (by ((try simp only [aa] at*);omega)),by ((try simp only [aa] at*);omega),by ((try simp only [aa] at*);omega),by rw [swp_size];exact q5,by rw [wrap64 (by ((try simp only [aa] at*);omega)) (by ((try simp only [aa] at*);omega)),show ((j:Int)-1).toNat=j-1 by ((try simp only [aa] at*);omega),Int.toNat_natCast,KX q6 (by ((try simp only [aa] at*);omega)),KX rfl (by simp;((try simp only [aa] at*);omega)),ez2,ey2];rfl,by rw [q4,yM (by ((try simp only [aa] at*);omega)) (by rw [←ey,←ez,←iA];exact h5.2)]⟩
  simp [ht,aa] at h5
  cbv
  refine bQ (_,_) (by simp only [ht];rfl) (m-1) ?_ ((dR _ _ _).2 ?_)
  ·((try simp only [aa] at*);omega)
  simp only [ht,aa]
  exact ⟨k+1,q,aC (by ((try simp only [aa] at*);omega)),by ((try simp only [aa] at*);omega),by ((try simp only [aa] at*);omega),by ((try simp only [aa] at*);omega),q5,q6,by rw [q4,tq (fun g=>by rw [←ey,←ez,←iA];exact h5 (by ((try simp only [aa] at*);omega)))]⟩
 simp [ht,aa] at h1
 cbv
 refine av trv trv rfl ?_ rfl rfl
 (simp only [ht];rw [j4,vS _ _ _ _ (by ((try simp only [aa] at*);omega)),←j6];rfl)
def WD:List UInt8:=0::1::List.replicate 2 2++List.replicate 4 3++List.replicate 8 4++List.replicate 16 5++List.replicate 32 6++List.replicate 64 7++List.replicate 128 8
def WE (x:Int):Int:=(WD.getD x.toNat 0).toNat
theorem WG {x:Int} (h0:0≤x) (h1:x<256):IntKind.u8.wrap x=x:=by
 simp only [IntKind.wrap];simp [IntKind.bits,IntKind.signed];omega
theorem RF (b:UInt8):IntKind.i64.wrap (0+IntKind.i64.wrap (b.toNat:Int))=b.toNat:=by
 have:=b.toNat_lt
 rw [wrap64 (x:=(b.toNat:Int)) (by omega) (by omega),Int.zero_add,wrap64 (by omega) (by omega)]
theorem RG (ht:TT t) (x:Int) (hx0:0≤x) (hx:x<256):FC 244 [aA x] [] (.ret (gm (t _ fun _=>WE x))) []:=by
 have hw:=WG hx0 hx
 refine bH ht (aF:=[]) Tryz.func244 rfl rfl (N:=25) rfl rfl (n:=0) rfl rfl ?_
 cbv
 refine an (fun h0=>?_) (fun h0=>?_)
 ·simp [ht,aa] at h0
  omega
 simp [ht,aa] at h0
 cbv
 refine an (fun h1=>?_) (fun h1=>?_)
 ·simp [ht,aa] at h1
  omega
 simp [ht,aa] at h1
 cbv
 refine an (fun h2=>?_) (fun h2=>?_)
 ·simp [ht,aa] at h2
  omega
 simp [ht,aa] at h2
 cbv
 refine ⟨?_,?_⟩
 ·(simp only [ht,hw];exact ⟨hx0,by simpa using hx⟩)
 cbv
 refine av trv trv rfl rfl rfl ?_
 (simp only [ht,hw,RF,gm,WE];rfl)
theorem WH (ht:TT t) (x:Int) (hx0:0≤x) (hx:x<256):FC 220 [aA x] [] (.ret (gm (t _ fun _=>WE x))) []:=by
 refine bH ht (aF:=[]) Tryz.func220 rfl rfl (N:=8) rfl rfl (n:=0) rfl rfl ?_
 cbv
 refine an (fun h0=>?_) (fun h0=>?_)
 ·simp [ht,aa] at h0
 simp [ht,aa] at h0
 cbv
 refine aM trv (RG ht _ ‹_› ‹_›) trv rfl rfl (fun r1 dL=>?_)
 simp only [ht] at dL
 cbv
 refine av trv trv rfl rfl rfl ?_
 (simp [ht,gm, *];done)
theorem WI (ht:TT t) (n:Nat) (eH:Int) (d:Array Int) {es:List (List D)} {ni:Int} (hni:ni=n) (aB:es=d.toList.map cY) (hn:n=d.size) (hl:n≤12):
 FC 219 [.ow 0 1 n,bI 0,bI ni,bI eH] [.row 1 es] (.ret (.eE [])) [.row 1 (t _ fun _=>(Sort.insertionSort yN d 0 n).toList.map cY)]:=by
 have hw:IntKind.i64.wrap ni=ni:=wrap64 (by omega) (by omega)
 refine bH ht (aF:=[.row 1 es]) Tryz.func219 rfl rfl (N:=134) rfl rfl (n:=1) rfl rfl ?_
 cbv
 obtain ⟨J0,dR⟩:∃J0:Nat→Int×Int×Int×Bool×Bool→Prop,∀m a b c f g,J0 m (a,b,c,f,g)↔(a=0∧b=ni):=⟨fun m v=>match v with|(a,b,c,f,g)=>(a=0∧b=ni),fun _ _ _ _ _ _=>Iff.rfl⟩
 refine bF ⟨[0,1,2,3,8,9],[],[]⟩ (σ:=Int×Int×Int×Bool×Bool) (fun v=>[(1,.d (.int .i64 (t _ fun _=>v.1))),(2,.d (.int .i64 (t _ fun _=>v.2.1))),(3,.d (.int .i64 (t _ fun _=>v.2.2.1))),(8,.d (.bool (t _ fun _=>v.2.2.2.1))),(9,.d (.bool (t _ fun _=>v.2.2.2.2)))]) (fun v=>[]) J0 ?_
 cbv
 refine aD ⟨1,(_,_,_,_,_),(dR _ _ _ _ _ _).2 ?_,by simp only [ht];rfl,?_⟩
 ·exact ⟨rfl,rfl⟩
 rintro m ⟨a,b,c,f,g⟩ hj
 replace hj:=(dR _ _ _ _ _ _).1 hj
 obtain ⟨UF,xQ⟩:=hj
 have hw2:IntKind.i64.wrap (b-a)=ni:=by rw [UF,xQ,Int.sub_zero,hw]
 cbv
 refine an (fun h1=>?_) (fun h1=>?_)
 ·simp [ht,aa,hw] at h1
  cbv
  refine dx [0] trv rfl rfl (WC ht 0 n n d (by simp only [ht];((try simp only [aa] at*);omega)) (by simp only [ht];((try simp only [aa] at*);omega)) aB hn (Nat.le_refl _) (by ((try simp only [aa] at*);omega)) (by ((try simp only [aa] at*);omega))) (cz ?_)
  cbv
  refine av trv trv rfl rfl rfl ?_
  rfl
 simp [ht,aa,hw] at h1
 (simp only [aa] at*;omega)
theorem Uf (ht:TT t) (n:Nat) (d:Array Int) {es:List (List D)} (aB:es=d.toList.map cY) (hn:n=d.size) (hl:n≤12):
 FC 195 [.ow 0 1 n] [.row 1 es] (.ret (.eE [])) [.row 1 (t _ fun _=>(Sort.insertionSort yN d 0 n).toList.map cY)]:=by
 have hw:IntKind.u64.wrap (n:Int)=n:=by simp only [IntKind.wrap];simp [IntKind.bits,IntKind.signed];omega
 have hel:(es.length:Int)=n:=by rw [aB,hn];simp
 refine bH ht (aF:=[.row 1 es]) Tryz.func195 rfl rfl (N:=11) rfl rfl (n:=1) rfl rfl ?_
 cbv
 refine ⟨?_,?_⟩
 ·(simp only [ht,aa] at*;omega)
 cbv
 refine aM trv (WH ht _ (by simp only [ht];simp only [aa] at*;rw [hel,hw];omega) (by simp only [ht];simp only [aa] at*;rw [hel,hw];omega)) trv rfl rfl (fun r1 dL=>?_)
 cbv
 refine dx [0] trv rfl rfl (WI ht n _ d (by simp only [ht];exact hel) aB hn hl) (cz ?_)
 cbv
 refine av trv trv rfl rfl rfl ?_
 rfl
end Dem
end
section
namespace Dem
open Go Go.Proofs Go.RowKit Go.Maps Go.Sort Go.Shelf
variable {t:Th}
theorem Ug:SWO yN:=by
 refine ⟨?_,?_,?_⟩<;>simp only [yN]<;>simp<;>omega
theorem On (ss:List Int):(Sort.insertionSort yN ss.toArray 0 ss.length).toList=oa ss:=by
 obtain ⟨⟨h0,h1,h2⟩,h3⟩:=insertionSort_holds (lt:=yN) Ug ss.toArray 0 ss.length (Nat.zero_le _) (by simp)
 refine AW ?_ (sB ss) ?_
 ·rw [List.pairwise_iff_getElem]
  intro i j hi hj hij
  have hs:(Sort.insertionSort yN ss.toArray 0 ss.length).size=ss.length:=by rw [h0];simp
  simp only [Array.length_toList] at hi hj
  have:=h3 i j (Nat.zero_le _) hij (by omega)
  rw [getElem!_pos _ j hj,getElem!_pos _ i hi] at this
  simp only [Array.getElem_toList]
  simp [yN] at this
  exact this
 refine List.Perm.trans ?_ (ko ss).symm
 have hs:(Sort.insertionSort yN ss.toArray 0 ss.length).size=ss.length:=by rw [h0];simp
 have e1:(Sort.insertionSort yN ss.toArray 0 ss.length).extract 0 ss.length=Sort.insertionSort yN ss.toArray 0 ss.length:=by
  apply Array.extract_eq_self_of_le;omega
 have e2:ss.toArray.extract 0 ss.length=ss.toArray:=by apply Array.extract_eq_self_of_le;simp
 rw [e1,e2] at h2
 simpa using h2
end Dem
end
section
namespace Go.Proofs
open Go Go.RowKit Go.Maps Go.Sort Go.Shelf
open Dem (gA pO oz yK)
theorem Ks.Oo (F:Fence) (n:Nat) (h6:F.fn 151) (h8:F.fn 194) (h9:F.fn 195) (h11:F.fn 218) (hro:F.round=none) (hn:4≤n) (g:Nat) (lb:Array Value) (hFg:F.fn g) (eg:∀args w,(callFunc g args).run Tryz.prog w=.ok (.enter g args) w)
 (S:List Int→Prop) (N:Nat) (hN:N≤maxLen) (hNb:N*8≤140737488355328) (w:World) (hseq:SeqGives F (n-1-1-1) Tryz.prog g lb gA S N w)
 (Post:Value→List Int→World→Prop)
 (hsort:∀(v:Value) (ss:List Int) (W:World),S ss→W.ownsRow w.heap.size 24 1 v ss.length (ss.map gA)→(v=.slice none 0 0↔ss=[])→Below w.heap.size w W→CallsIn F (n-1) Tryz.prog 195 #[v] W fun e w'=>e=.returned (.tuple #[])∧Post v ss w'):
 CallsIn F n Tryz.prog 151 #[.func (.func g) #[] lb] w fun e w'=>∃(v:Value) (ss:List Int),e=.returned v∧S ss∧Post v ss w':=by
 have h1:1≤n:=by omega
 refine callsIn_of_wp Tryz.func151 rfl h6 ?_ hro
 simp only [Tryz.ntmps151,List.size_toArray,List.length_cons,List.length_nil,Nat.reduceAdd,Nat.reduceSub,Array.replicate_succ,Array.replicate_zero,List.push_toArray,List.append_toArray,List.nil_append,List.cons_append]
 gi_wp2_with (gi_at_call 194;refine (Ks.KV F (n-1) h8 h11 hro (by omega) g lb hFg eg S N hN hNb _ hseq).mono ?_;rintro e W ⟨v,ss,rfl,hS,hrow,hnil,hb⟩)
 have cS:=hsort v ss W hS hrow hnil hb
 gi_wp2_with (gi_at_call 195;refine cS.mono ?_;rintro e w' ⟨rfl,hp⟩)
 go_ret
 exact ⟨v,ss,rfl,hS,hp⟩
end Go.Proofs
namespace Dem
open Go Go.Proofs Go.RowKit Go.Maps Go.Sort Go.Shelf
variable {t:Th}
theorem DF {w:World} {ok:Nat→Prop}:∀(l:List ej) (ms:List MapEntry),bp w ok false (l.map ej.cells) ms→ms.map (·.key)=l.map (fun m=>gA m.bA)
 |[],ms,h=>by simp only [List.map_nil,bp] at h;subst h;rfl
 |m::l,ms,h=>by
  simp only [List.map_cons,bp] at h
  obtain ⟨e,r,rfl,h1,h2⟩:=h
  simp only [ej.cells,gB,aK] at h1
  rw [List.map_cons,List.map_cons,DF l r h2,h1.1]
def Uh {H:Type} (_:Value):Option (DataW H×List MemPlace):=some (.nil,[])
theorem RH {x:Int} (h0:0≤x) (h1:x<18446744073709551616):keyOf Tryz.prog 24 (gA x)=some (.int .u64 x):=by
 simp only [keyOf,Tryz.underlying24,mapKey,gA]
 rw [if_pos (by simp [Lit.wf,IntKind.min,IntKind.max,IntKind.signed,IntKind.bits];omega)]
theorem Oq {w:World} {ok:Nat→Prop} {l:List ej} {ms:Array MapEntry} {clock b:Nat} (hh:w.heap[b]?=some (.map ms clock)) (hs:kF ms clock) (hr:bp w ok false (l.map ej.cells) ms.toList)
 (hnd:(l.map ej.bA).Nodup) (hw:∀m∈l,0≤m.bA∧m.bA<18446744073709551616) (hlen:l.length≤1000000):
 ∃D0:DataW Unit,w.ownsMap Tryz.prog 24 Uh b ms.size D0∧(pO D0).Perm (l.map ej.bA)∧Maps.size D0=l.length:=by
 have hk:=DF l ms.toList hr
 have hl:ms.size=l.length:=by have:=congrArg List.length hk;simpa using this
 have hrd:∀x∈ms.toList,∃m∈l,x.key=gA m.bA:=by
  intro x hx
  have:x.key∈ms.toList.map (·.key):=List.mem_map.2 ⟨x,hx,rfl⟩
  rw [hk] at this
  obtain ⟨m,hm,e⟩:=List.mem_map.1 this
  exact ⟨m,hm,e.symm⟩
 have hread:∀x∈ms.toList,∃m∈l,x.key=gA m.bA∧WideElems.rd Tryz.prog 24 (Uh (H:=Unit)) x=some (.int .u64 m.bA,.nil):=by
  intro x hx
  obtain ⟨m,hm,e⟩:=hrd x hx
  refine ⟨m,hm,e,?_⟩
  unfold WideElems.rd
  rw [e,RH (hw m hm).1 (hw m hm).2]
  rfl
 refine ⟨_,⟨ms,clock,hh,⟨?_,⟨?_,hs.2,?_⟩,?_⟩,Nat.le_refl _,rfl⟩,?_,?_⟩
 ·rw [hl];exact Nat.le_trans hlen (by decide)
 ·intro x hx
  have:=hs.1
  rw [Array.all_eq_true_iff_forall_mem] at this
  simpa using this x (by simpa using hx)
 ·rw [hk]
  have:(l.map (fun m=>gA m.bA))=(l.map ej.bA).map gA:=by simp
  rw [this]
  exact List.pairwise_map.2 (hnd.imp (fun h e=>h (BK e)))
 ·intro x hx
  obtain ⟨m,hm,e,h⟩:=hread x hx
  exact ⟨_,h⟩
 ·show (List.map (fun p=>yK p.1) ((ms.toList.map (WideElems.rg Tryz.prog 24 Uh)).foldr DataW.insert [])).Perm _
  refine ((WideShapes.sorted_perm _).map _).trans ?_
  have e1:(ms.toList.map (WideElems.rg Tryz.prog 24 (Uh (H:=Unit)))).map (fun p=>yK p.1)=ms.toList.map (fun x=>match x.key with|.int _ a=>a|_=>0):=by
   rw [List.map_map]
   refine List.map_congr_left fun x hx=>?_
   obtain ⟨m,hm,e,h⟩:=hread x hx
   simp only [Function.comp,WideElems.rg,h,e,gA]
   rfl
  have e2:ms.toList.map (fun x=>match x.key with|.int _ a=>a|_=>0)=(ms.toList.map (·.key)).map (fun k=>match k with|.int _ a=>a|_=>0):=by rw [List.map_map];rfl
  rw [e1,e2,hk,List.map_map]
  exact List.Perm.refl _
 rw [Maps.size_eq,Go.length_sorted,lgM,Array.length_toList,hl]
end Dem
end
section
open Go Dem Go.Proofs
namespace Dem
variable {t:Th}
theorem Ui (ht:TT t) (es:List (List D)):FC 152 [.d (.mp false es)] [] (.ret (.fn 196 [.ptr 0 0])) [.var [.d (.mp false es)]]:=by
 refine bH ht (aF:=[]) Tryz.func152 rfl rfl (N:=4) rfl rfl (n:=0) rfl rfl ?_
 cbv
 refine JE trv ?_ ?_
 ·rfl
 rfl
theorem Ij {P:Program} {G:Nat→Option (List D)} {f g:Nat} {args:List AV} {x:D} (h:bC P G f args [] (.ret (.fn g [.ptr 0 0])) [.var [.d x]]):bC P G f args [] (.ret (.fn g [.ep [x]])) []:=by
 intro β w vs X cx hx
 refine (h β w vs X cx hx).mono ?_
 rintro e w' ⟨β',ex,mG,hr⟩
 have hok:∀blk,bt β' [.var [.d x]] w' X blk→bt β' [] w' X blk:=fun blk ⟨h1,h2,_⟩=>⟨h1,h2,fun i b h=>by simp at h⟩
 have hk:iZ w' w' (bt β' [.var [.d x]] w' X) (bt β' [] w' X):=fun blk hb=>⟨hok blk hb,rfl⟩
 have b0:=mG.box 0 _ rfl
 simp only [dj] at b0
 obtain ⟨c,e',v1,v2⟩:=b0
 simp only [ak,aj] at v2
 obtain ⟨u,r,hc,hu,rfl⟩:=v2
 refine ⟨β',⟨ex.os,ex.tape,ex.output,ex.size,ex.block,ex.shape,fun i hi=>by obtain ⟨b,h1,_⟩:=hi;simp at h1,fun i b h=>by simp at h⟩,?_,?_⟩
 ·refine ⟨mG.xs,fun g ds hg=>?_,by simp,by simp,by simp⟩
  obtain ⟨h1,h2⟩:=mG.yU g ds hg
  exact ⟨hok g h1,bf.mono hk g (fun _=>rfl) _ _ h2⟩
 cases e with
 |returned v=>
  simp only [lW,aj,ak] at hr ⊢
  obtain ⟨cs,rfl,p,ps,rfl,⟨rfl,_⟩,rfl⟩:=hr
  refine ⟨_,rfl,_,_,rfl,⟨β' 0,0,rfl,⟨(Array.getElem?_eq_some_iff.1 v1).1,mG.apart 0 _ rfl rfl,fun i b h=>by simp at h⟩,?_⟩,rfl⟩
  simp only [bf,and_true]
  refine ⟨u,?_,aK.mono hk _ _ hu⟩
  simp only [World.cell?,v1]
  have:c[0]?=some u:=by rw [←Array.getElem?_toList,hc];rfl
  simpa using this
 |_=>exact hr.elim
theorem Uj (ht:TT t) (es:List (List D)):FC 152 [.d (.mp false es)] [] (.ret (.fn 196 [.ep [.mp false es]])) []:=Ij (Ui ht es)
theorem Mp {w:World} {ok:Nat→Prop} {g:Nat} {cur:Array Value} {e:TypeId} (hg:w.heap[g]?=some (.cells cur e (0,0))):∀(ss:List Int) (off:Nat),(∀i x,ss[i]?=some x→cur[off+i]?=some (gA x))→ax w ok g 1 (ss.map cY) off
 |[],_,_=>by simp [ax]
 |x::ss,off,h=>by
  simp only [List.map_cons,ax,cY,List.length_cons,List.length_nil,bf,aK,and_true,true_and]
  refine ⟨?_,Mp hg ss (off+1) (fun i y hy=>by rw [show off+1+i=off+(i+1) by omega];exact h (i+1) y (by simpa using hy))⟩
  refine ⟨gA x,?_,rfl⟩
  have:=h 0 x rfl
  simp only [World.cell?,hg]
  simpa using this
theorem xx {n f:Nat} {vs:Array Value} {w:World} {R:Ending→World→Prop} (he:∀args w,(callFunc f args).run Tryz.prog w=.ok (.enter f args) w) (h:jA Tryz.prog f vs w R):CallsIn Fence.wide n Tryz.prog f vs w R:=by
 rcases h with ⟨_,h⟩|⟨v,w',h,_⟩
 ·exact callsIn_wide.2 h
 rw [he] at h;cases h
theorem Cx (ht:TT t) {l:List ej} {es:List (List D)} (aB:es=l.map ej.cells) (hnd:(l.map ej.bA).Nodup) (hw:∀m∈l,0≤m.bA∧m.bA<18446744073709551616) (hlen:l.length≤12):
 FC 151 [.fn 196 [.ep [.mp false es]]] [] (.ret (.ow 0 1 (t _ fun _=>l.length))) [.row 1 (t _ fun _=>(oa (l.map ej.bA)).map cY)]:=by
 simp only [ht]
 intro β w vs X cx hx
 subst aB
 simp only [ak,aj] at hx
 obtain ⟨u,us,rfl,⟨cs,rfl,⟨p,ps,rfl,⟨bk,off,rfl,_,Vc⟩,rfl⟩⟩,rfl⟩:=hx
 simp only [bf,aK,and_true] at Vc
 obtain ⟨mv,RI,bm,ms,clock,rfl,_,m1,m2,m3⟩:=Vc
 obtain ⟨D0,o1,o2,o3⟩:=Oq m1 m2 m3 hnd hw (by omega)
 have hbk:bk<w.heap.size:=by
  rcases Nat.lt_or_ge bk w.heap.size with h|h
  ·exact h
  simp [World.cell?,h] at RI
 have KT:=Ks.KQ Fence.wide 1 trv rfl (Nat.le_refl _) bk off bm _ D0 w hbk RI o1
 have hps:∀ss:List Int,ss.Perm (pO D0)→ss.Perm (l.map ej.bA):=fun ss h=>h.trans o2
 have key:=Ks.Oo Fence.wide 4 trv trv trv trv rfl (Nat.le_refl _) 196 _ trv (enters_of Tryz.func196 (by kernel_rfl) rfl) _ _ (by rw [o3];exact Nat.le_trans hlen (by decide)) (by rw [o3];omega) w KT
  (fun v ss w'=>∃β',Ext β [] w β' [.row 1 ((oa (l.map ej.bA)).map cY)] w'∧cI gl β' [.row 1 ((oa (l.map ej.bA)).map cY)] w' X∧
   aj β' [.row 1 ((oa (l.map ej.bA)).map cY)] w' (bt β' [.row 1 ((oa (l.map ej.bA)).map cY)] w' X) (.ow 0 1 l.length) v) ?_
 ·refine .inl ⟨enters_of Tryz.func151 (by kernel_rfl) rfl _ _,(callsIn_wide.1 key).mono ?_⟩
  rintro e w' ⟨v,ss,rfl,_,β',h1,h2,h3⟩
  exact ⟨β',h1,h2,h3⟩
 intro v ss W hS hrow KU hb
 have hp:=hps ss hS
 have hn:ss.length=l.length:=by rw [hp.length_eq];simp
 have ML:∃β1,Ext β [] w β1 [.row 1 (ss.map cY)] W∧cI gl β1 [.row 1 (ss.map cY)] W X∧aj β1 [.row 1 (ss.map cY)] W (bt β1 [.row 1 (ss.map cY)] W X) (.ow 0 1 ss.length) v:=by
  rcases hrow.2 with ⟨rfl,hz⟩|⟨g,cap,cur,rfl,hbase,hg,r1,r2,r3,r4⟩
  ·have hss:ss=[]:=List.eq_nil_of_length_eq_zero hz
   subst hss
   have ex:Ext β [] w β [.row 1 (([]:List Int).map cY)] W:=by
    refine ⟨hb.os,hb.tape,hb.output,hb.size,fun k hk _=>hb.block k hk,fun k c e f hk=>⟨c,by rw [hb.block k (Array.getElem?_eq_some_iff.1 hk).1];exact hk,rfl⟩,fun i h=>?_,fun i b h hl=>?_⟩
    ·obtain ⟨b,h1,_⟩:=h;simp at h1
    cases i with
    |zero=>simp at h;subst h;simp [az.live] at hl
    |succ i=>simp at h
   refine ⟨β,ex,?_,?_⟩
   ·refine cx.step ex (fun i b h=>?_) (fun i j bi bj hi hj mH oM _=>?_)
    ·cases i with
     |zero=>simp at h;subst h;exact .inr (by simp [dj])
     |succ i=>simp at h
    cases i with
    |zero=>simp at hi;subst hi;simp [az.live] at mH
    |succ i=>simp at hi
   simp only [aj]
   exact ⟨⟨_,rfl,rfl⟩,.inl ⟨rfl,none,rfl⟩⟩
  have ex:Ext β [] w (fun _=>g) [.row 1 (ss.map cY)] W:=by
   refine ⟨hb.os,hb.tape,hb.output,hb.size,fun k hk _=>hb.block k hk,fun k c e f hk=>⟨c,by rw [hb.block k (Array.getElem?_eq_some_iff.1 hk).1];exact hk,rfl⟩,fun i h=>?_,fun i b h hl=>.inl hbase⟩
   obtain ⟨b,h1,_⟩:=h;simp at h1
  have wq:∀i x,ss[i]?=some x→cur[0+i]?=some (gA x):=by
   intro i x hx
   have h1:(cur.toList.take (ss.length*1))[i]?=some (gA x):=by rw [r4];simp [hx]
   rw [List.getElem?_take] at h1
   split at h1
   ·simpa using h1
   cases h1
  refine ⟨fun _=>g,ex,?_,?_⟩
  ·refine cx.step ex (fun i b h=>?_) (fun i j bi bj hi hj mH oM _=>?_)
   ·cases i with
    |zero=>
     simp only [List.getElem?_cons_zero,osI] at h;subst h
     refine .inr ?_
     simp only [dj]
     exact .inr ⟨cur,_,hg,Mp hg ss 0 wq⟩
    |succ i=>simp at h
   cases i with
   |zero=>cases j with
    |zero=>rfl
    |succ j=>simp at hj
   |succ i=>simp at hi
  simp only [aj]
  refine ⟨⟨_,rfl,rfl⟩,?_⟩
  by_cases hz:ss.length=0
  ·exact absurd (KU.2 (List.eq_nil_of_length_eq_zero hz)) (by simp)
  exact .inr ⟨hz,cap,cur,_,(0,0),rfl,r1,hg,by rw [r3];exact Nat.le_refl _⟩
 obtain ⟨β1,x1,x2,x3⟩:=ML
 have hs:=Uf ht ss.length ss.toArray (es:=ss.map cY) (by simp) (by simp) (by omega)
 simp only [ht] at hs
 have hc:=hs β1 W [v] _ x2 (by simp only [ak];exact ⟨v,[],rfl,x3,rfl⟩)
 refine xx (enters_of Tryz.func195 (by kernel_rfl) rfl) (hc.mono ?_)
 rintro e w' ⟨β2,y1,y2,y3⟩
 cases e with
 |returned u=>
  simp only [lW,aj] at y3
  obtain ⟨us,rfl,hu⟩:=y3
  simp only [ak] at hu;subst hu
  refine ⟨rfl,?_⟩
  rw [On,show oa ss=oa (l.map ej.bA) from AW (sB _) (sB _) ((ko _).trans (hp.trans (ko _).symm))] at y1 y2
  have x4:=aj.mono (y1.eY _) _ _ x3
  rw [hn] at x4
  exact ⟨_,x1.trans y1,y2,x4⟩
 |_=>exact y3.elim
theorem Mq (ht:TT t) (name:aH) (up:Bool) {l:List Node} {ps:List Place} {es qs:List (List D)} (aB:es=l.map Node.cells) (dV:qs=ps.map Place.cells) (hl:l.length<1000000000):
 FC 150 [.agg [SL es,SL qs],ST name,BL up] [] (.ret (nw t (t _ fun _=>fm ⟨l,ps⟩ name up))) []:=by
 refine bH ht (aF:=[]) Tryz.func150 rfl rfl (N:=35) rfl rfl (n:=0) rfl rfl ?_
 cbv
 have ap:es.length=l.length:=by rw [aB,lgM]
 have aI:qs.length=ps.length:=by rw [dV,lgM]
 refine aM trv (Bf ht _ ‹_› (by omega)) trv rfl rfl (fun r0 cN=>?_)
 simp only [ht] at cN
 have ec:=cF cN
 clear cN
 rcases ec with ⟨e1,e2,e3⟩|⟨i,x,hi,hil,e1,e2,e3,e4⟩
 ·cbv
  refine an (fun h1=>?_) (fun h1=>?_)
  ·simp [ht,aa,ap,aI] at h1
   cbv
   refine av trv trv rfl rfl rfl ?_
   (simp [ht,nw,qX,fm, *];done)
  simp [ht,aa,ap,aI] at h1
  omega
 cbv
 refine an (fun h2=>?_) (fun h2=>?_)
 ·simp [ht,aa,ap,aI] at h2
  cbv
  refine av trv trv rfl rfl rfl ?_
  (simp only [ht,aa,nw,qX,fm];grind)
 simp [ht,aa,ap,aI] at h2
 cbv
 refine wI ht aB (cT:=Node.aU t) e1 ‹_› (fun _=>rfl) (fun _=>(by (simp only [ht,Node.aU];done))) ?_
 cbv
 refine an (fun h4=>?_) (fun h4=>?_)
 ·simp [ht,aa,ap,aI] at h4
  cbv
  refine av trv trv rfl rfl rfl ?_
  (obtain ⟨_,rfl⟩:=List.getElem?_eq_some_iff.1 e1;simp [ht,nw,qX,fm,bw,List.map_set, *];done)
 simp [ht,aa,ap,aI] at h4
 cbv
 refine jV trv (pJ ht ‹_› ‹_›) trv rfl (.inr rfl) ?_
 cbv
 refine ⟨?_,?_⟩
 ·(simp [ht,hi,e1,hil];done)
 refine ⟨?_,?_⟩
 ·(simp [ht,hi,e1,hil];done)
 cbv
 refine av trv (by simp [ht]) rfl rfl rfl ?_
 (obtain ⟨_,rfl⟩:=List.getElem?_eq_some_iff.1 e1;simp [ht,nw,qX,fm,bw,List.map_set, *];done)
theorem Mr (ht:TT t) (name:aH) {l:List Node} {ps:List Place} {es qs:List (List D)} (aB:es=l.map Node.cells) (dV:qs=ps.map Place.cells) (hl:l.length<1000000000):
 FC 98 [.agg [SL es,SL qs],ST name] [] (.ret (nw t (t _ fun _=>fm ⟨l,ps⟩ name true))) []:=by
 refine bH ht (aF:=[]) Tryz.func98 rfl rfl (N:=11) rfl rfl (n:=0) rfl rfl ?_
 cbv
 have ap:es.length=l.length:=by rw [aB,lgM]
 have aI:qs.length=ps.length:=by rw [dV,lgM]
 refine aE trv (Mq ht _ _ ‹_› ‹_› ‹_›) trv rfl rfl rfl (fun r0 cN=>?_)
 simp only [ht] at cN
 cbv
 refine av trv trv rfl rfl rfl ?_
 (simp [ht,nw,qX, *];done)
def RJ (t:Th) (r:cB×List Int×Int):AV:=.eE [qX t r.1,SL (t _ fun _=>r.2.1.map cY),bI r.2.2]
theorem Uk {u:List (List D)} {l:List ej} (hu:u=l.map ej.cells) {j:Int} {c:Prop} {o:Option (List D)} {K:Option (List D)→Prop} (hc:c) (ho:o=qp u (.int .u64 j)) (h0:K none) (h1:∀x,K (some [.int .i64 x])):DS true c o K:=by
 subst hu
 rcases G5 l j with h|⟨x,h⟩
 ·exact ⟨none,fun _=>⟨hc,ho.trans h⟩,h0⟩
 exact ⟨_,fun _=>⟨hc,ho.trans h⟩,h1 x⟩
theorem BQ {u:List (List D)} {l:List ej} (hu:u=l.map ej.cells):∀r∈u,rowIs (.int .u64) 1 r:=by
 subst hu;intro r hr;obtain ⟨m,_,rfl⟩:=List.mem_map.1 hr;exact ⟨_,_,rfl,rfl,rfl⟩
theorem gU {name:aH} {ps:List Place} {k:Nat} {x:Place} (h:ps[k]?=some x):fE name (ps.take (k+1))=gy name (fE name (ps.take k)) x:=by
 unfold fE;rw [dA h,List.foldl_append];rfl
theorem Ms (ht:TT t) (name:aH) {l:List Node} {ps:List Place} {es qs:List (List D)} (aB:es=l.map Node.cells) (dV:qs=ps.map Place.cells) (hl:l.length<1000000000) (Ed:ps.length<1000000000)
 (hj:∀x∈ps,0≤x.bA∧x.bA<18446744073709551616) (h12:(fE name ps).length≤12):
 FC 97 [.agg [SL es,SL qs],ST name] [] (.ret (RJ t (t _ fun _=>sZ ⟨l,ps⟩ name))) []:=by
 refine bH ht (aF:=[]) Tryz.func97 rfl rfl (N:=44) rfl rfl (n:=0) rfl rfl ?_
 cbv
 have ap:es.length=l.length:=by rw [aB,lgM]
 have aI:qs.length=ps.length:=by rw [dV,lgM]
 refine aE trv (Mq ht _ _ ‹_› ‹_› ‹_›) trv rfl rfl rfl (fun r0 cN=>?_)
 simp only [ht] at cN
 cbv
 refine an (fun h1=>?_) (fun h1=>?_)
 ·simp [ht,aa,ap,aI] at h1
  cbv
  refine av trv trv rfl rfl rfl ?_
  (simp only [ht,aa,RJ,nw,qX,sZ];grind)
 simp [ht,aa,ap,aI] at h1
 cbv
 obtain ⟨J2,yL⟩:∃J2:Nat→Int×List (List D)→Prop,∀n i u,J2 n (i,u)↔(∃(k:Nat) (w:List ej),i=k∧k+n=ps.length∧u=w.map ej.cells∧w.map ej.bA=fE name (ps.take k)):=⟨fun n v=>match v with|(i,u)=>(∃(k:Nat) (w:List ej),i=k∧k+n=ps.length∧u=w.map ej.cells∧w.map ej.bA=fE name (ps.take k)),fun _ _ _=>Iff.rfl⟩
 refine bF ⟨[1,4,7,9,24,25,26],[],[]⟩ (σ:=Int×List (List D)) (fun v=>[(26,.d (.int .i64 (t _ fun _=>v.1)))]) (fun v=>[(2,.mp false (t _ fun _=>v.2))]) J2 ?_
 cbv
 refine aD ⟨ps.length,(_,_),(yL _ _ _).2 ?_,by simp only [ht];rfl,?_⟩
 ·exact ⟨0,[],rfl,by simp,by simp [ht],rfl⟩
 rintro n ⟨i,u⟩ hj
 replace hj:=(yL _ _ _).1 hj
 obtain ⟨k,w,rfl,q1,q6,q4⟩:=hj
 have vH:u.length=w.length:=by rw [q6,lgM]
 have hnd:(w.map ej.bA).Nodup:=by rw [q4];exact nC _ _ _ List.nodup_nil
 have hwj:∀m∈w,0≤m.bA∧m.bA<18446744073709551616:=(by intro m hm;have h9:m.bA∈fE name (ps.take k):=(by rw [←q4];exact List.mem_map.2 ⟨m,hm,rfl⟩);rw [fE,rm] at h9;obtain ⟨x,hx,_,e⟩:=h9.resolve_left (by simp);rw [←e];exact hj x (List.mem_of_mem_take hx))
 have hlen:w.length≤12:=by have:=congrArg List.length q4;rw [lgM] at this;have:=G6 name ps k;omega
 have hmk:ps.length≤k→oa (w.map ej.bA)=EA name ps:=(by intro h9;rw [q4,List.take_of_length_le h9];rfl)
 cbv
 refine an (fun h3=>?_) (fun h3=>?_)
 ·simp [ht,aa,ap,aI,vH] at h3
  cbv
  refine fP ht dV (cT:=Place.aU t) (by (simp only [ht,aa];omega)) (by (simp only [ht,aa];omega)) (fun _=>rfl) (fun _=>rfl) (fun x4 Dx=>?_)
  simp [ht,aa] at Dx
  cbv
  refine an (fun h5=>?_) (fun h5=>?_)
  ·simp [ht,aa,ap,aI,vH] at h5
   cbv
   (refine Uk q6 (by simp only [ht];exact ⟨rfl,rfl,BQ q6⟩) (by simp only [ht]<;>rfl) ?_ (fun c9=>?_))
   ·cbv
    refine ⟨?_,?_⟩
    ·(simp only [ht];exact ⟨⟨rfl,rfl,BQ q6⟩,trv⟩)
    cbv
    refine bQ (_,_) (by simp only [ht];rfl) (n-1) ?_ ((yL _ _ _).2 ?_)
    ·omega
    simp only [ht,aa]
    first|exact ⟨k+1,w,aC (by ((try simp only [aa] at*);omega)),by ((try simp only [aa] at*);omega),q6,by rw [gU Dx,gy,if_neg ‹_›];exact q4⟩|exact ⟨k+1,eD w (x4).bA _,aC (by ((try simp only [aa] at*);omega)),by ((try simp only [aa] at*);omega),by rw [q6,oc],by rw [gU Dx,gy,if_pos ‹_›,fV,q4]⟩
   cbv
   refine ⟨?_,?_⟩
   ·(simp only [ht];exact ⟨⟨rfl,rfl,BQ q6⟩,trv⟩)
   cbv
   refine bQ (_,_) (by simp only [ht];rfl) (n-1) ?_ ((yL _ _ _).2 ?_)
   ·omega
   simp only [ht,aa]
   first|exact ⟨k+1,w,aC (by ((try simp only [aa] at*);omega)),by ((try simp only [aa] at*);omega),q6,by rw [gU Dx,gy,if_neg ‹_›];exact q4⟩|exact ⟨k+1,eD w (x4).bA _,aC (by ((try simp only [aa] at*);omega)),by ((try simp only [aa] at*);omega),by rw [q6,oc],by rw [gU Dx,gy,if_pos ‹_›,fV,q4]⟩
  simp [ht,aa,ap,aI,vH] at h5
  cbv
  refine bQ (_,_) (by simp only [ht];rfl) (n-1) ?_ ((yL _ _ _).2 ?_)
  ·omega
  simp only [ht,aa]
  first|exact ⟨k+1,w,aC (by ((try simp only [aa] at*);omega)),by ((try simp only [aa] at*);omega),q6,by rw [gU Dx,gy,if_neg ‹_›];exact q4⟩|exact ⟨k+1,eD w (x4).bA _,aC (by ((try simp only [aa] at*);omega)),by ((try simp only [aa] at*);omega),by rw [q6,oc],by rw [gU Dx,gy,if_pos ‹_›,fV,q4]⟩
 simp [ht,aa,ap,aI,vH] at h3
 cbv
 (refine ⟨.inr ⟨2,false,_,rfl,?_⟩⟩)
 cbv
 refine cO [false,false,false,false,true,true,true] (by kernel_rfl) (by kernel_rfl) ?_
 cbv
 iterate 2 refine gI (by simp [ht,ah]) ?_
 refine .inl ?_
 refine nv (fun g9=>⟨trv,trv,Uj ht _⟩) rfl rfl rfl ?_
 cbv
 refine .inr (GN trv (Cx ht (by (simp only [ht];((try simp only [aa] at*);omega))) ‹_› ‹_› ‹_›) trv rfl (.inr rfl) rfl ?_)
 cbv
 refine av trv (by simp [ht]) rfl rfl rfl ?_
 (simp only [ht,RJ,qX,sZ];rw [←cN,if_pos h1];simp only [hmk (by ((try simp only [aa] at*);omega))];done)
end Dem
end
