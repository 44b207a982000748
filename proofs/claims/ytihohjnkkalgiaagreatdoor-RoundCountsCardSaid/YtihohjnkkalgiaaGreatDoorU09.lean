/- Parts of a proof, joined. -/
import Derived.Test.YtihohjnkkalgiaaGreatDoorU08
import Derived.RangeFuncSeq
import Derived.WalkKit
import Derived.OwnWalkIn
import Derived.TacticsInMore
import Derived.RegionIn
import Derived.LoopNIn
import Derived.LoopIn
import Derived.RangeFuncGives
import Derived.RangeFuncBound
import Derived.Maps.AppendAt
import Derived.Sort.MapsRangeIn
import Derived.Shelf.Abstract
import Derived.Sort.Defs
import Derived.Sort.LotA
set_option linter.all false
set_option maxRecDepth 100000
set_option maxHeartbeats 4000000
section
namespace Go.Proofs
open Go.RowKit Go.Maps Go.Sort Go.Shelf
open Dem (gL pP fI oD B7)
set_option maxRecDepth 100000 in
set_option maxHeartbeats 1000000 in
theorem Ks.Ov {H:Type} (F:Fence) (n:Nat) (h10:F.fn 196) (hro:F.round=none) (hn:1≤n) (l Bm off b nn:Nat) (D0:DataW H) {R:Value→Option (DataW H×List MemPlace)} (J:List Int→World→Prop)
 (hY:∀pre x W,J pre W→pre.length<Maps.size D0→YieldAt F (n-1) Tryz.prog l #[gL x] W fun e W'=>e=.returned (.bool true)∧J (pre++[x]) W'∧KeepsWalks W W')
 (W:World) (hJ:AbidesFrom W.heap.size J) (hm:W.cell? ⟨Bm,off,none⟩=some (.map (some b))) (hown:W.ownsMap Tryz.prog 24 R b nn D0) (h0:J [] W):
 CallsIn F n Tryz.prog 196 #[.func (.yield l) #[] #[],.pointer (some ⟨Bm,off,none⟩)] W fun e W'=>(∃v,e=.returned v)∧∃ss:List Int,ss.Perm (pP D0)∧J ss W':=by
 refine callsIn_of_wp Tryz.func196 rfl h10 ?_ hro
 simp only [Tryz.ntmps196,List.size_toArray,List.length_cons,List.length_nil,Nat.reduceAdd,Nat.reduceSub,Array.replicate_succ,Array.replicate_zero,List.push_toArray,List.append_toArray,List.nil_append,List.cons_append]
 gi_wp2_with (first
  |(gi_at_range;refine wpListIn_range_own _ rfl _ 192 rfl 24 3 (Maps.int_keyed Tryz.underlying24) Tryz.underlying192 _ b nn _ rfl hown ?_;intro w0 hrg0 hg0 hs0)
  |gi_in)
 go_frame
 gi_loopw [3] (fun _ wr=>∃(left:Lit→Bool) (cnt:Nat) (ss:List Int),wr.ranges Tryz.prog 24 R b W.heap.size nn D0 left cnt∧ss.length+cnt≤Maps.size D0∧fI D0 left ss∧J ss wr)
  (fun _ wr=>wr.rangeLeft b W.heap.size)
 case atStart=>
  exact ⟨_,_,[],hrg0,by simp,fI.start D0,hJ [] W w0 none h0 hg0 (fun r e=>by cases e)⟩
 case round=>
  obtain ⟨left,cnt,ss,hrg,hcs,hC,hJs⟩:=hrel
  gi_wp2_with (first
   |(gi_at_next;refine wpListIn_next_ranges _ rfl _ rfl 24 (Maps.int_keyed Tryz.underlying24) R gL id (fun key kl hk=>by obtain ⟨x,hx,_⟩:=oD Tryz.underlying24 hk;exact ⟨x,hx⟩) (fun v _ _=>⟨v,rfl⟩) b W.heap.size nn _ _ _ rfl hrg ?_ ?_)
   |gi_in)
  ·
   intro hc0 hl0
   gi_wp2
   go_end0
   exact ⟨⟨_,rfl⟩,ss,hC.perm hown (Maps.int_keyed Tryz.underlying24) Tryz.underlying24 hl0,hJs⟩
  ·
   intro x c kl yd yp w2 cnt2 hkey hlk hv hat hrg2 hlt hg2 hs2 hen
   obtain ⟨x',ex,rfl,_⟩:=oD Tryz.underlying24 hkey
   obtain rfl:x=x':=B7 ex
   have hJ2:J ss w2:=hJ ss wr w2 (some W.heap.size) hJs hg2 (fun r e=>by cases e;exact ⟨Nat.le_refl _,hrg.iter_walk⟩)
   obtain ⟨fn,tmps,assign,body,hy,hR⟩:=hY ss x w2 hJ2 (by omega)
   clear hs2
   gi_wp2
   refine hR.mono ?_
   rintro e W3 ⟨rfl,hJ3,hk3⟩
   gi_wp2
   have hrg3:=hrg2.of_walks hk3
   go_roundw
   case rel=>exact ⟨_,cnt2,ss++[x],hrg3,by simp;omega,hC.step hlk hat,hJ3⟩
   case measure=>rw [hrg3.left_eq,hrg.left_eq];exact hlt
theorem Ks.K1 {H:Type} (F:Fence) (n:Nat) (h10:F.fn 196) (hro:F.round=none) (hn:1≤n) (Bm off b nn:Nat) (D0:DataW H) {R:Value→Option (DataW H×List MemPlace)} (w:World) (hBm:Bm<w.heap.size)
 (hm:w.cell? ⟨Bm,off,none⟩=some (.map (some b))) (hown:w.ownsMap Tryz.prog 24 R b nn D0):
 SeqGives F n Tryz.prog 196 #[.pointer (some ⟨Bm,off,none⟩)] gL (fun ss=>ss.Perm (pP D0)) (Maps.size D0) w:=fun l J W hW hJ hY h0=>by
 have hown':W.ownsMap Tryz.prog 24 R b nn D0:=by
  have hbl:=hown.lt
  obtain ⟨es,clock,hb,Ft,hs,hD⟩:=hown
  exact ⟨es,clock,(hW.block b hbl).trans hb,Ft,hs,hD⟩
 exact Ks.Ov F n h10 hro hn l Bm off b nn D0 J hY W hJ ((hW.cell (p:=⟨Bm,off,none⟩) hBm).trans hm) hown' h0
def Ks.B8:Code:=(Code.region 2 #[{dst:=some 5,op:=Op.assign (Operand.tmp 7),type:=24,pos:= "iter.go:51",after:=#[],guard:=none}] false)
def Ks.K2:Code:=(Code.block 1 (Code.region 3 #[{dst:=some 8,op:=Op.load 48 (Operand.tmp 2),type:=48,pos:= "iter.go:52",after:=#[],guard:=none},{dst:=some 9,op:=Op.move (Operand.tmp 5),type:=24,pos:= "iter.go:52",after:=#[],guard:=none},{dst:=some 10,op:=Op.buildSlice 48 1 #[(0,Operand.tmp 9)],type:=48,pos:= "iter.go:52",after:=#[{on:=1,ground:=Ground.data}],guard:=none},{dst:=some 11,op:=Op.call {callee:=Callee.builtin Builtin.append,args:=#[Operand.tmp 8,Operand.tmp 10],argTypes:=#[48,48]},type:=48,pos:= "iter.go:52",after:=#[{on:=0,ground:=Ground.data},{on:=2,ground:=Ground.data}],guard:=none},{dst:=none,op:=Op.store 48 (Operand.tmp 2) (Operand.tmp 11),type:=0,pos:= "iter.go:52",after:=#[{on:=3,ground:=Ground.data},{on:=3,ground:=Ground.chain},{on:=0,ground:=Ground.phase},{on:=1,ground:=Ground.phase},{on:=2,ground:=Ground.phase},{on:=3,ground:=Ground.phase}],guard:=none}] false))
def Ks.rM (fn:FuncId) (sv:Value) (Bs D:Nat) (st:LoopState) (pend:Option Code):Loop:=
 {state:=st,pending:=pend,fn,tmps:=#[.slice none 0 0,sv,.pointer (some ⟨Bs,0,none⟩),undef,.slice none 0 0,undef,sv,undef,undef,undef,undef,undef,undef],params:=#[7],assign:=Ks.B8,body:=Ks.K2,defers:=D}
structure Ks.RG (w0:World) (fn:FuncId) (sv:Value) (Bs l D:Nat) (ss:List Int) (W:World):Prop where
 box:∃v,W.heap[Bs]?=some (.cells #[v] 48 (0,0))∧W.ownsRow w0.heap.size 24 1 v ss.length (ss.map gL)∧(v=.slice none 0 0↔ss=[])
 L:W.heap[l]?=some (.loop (Ks.rM fn sv Bs D .ready none))
 K:W.heap[D]?=some (.deferred (some []))
 below:Below w0.heap.size w0 W
theorem B9 {W W':World} {row:Option Nat} {base:Nat} {e:TypeId} {size:Nat} {v:Value} {k:Nat} {xs:List Value} (h:W.ownsRow base e size v k xs) (hg:W.grownBy W' row)
 (hrow:∀r,row=some r→∃o:Obj,W.heap[r]?=some o∧o.isWalk=true):W'.ownsRow base e size v k xs:=by
 refine h.kept hg ?_
 rcases h.2 with ⟨rfl,_⟩|⟨g,cap,cur,rfl,_,hgb,_⟩
 ·exact .inl rfl
 refine .inr fun e'=>?_
 obtain ⟨o,ho,hw⟩:=hrow g (by simpa [Value.ownBlock] using e'.symm)
 rw [hgb] at ho;cases ho;cases hw
theorem Ks.Ow (w0:World) (fn:FuncId) (sv:Value) (Bs l D B:Nat) (hB:w0.heap.size≤B):AbidesFrom B (Ks.RG w0 fn sv Bs l D):=fun s W W' row h hg hrow=>by
 have hrow':∀r,row=some r→∃o:Obj,W.heap[r]?=some o∧o.isWalk=true:=fun r e=>(hrow r e).2
 obtain ⟨v,hv,hr,hn⟩:=h.box
 exact ⟨⟨v,(grownBy_keeps hg hrow' hv rfl).trans hv,B9 hr hg hrow',hn⟩,(grownBy_keeps hg hrow' h.L rfl).trans h.L,(grownBy_keeps hg hrow' h.K rfl).trans h.K,
  h.below.grown hg h.below.size (fun k e=>Nat.le_trans hB (hrow k e).1)⟩
theorem fR (W:World) (l:Nat) (o:Obj):W.grownBy (W.putObj l o) (some l):=
 ⟨rfl,rfl,rfl,by simp,fun k _ hk=>World.putObj_heap_other (fun e=>hk (by rw [e]))⟩
theorem xP (W:World) (b:Nat) (v:Value):W.grownBy (W.setCell ⟨b,0,none⟩ v) (some b):=
 ⟨rfl,rfl,rfl,(KeepsWalks.setCell W _ v).size,fun k _ hk=>Below.heap_setCell _ _ _ k (fun e=>hk (by rw [e]))⟩
theorem kF {W:World} {base:Nat} {e:TypeId} {size:Nat} {v:Value} {k:Nat} {xs:List Value} (h:W.ownsRow base e size v k xs) {j:Nat} {o:Obj} (hj:W.heap[j]?=some o) (hno:∀cur,o≠.cells cur e (0,0)):
 v.ownBlock=none∨v.ownBlock≠some j:=by
 rcases h.2 with ⟨rfl,_⟩|⟨g,cap,cur,rfl,_,hgb,_⟩
 ·exact .inl rfl
 refine .inr fun e'=>?_
 have:g=j:=by simpa [Value.ownBlock] using e'
 subst this;rw [hgb] at hj;cases hj;exact hno cur rfl
theorem rN {W:World} {B:Nat} {v:Value} {t:TypeId} (h:W.heap[B]?=some (.cells #[v] t (0,0))):W.cell? ⟨B,0,none⟩=some v∧W.frozen? ⟨B,0,none⟩=false:=by
 constructor<;>simp [World.cell?,World.frozen?,h]
theorem xQ {W:World} {B:Nat} {v:Value} {t:TypeId} (v':Value) (h:W.heap[B]?=some (.cells #[v] t (0,0))):(W.setCell ⟨B,0,none⟩ v').heap[B]?=some (.cells #[v'] t (0,0)):=by
 obtain ⟨hlt,hk⟩:=Array.getElem?_eq_some_iff.1 h
 show (W.heap.modify B _)[B]?=_
 rw [Array.getElem?_eq_getElem (by rw [Array.size_modify];exact hlt),Array.getElem_modify_self,hk]
 rfl
theorem xR {W:World} {base:Nat} {e:TypeId} {size:Nat} {v:Value} {k:Nat} {xs:List Value} (h:W.ownsRow base e size v k xs):∀(j:Nat) (o:Obj),v.ownBlock=some j→W.heap[j]?=some o→o.isWalk=false:=by
 intro j o hj ho
 rcases h.2 with ⟨rfl,_⟩|⟨g,cap,cur,rfl,_,hgb,_⟩
 ·simp [Value.ownBlock] at hj
 have:g=j:=by simpa [Value.ownBlock] using hj
 subst this;rw [hgb] at ho;cases ho;rfl
theorem Ks.ZI:(Tryz.prog.info? 24).map (fun i=>(i.zero,i.size,i.bytes))=some (some (.int .u64 0),1,8):=by kernel_rfl
set_option maxRecDepth 100000 in
set_option maxHeartbeats 2000000 in
theorem Ks.Ux (F:Fence) (m:Nat) (w0:World) (fn:FuncId) (hfn:F.fn fn) (sv:Value) (Bs l D:Nat) (hBl:Bs≠l) (hDl:D≠l) (hDB:D≠Bs) (h0B:w0.heap.size≤Bs) (h0l:w0.heap.size≤l)
 (N:Nat) (hN:N≤maxLen) (hNb:N*8≤140737488355328) (ss:List Int) (x:Int) (W:World) (h:Ks.RG w0 fn sv Bs l D ss W) (hlen:ss.length<N):
 YieldAt F m Tryz.prog l #[gL x] W fun e W'=>e=.returned (.bool true)∧Ks.RG w0 fn sv Bs l D (ss++[x]) W'∧KeepsWalks W W':=by
 obtain ⟨i0,hi,hz0,hz1,hz2⟩:=info_parts Ks.ZI
 obtain ⟨v,hv,hrow,_⟩:=h.box
 refine ⟨fn,#[.slice none 0 0,sv,.pointer (some ⟨Bs,0,none⟩),undef,.slice none 0 0,undef,sv,gL x,undef,undef,undef,undef,undef],Ks.B8,Ks.K2,by simpa [Ks.rM] using run_yield (P:=Tryz.prog) (args:=#[gL x]) h.L rfl,roundIn_of_wpIn hfn ?_⟩
 have hl:l<W.heap.size:=(Array.getElem?_eq_some_iff.1 h.L).1
 have hbr:=run_beginRound (P:=Tryz.prog) h.L rfl
 obtain ⟨W2,hW2⟩:∃W2,W.putObj l (.loop {Ks.rM fn sv Bs D .ready none with state:=.busy})=W2:=⟨_,rfl⟩
 rw [hW2] at hbr
 have hg2:W.grownBy W2 (some l):=by rw [←hW2];exact fR _ _ _
 have hk2:KeepsWalks W W2:=by rw [←hW2];exact KeepsWalks.putObj _ h.L rfl
 have hv2:W2.heap[Bs]?=some (.cells #[v] 48 (0,0)):=by rw [←hW2];exact (World.putObj_heap_other hBl).trans hv
 have hK2:W2.heap[D]?=some (.deferred (some [])):=by rw [←hW2];exact (World.putObj_heap_other hDl).trans h.K
 have hL2:W2.heap[l]?=some (.loop {Ks.rM fn sv Bs D .ready none with state:=.busy}):=by rw [←hW2];exact World.putObj_heap_same hl
 have hrow2:W2.ownsRow w0.heap.size 24 1 v ss.length (ss.map gL):=hrow.kept hg2 (kF hrow h.L (fun cur e=>by cases e))
 have hb2:Below w0.heap.size w0 W2:=h.below.grown hg2 h.below.size (fun k e=>by cases e;exact h0l)
 obtain ⟨hc2,hf2⟩:=rN hv2
 have hBlt:Bs<W2.heap.size:=(Array.getElem?_eq_some_iff.1 hv2).1
 have hl2:l<W2.heap.size:=(Array.getElem?_eq_some_iff.1 hL2).1
 have hDlt:D<W2.heap.size:=(Array.getElem?_eq_some_iff.1 hK2).1
 have ne_of:∀{j:Nat} {o:Obj},W2.heap[j]?=some o→(∀cur,o≠.cells cur 24 (0,0))→some j≠v.ownBlock:=fun hj hno=>by
  rcases kF hrow2 hj hno with e|e
  ·rw [e];simp
  exact fun e'=>e e'.symm
 clear hW2
 unfold Ks.B8
 gi_wp2_with (rw [Oper.semAt_eq _ _ _ (fun c h=>by cases h)];go_simp;try go_bits)
 unfold Ks.K2
 gi_wp2_with (first
  |(
   gi_at_builtin;refine wpListIn_append_own _ rfl _ _ 48 rfl w0.heap.size 24 i0 (.int .u64 0) 1 8 Tryz.underlying48 hi hz0 hz1 hz2 rfl (by decide) _ _ _ rfl (hrow2.alloc _) ⟨W2.heap.size,0,none⟩ 1 1 [gL x] rfl rfl (cell_one_new _ _ _) (by simp [Value.oneCell',gL]) (by omega) (by omega) (by have:=hb2.size;simp;omega) ?_;intro v' w3 hown' hg3 hnil3
   have hv3:w3.heap[Bs]?=some (.cells #[v] 48 (0,0)):=(hg3.block Bs (by simp;omega) (ne_of hv2 (fun cur e=>by cases e))).trans ((Below.heap_alloc _ _ Bs hBlt).trans hv2)
   obtain ⟨hc3,hf3⟩:=rN hv3
   obtain ⟨g',cap',cur',rfl,hbase',hgb',hr1,hr2,hr3,hr4⟩:∃g' cap' cur',v'=.slice (some ⟨g',0,none⟩) (ss.length+1) cap'∧w0.heap.size≤g'∧w3.heap[g']?=some (.cells cur' 24 (0,0))∧ss.length+1≤cap'∧cap'≤maxLen∧cur'.size=cap'*1∧cur'.toList.take ((ss.length+1)*1)=ss.map gL++[gL x]:=by
    rcases hown'.2 with ⟨_,h0⟩|h'
    ·exact absurd h0 (by omega)
    exact h'
   go_frame)
  |(rw [Oper.semAt_eq _ _ _ (fun c h=>by cases h)];go_simp;try go_bits))
 have hg3':(W2.alloc (.cells #[gL x] 24)).grownBy w3 v.ownBlock:=hg3
 have hL3:w3.heap[l]?=some (.loop {Ks.rM fn sv Bs D .ready none with state:=.busy}):=(hg3'.block l (by simp;omega) (ne_of hL2 (fun cur e=>by cases e))).trans ((Below.heap_alloc _ _ l hl2).trans hL2)
 have hK3:w3.heap[D]?=some (.deferred (some [])):=(hg3'.block D (by simp;omega) (ne_of hK2 (fun cur e=>by cases e))).trans ((Below.heap_alloc _ _ D hDlt).trans hK2)
 obtain ⟨w4,hw4⟩:∃w4,w3.setCell ⟨Bs,0,none⟩ (.slice (some ⟨g',0,none⟩) (ss.length+1) cap')=w4:=⟨_,rfl⟩
 rw [hw4]
 have hg4:w3.grownBy w4 (some Bs):=by rw [←hw4];exact xP _ _ _
 have hv4:w4.heap[Bs]?=some (.cells #[.slice (some ⟨g',0,none⟩) (ss.length+1) cap'] 48 (0,0)):=by rw [←hw4];exact xQ _ hv3
 have hL4:w4.heap[l]?=some (.loop {Ks.rM fn sv Bs D .ready none with state:=.busy}):=(hg4.block l (Array.getElem?_eq_some_iff.1 hL3).1 (fun e=>hBl (by cases e;rfl))).trans hL3
 have hK4:w4.heap[D]?=some (.deferred (some [])):=(hg4.block D (Array.getElem?_eq_some_iff.1 hK3).1 (fun e=>hDB (by cases e;rfl))).trans hK3
 have hrow4:=hown'.kept hg4 (kF hown' hv3 (fun cur e=>by cases e))
 have hl4:l<w4.heap.size:=(Array.getElem?_eq_some_iff.1 hL4).1
 have hb3:Below w0.heap.size w0 w3:=(hb2.alloc hb2.size _).grown hg3' (by have:=hb2.size;simp;omega) (fun k e=>(hrow2.lt k e).1)
 have hb4:Below w0.heap.size w0 w4:=hb3.grown hg4 hb3.size (fun k e=>by cases e;exact h0B)
 have hk4:KeepsWalks W w4:=((hk2.trans (KeepsWalks.alloc _ _)).trans (KeepsWalks.of_grownBy hg3' (xR (hrow2.alloc _)))).trans (by rw [←hw4];exact KeepsWalks.setCell _ _ _)
 clear hw4
 refine ⟨_,_,run_endRound none hL4,rfl,⟨⟨_,(World.putObj_heap_other hBl).trans hv4,?_,by simp⟩,World.putObj_heap_same hl4,(World.putObj_heap_other hDl).trans hK4,hb4.grown (fR _ _ _) hb4.size (fun k e=>by cases e;exact h0l)⟩,hk4.trans (KeepsWalks.putObj _ hL4 rfl)⟩
 have:=hrow4.kept (fR w4 l (.loop {{Ks.rM fn sv Bs D .ready none with state:=.busy} with state:=if (none:Option Code).isNone then .ready else .done,pending:=none})) (kF hrow4 hL4 (fun cur e=>by cases e))
 simpa using this
set_option maxRecDepth 100000 in
set_option maxHeartbeats 2000000 in
theorem Ks.Fv (F:Fence) (n:Nat) (h11:F.fn 218) (hro:F.round=none) (hn:2≤n) (g:Nat) (lb:Array Value) (hFg:F.fn g) (eg:∀args w,(callFunc g args).run Tryz.prog w=.ok (.enter g args) w)
 (S:List Int→Prop) (N:Nat) (hN:N≤maxLen) (hNb:N*8≤140737488355328) (w:World) (hseq:SeqGives F (n-1) Tryz.prog g lb gL S N w):
 CallsIn F n Tryz.prog 218 #[.slice none 0 0,.func (.func g) #[] lb] w fun e w'=>∃(v:Value) (ss:List Int),e=.returned v∧S ss∧w'.ownsRow w.heap.size 24 1 v ss.length (ss.map gL)∧(v=.slice none 0 0↔ss=[])∧Below w.heap.size w w':=by
 have h1:1≤n:=by omega
 refine callsIn_of_wp_marks Tryz.func218 rfl h11 ?_ hro
 simp only [Tryz.ntmps218,List.size_toArray,List.length_cons,List.length_nil,Nat.reduceAdd,Nat.reduceSub,Array.replicate_succ,Array.replicate_zero,List.push_toArray,List.append_toArray,List.nil_append,List.cons_append]
 gi_wp2
 refine wpIn_rangeFunc ?_
 intro fn hfn
 rw [hro]
 obtain ⟨W0,hW0⟩:∃W0,w.alloc (.cells #[.slice none 0 0] 48)=W0:=⟨_,rfl⟩
 have hs0:W0.heap.size=w.heap.size+1:=by rw [←hW0];simp
 have hv0:W0.heap[w.heap.size]?=some (.cells #[.slice none 0 0] 48 (0,0)):=by rw [←hW0];exact World.alloc_heap_new w _
 have hb0:Below w.heap.size w W0:=by rw [←hW0];exact (Below.refl _ w).alloc (Nat.le_refl _) _
 rw [hW0]
 obtain ⟨W1,hW1⟩:∃W1,(W0.alloc (.deferred (some []))).alloc (.loop (Ks.rM fn (.func (.func g) #[] lb) w.heap.size W0.heap.size .ready none))=W1:=⟨_,rfl⟩
 have hold:∀k,k<W0.heap.size→W1.heap[k]?=W0.heap[k]?:=fun k hk=>by
  rw [←hW1];exact (Below.heap_alloc _ _ k (by simp;omega)).trans (Below.heap_alloc _ _ k hk)
 have hb1:Below w.heap.size w W1:=by rw [←hW1];exact (hb0.alloc hb0.size _).alloc (by have:=hb0.size;simp;omega) _
 have hs1:W1.heap.size=W0.heap.size+2:=by rw [←hW1];simp
 have hM:Ks.RG w fn (.func (.func g) #[] lb) w.heap.size (W0.heap.size+1) W0.heap.size [] W1:=
  ⟨⟨_,(hold w.heap.size (by omega)).trans hv0,⟨rfl,.inl ⟨rfl,rfl⟩⟩,by simp⟩,
   by rw [←hW1];have:=World.alloc_heap_new (W0.alloc (.deferred (some []))) (.loop (Ks.rM fn (.func (.func g) #[] lb) w.heap.size W0.heap.size .ready none));rwa [World.size_alloc] at this,
   by rw [←hW1];exact (Below.heap_alloc _ _ _ (by simp)).trans (World.alloc_heap_new W0 _),hb1⟩
 refine ⟨W0.heap.size+1,[{target:=.collected W0.heap.size,args:=#[]}],W1,{target:=.fn (.func g) lb,args:=#[.func (.yield (W0.heap.size+1)) #[] #[]]},W1,g,
  #[.func (.yield (W0.heap.size+1)) #[] #[]]++lb,W1,?_,?_,?_,?_,fun _=>h1,?_⟩
 ·rw [←hW1];exact run_enterLoop_outer _ _ _ _ _
 ·simp [resolve,go_sem]
 ·intro f' hf';simp [Target.leads] at hf';subst hf';exact hFg
 ·simp [invoke,go_sem,eg]
 refine (hseq (W0.heap.size+1) (Ks.RG w fn (.func (.func g) #[] lb) w.heap.size (W0.heap.size+1) W0.heap.size) W1 hb1 (Ks.Ow _ _ _ _ _ _ _ hb1.size)
  (fun pre x W hJ hl=>Ks.Ux F (n-1-1) w fn hfn _ w.heap.size (W0.heap.size+1) W0.heap.size (by omega) (by omega) (by omega) (Nat.le_refl _) (by omega) N hN hNb pre x W hJ hl) hM).mono ?_
 rintro e W2 ⟨⟨v0,rfl⟩,ss,hS,h2⟩
 obtain ⟨v,hv,hrow,hnil⟩:=h2.box
 have hend:=run_endLoop (P:=Tryz.prog) h2.L (by simp [Ks.rM])
 obtain ⟨W3,hW3⟩:∃W3,W2.putObj (W0.heap.size+1) (.loop {Ks.rM fn (.func (.func g) #[] lb) w.heap.size W0.heap.size .ready none with state:=.exhausted})=W3:=⟨_,rfl⟩
 rw [hW3] at hend
 have hg3:W2.grownBy W3 (some (W0.heap.size+1)):=by rw [←hW3];exact fR _ _ _
 have hv3:W3.heap[w.heap.size]?=some (.cells #[v] 48 (0,0)):=by rw [←hW3];exact (World.putObj_heap_other (by omega)).trans hv
 have hK3:W3.heap[W0.heap.size]?=some (.deferred (some [])):=by rw [←hW3];exact (World.putObj_heap_other (by omega)).trans h2.K
 have hrow3:=hrow.kept hg3 (kF hrow h2.L (fun cur e=>by cases e))
 have hb3:Below w.heap.size w W3:=h2.below.grown hg3 h2.below.size (fun k e=>by cases e;omega)
 obtain ⟨hc3,hf3⟩:=rN hv3
 clear hW3
 refine ⟨none,W3,hend,?_⟩
 gi_wp2
 rw [←hs0]
 refine ⟨by simp,.inl ⟨_,_,rfl,run_takeDeferred hK3,?_⟩⟩
 exact ⟨_,results_tmp rfl _ _ _,v,ss,rfl,hS,hrow3.kept (fR _ _ _) (kF hrow3 hK3 (fun cur e=>by cases e)),hnil,hb3.grown (fR _ _ _) hb3.size (fun k e=>by cases e;omega)⟩
set_option maxHeartbeats 1000000 in
theorem Ks.K5 (F:Fence) (n:Nat) (h8:F.fn 194) (h11:F.fn 218) (hro:F.round=none) (hn:3≤n) (g:Nat) (lb:Array Value) (hFg:F.fn g) (eg:∀args w,(callFunc g args).run Tryz.prog w=.ok (.enter g args) w)
 (S:List Int→Prop) (N:Nat) (hN:N≤maxLen) (hNb:N*8≤140737488355328) (w:World) (hseq:SeqGives F (n-1-1) Tryz.prog g lb gL S N w):
 CallsIn F n Tryz.prog 194 #[.func (.func g) #[] lb] w fun e w'=>∃(v:Value) (ss:List Int),e=.returned v∧S ss∧w'.ownsRow w.heap.size 24 1 v ss.length (ss.map gL)∧(v=.slice none 0 0↔ss=[])∧Below w.heap.size w w':=by
 have h1:1≤n:=by omega
 refine callsIn_of_wp Tryz.func194 rfl h8 ?_ hro
 simp only [Tryz.ntmps194,List.size_toArray,List.length_cons,List.length_nil,Nat.reduceAdd,Nat.reduceSub,Array.replicate_succ,Array.replicate_zero,List.push_toArray,List.append_toArray,List.nil_append,List.cons_append]
 gi_wp2_with (gi_at_call 218;refine (Ks.Fv F (n-1) h11 hro (by omega) g lb hFg eg S N hN hNb _ hseq).mono ?_;rintro e w' ⟨v,ss,rfl,hS,hrow,hnil,hb⟩)
 go_ret
 exact ⟨v,ss,rfl,hS,hrow,hnil,hb⟩
end Go.Proofs
end
section
open Go
namespace Dem
section
variable {α:Type} [Inhabited α] {lt:α→α→Bool} {cells:α→List D}
theorem tK (a b i:Nat) (d:Array α) (h:i<b):Sort.insOuter lt a b i d=Sort.insOuter lt a b (i+1) (Sort.insInner lt a i d):=by rw [Sort.insOuter,if_pos h]
theorem wq (a b i:Nat) (d:Array α) (h:b≤i):Sort.insOuter lt a b i d=d:=by rw [Sort.insOuter,if_neg (by omega)]
theorem swp_size (q:Array α) (i j:Nat):(Sort.swp q i j).size=q.size:=by simp [Sort.swp]
theorem zg {a j:Nat} {q:Array α} (h:a<j) (hl:lt q[j]! q[j-1]! =true):Sort.insInner lt a j q=Sort.insInner lt a (j-1) (Sort.swp q j (j-1)):=by
 cases j with
 |zero=>omega
 |succ j=>rw [Sort.insInner,if_pos (by simpa using ⟨h,hl⟩)];simp
theorem tL {a j:Nat} {q:Array α} (h:a<j→lt q[j]! q[j-1]! =false):Sort.insInner lt a j q=q:=by
 cases j with
 |zero=>rfl
 |succ j=>rw [Sort.insInner,if_neg (by simp;intro g;simpa using h (by omega))]
theorem Fw {q:Array α} {u:List (List D)} (hu:u=q.toList.map cells) {j:Nat} (h:j<q.size):u.getD j []=cells q[j]!:=by
 subst hu;simp [List.getD,h]
theorem zT {q:Array α} {u:List (List D)} (hu:u=q.toList.map cells) (cT:α→List D) (hT:∀x,cells x=cT x) (j:Nat) {g:Bool} {c:Prop} {ds:List D} {K:List D→Prop} (h:g=true→j<q.size∧u.getD j []=ds∧(j<u.length→c)) (hK:∀x,x=q[j]!→K (cT x)):AX g c ds K:=by
 refine We _ (fun hg=>?_) (hK _ rfl)
 obtain ⟨h1,h2,h3⟩:=h hg
 exact ⟨h3 (by rw [hu];simpa using h1),by rw [←h2,Fw hu h1,hT]⟩
theorem Ca:∀{r s:List D},r.length=s.length→be r 0 s=s
 |[],[],_=>rfl
 |x::r,y::s,h=>by rw [be,Ca (by simpa using h)]
theorem K6 {q:Array α} {u:List (List D)} (hu:u=q.toList.map cells) {n:Nat} (hn:∀x,(cells x).length=n) {i:Nat} (h:i<q.size) (y:α):u.set i (be (u.getD i []) 0 (cells y))=(q.setIfInBounds i y).toList.map cells:=by
 rw [Fw hu h,Ca (by rw [hn,hn])];subst hu;simp [List.map_set]
theorem RI {q:Array α} {u:List (List D)} (hu:u=q.toList.map cells) {n:Nat} (hn:∀x,(cells x).length=n) {i:Nat} (h:i<q.size) {s:List D} (hs:s.length=n):i<u.length∧0+s.length≤(u.getD i []).length:=by
 refine ⟨by rw [hu];simpa using h,?_⟩
 rw [Fw hu h,hn];omega
theorem RJ {q:Array α} {u:List (List D)} (hu:u=q.toList.map cells) {n:Nat} (hn:∀x,(cells x).length=n) {i j:Nat} (hi:i<q.size) (hj:j<q.size) {y z:α} (hy:y=q[i]!) (hz:z=q[j]!):
 (u.set i (be (u.getD i []) 0 (cells z))).set j (be ((u.set i (be (u.getD i []) 0 (cells z))).getD j []) 0 (cells y))=(Sort.swp q i j).toList.map cells:=by
 rw [K6 hu hn hi z,K6 rfl hn (by simpa using hj) y,hy,hz];rfl
end
end Dem
end
section
open Go Dem Go.Proofs
namespace Dem
variable {t:Th}
def cQ (x:Int):List D:=[.int .u64 x]
def UA (_:Th) (x:Int):List D:=[.int .u64 x]
def zU (x y:Int):Bool:=decide (x<y)
theorem UB (ht:TT t) (x y:Int):FC 240 [az x,az y] [] (.ret (cU (t _ fun _=>zU x y))) []:=by
 refine cr ht Tryz.func240 (N:=17) ?_
 cbv
 refine aG (Fl ht _) trv (fun r0 cN=>?_)
 simp only [ht] at cN
 cbv
 refine gI (by simp) ?_
 refine cj (fun g1=>⟨by simp at g1 ⊢;exact g1,trv,Fl ht _⟩) rfl rfl (fun r2 iu=>?_)
 simp only [ht] at iu
 cbv
 refine gI (by simp) ?_
 refine pI (by simp) ?_
 iterate 3 refine gI (by simp [ht]) ?_
 refine pI (by simp [ht];intros;simp_all) ?_
 refine an ?_
 (simp [zU, *];done)
theorem Fx {q:Array Int} {u:List (List D)} (hu:u=q.toList.map cQ) {j:Nat} (h:j<q.size):u.getD j []=[.int .u64 q[j]!]:=by
 subst hu;simp [List.getD,h,cQ]
theorem UC {q:Array Int} {u:List (List D)} (hu:u=q.toList.map cQ) (j:Nat) {g:Bool} {c:Prop} {ds:List D} {K:List D→Prop} (h:g=true→j<q.size∧u.getD j []=ds∧(j<u.length→c)) (hK:∀x,x=q[j]!→K [.int .u64 x]):AX g c ds K:=by
 refine We _ (fun hg=>?_) (hK _ rfl)
 obtain ⟨h1,h2,h3⟩:=h hg
 exact ⟨h3 (by rw [hu];simpa using h1),by rw [←h2,Fx hu h1]⟩
theorem K7 {q:Array Int} {u:List (List D)} (hu:u=q.toList.map cQ) {i:Nat} (h:i<q.size) (y:Int):u.set i (be (u.getD i []) 0 [.int .u64 y])=(q.setIfInBounds i y).toList.map cQ:=by
 rw [Fx hu h];subst hu;simp [be,List.map_set,cQ]
theorem RL {q:Array Int} {u:List (List D)} (hu:u=q.toList.map cQ) {i:Nat} (h:i<q.size) (x:D):i<u.length∧0+[x].length≤(u.getD i []).length:=by
 refine ⟨by rw [hu];simpa using h,?_⟩
 rw [Fx hu h];exact Nat.le_refl _
theorem Xf (ht:TT t) (a b n:Nat) (d:Array Int) {es:List (List D)} {ai bi:Int} (ha:ai=a) (x7:bi=b) (aC:es=d.toList.map cQ) (hn:n=d.size) (hb:b≤n) (hl:n<1000000000) (SB:a<1000000000):
 FC 234 [.ow 0 1 n,bD ai,bD bi] [.row 1 es] (.ret (.ek [])) [.row 1 (t _ fun _=>(Sort.insertionSort zU d a b).toList.map cQ)]:=by
 refine jG ht (bz:=[.row 1 es]) Tryz.func234 rfl rfl (N:=49) rfl rfl (n:=1) rfl rfl ?_
 cbv
 obtain ⟨J0,dz⟩:∃J0:Nat→Int×List (List D)→Prop,∀m i u,J0 m (i,u)↔(∃(k:Nat) (r:Array Int),i=k∧b≤k+m∧a+1≤k∧k≤1000000000∧r.size=n∧u=r.toList.map cQ∧Sort.insertionSort zU d a b=Sort.insOuter zU a b k r):=⟨fun m v=>match v with|(i,u)=>(∃(k:Nat) (r:Array Int),i=k∧b≤k+m∧a+1≤k∧k≤1000000000∧r.size=n∧u=r.toList.map cQ∧Sort.insertionSort zU d a b=Sort.insOuter zU a b k r),fun _ _ _=>Iff.rfl⟩
 refine bA ⟨[0,1,2,6],[],[]⟩ (σ:=Int×List (List D)) (fun v=>[(6,.d (.int .i64 (t _ fun _=>v.1)))]) (fun v=>[(0,.row 1 (t _ fun _=>v.2))]) J0 ?_
 cbv
 refine aE ⟨b,(_,_),(dz _ _ _).2 ?_,by simp only [ht];rfl,?_⟩
 ·exact ⟨a+1,d,by rw [ha];exact aB (by omega),by omega,by omega,by omega,hn.symm,aC,rfl⟩
 rintro m ⟨i,u⟩ hj
 replace hj:=(dz _ _ _).1 hj
 obtain ⟨k,r,rfl,j1,j2,j3,j5,j6,j4⟩:=hj
 cbv
 apply ap<;>intro h1
 ·simp [ht,ah] at h1
  cbv
  obtain ⟨J2,zC⟩:∃J2:Nat→Int×List (List D)→Prop,∀m2 jj u,J2 m2 (jj,u)↔(∃(j:Nat) (q:Array Int),jj=j∧j≤m2∧j≤k∧q.size=n∧u=q.toList.map cQ∧Sort.insertionSort zU d a b=Sort.insOuter zU a b (k+1) (Sort.insInner zU a j q)):=⟨fun m2 v=>match v with|(jj,u)=>(∃(j:Nat) (q:Array Int),jj=j∧j≤m2∧j≤k∧q.size=n∧u=q.toList.map cQ∧Sort.insertionSort zU d a b=Sort.insOuter zU a b (k+1) (Sort.insInner zU a j q)),fun _ _ _=>Iff.rfl⟩
  refine bA ⟨[0,1,2,6,7],[],[]⟩ (σ:=Int×List (List D)) (fun v=>[(7,.d (.int .i64 (t _ fun _=>v.1)))]) (fun v=>[(0,.row 1 (t _ fun _=>v.2))]) J2 ?_
  cbv
  refine aE ⟨k,(_,_),(zC _ _ _).2 ?_,rfl,?_⟩
  ·exact ⟨k,r,rfl,by omega,by omega,j5,j6,by rw [j4,tK];((try simp only [ah] at*);omega)⟩
  rintro m2 ⟨jj,u⟩ hj
  replace hj:=(zC _ _ _).1 hj
  obtain ⟨j,q,rfl,q1,q2,q5,q6,q4⟩:=hj
  cbv
  refine bS [false,false,true,true,false,false,false,false,false,false,false,false,false,true,true] ?_
  cbv
  iterate 2 refine gI (by simp) ?_
  iterate 2 refine gI (by simp [ht]) ?_
  refine gI (by simp [ht,ah];grind) ?_
  (refine UC q6 j (fun g=>(by simp [ht,ah] at g ⊢;exact ⟨by ((try simp only [ah] at*);omega),fun h=>(by exact ⟨g,h⟩)⟩)) (fun y ey=>?_))
  cbv
  iterate 3 refine gI (by simp [ht]) ?_
  refine gI (by (simp [ht,ah];intro g;rw [wrap64 (by omega) (by omega)];((try simp only [ah] at*);omega))) ?_
  (refine UC q6 (j-1) (fun g=>(by simp only [ht,decide_eq_true_eq,ah] at g ⊢;rw [wrap64 (by omega) (by omega),show ((j:Int)-1).toNat=j-1 by omega];exact ⟨by ((try simp only [ah] at*);omega),rfl,fun h=>(by exact ⟨g,h⟩)⟩)) (fun z ez=>?_))
  cbv
  refine cj (fun g3=>⟨by simp [ht] at g3 ⊢;exact g3,trv,UB ht _ _⟩) rfl rfl (fun r4 iY=>?_)
  simp only [ht] at iY
  cbv
  refine pI (by simp [ht]) ?_
  apply ap<;>intro h5
  ·simp [ht,ah] at h5
   cbv
   refine GW [0,1,2,3,4,5,6,7,10,11] [false,false,false,false,false,false,false,false,false,false,false,false,false,false,true,true,true,true] (by kernel_rfl) (by kernel_rfl) (by kernel_rfl) (by kernel_rfl) (by kernel_rfl) ?_
   cbv
   iterate 8 refine gI (by simp) ?_
   refine gI (by (simp [ht,ah];rw [wrap64 (by omega) (by omega)];((try simp only [ah] at*);omega))) ?_
   (refine UC q6 (j-1) (fun g=>(by simp only [ht,ah];rw [wrap64 (by omega) (by omega),show ((j:Int)-1).toNat=j-1 by omega];exact ⟨by ((try simp only [ah] at*);omega),rfl,fun h=>h⟩)) (fun z2 ez2=>?_))
   cbv
   iterate 2 refine gI (by simp) ?_
   refine gI (by simp [ht,ah];grind) ?_
   (refine UC q6 j (fun g=>(by simp only [ht,ah,Int.toNat_natCast];exact ⟨by ((try simp only [ah] at*);omega),trv,fun h=>h⟩)) (fun y2 ey2=>?_))
   cbv
   refine ⟨?_,?_⟩
   ·(simp only [ht,ah] at*;omega)
   refine ⟨?_,?_⟩
   ·(simp only [ht,ah,Int.toNat_natCast];exact RL q6 (by ((try simp only [ah] at*);omega)) _)
   refine ⟨?_,?_⟩
   ·(simp only [ht,ah];rw [wrap64 (by omega) (by omega)];((try simp only [ah] at*);omega))
   refine ⟨?_,?_⟩
   ·(simp only [ht,ah,Int.toNat_natCast];rw [wrap64 (by omega) (by omega),show ((j:Int)-1).toNat=j-1 by omega,K7 q6 (by ((try simp only [ah] at*);omega))];exact RL rfl (by simp;((try simp only [ah] at*);omega)) _)
   cbv
   refine bG (_,_) (by simp only [ht];rfl) (m2-1) ?_ ((zC _ _ _).2 ?_)
   ·((try simp only [ah] at*);omega)
   simp only [ah]
   exact ⟨j-1,Sort.swp q j (j-1),pi (by ((try simp only [ah] at*);omega)) (by omega),by omega,by omega,by rw [swp_size];exact q5,by rw [wrap64 (by omega) (by omega),show ((j:Int)-1).toNat=j-1 by omega,Int.toNat_natCast,K7 q6 (by ((try simp only [ah] at*);omega)),K7 rfl (by simp;((try simp only [ah] at*);omega)),ez2,ey2];rfl,by rw [q4,zg (by ((try simp only [ah] at*);omega)) (by rw [←ey,←ez,←iY];exact h5.2)]⟩
  simp [ht,ah] at h5
  cbv
  refine bG (_,_) (by simp only [ht];rfl) (m-1) ?_ ((dz _ _ _).2 ?_)
  ·((try simp only [ah] at*);omega)
  simp only [ah]
  exact ⟨k+1,q,aB (by omega),by omega,by omega,by ((try simp only [ah] at*);omega),q5,q6,by rw [q4,tL (fun g=>by rw [←ey,←ez,←iY];exact h5 (by ((try simp only [ah] at*);omega)))]⟩
 simp [ht,ah] at h1
 cbv
 refine lQ trv trv rfl ?_ rfl rfl
 (simp only [ht];rw [j4,wq _ _ _ _ (by ((try simp only [ah] at*);omega)),←j6];rfl)
def Xg:List UInt8:=0::1::List.replicate 2 2++List.replicate 4 3++List.replicate 8 4++List.replicate 16 5++List.replicate 32 6++List.replicate 64 7++List.replicate 128 8
def Xh (x:Int):Int:=(Xg.getD x.toNat 0).toNat
theorem Xi {x:Int} (h0:0≤x) (h1:x<256):IntKind.u8.wrap x=x:=by
 simp only [IntKind.wrap];simp [IntKind.bits,IntKind.signed];omega
theorem RM (b:UInt8):IntKind.i64.wrap (0+IntKind.i64.wrap (b.toNat:Int))=b.toNat:=by
 have:=b.toNat_lt
 rw [wrap64 (x:=(b.toNat:Int)) (by omega) (by omega),Int.zero_add,wrap64 (by omega) (by omega)]
theorem RN (ht:TT t) (x:Int) (hx0:0≤x) (hx:x<256):FC 244 [az x] [] (.ret (kp (t _ fun _=>Xh x))) []:=by
 have hw:=Xi hx0 hx
 refine cr ht Tryz.func244 (N:=25) ?_
 cbv
 apply ap<;>intro h0
 ·simp [ht] at h0
  omega
 simp [ht] at h0
 cbv
 apply ap<;>intro h1
 ·simp [ht] at h1
  omega
 simp [ht] at h1
 cbv
 apply ap<;>intro h2
 ·simp [ht] at h2
  omega
 simp [ht] at h2
 cbv
 refine ⟨?_,?_⟩
 ·(simp only [ht,hw];exact ⟨hx0,by simpa using hx⟩)
 cbv
 refine an ?_
 (simp only [ht,hw,RM,Xh];rfl)
theorem Xj (ht:TT t) (x:Int) (hx0:0≤x) (hx:x<256):FC 220 [az x] [] (.ret (kp (t _ fun _=>Xh x))) []:=by
 refine cr ht Tryz.func220 (N:=8) ?_
 cbv
 apply ap<;>intro h0
 ·simp at h0
 simp at h0
 cbv
 refine aG (RN ht _ ‹_› ‹_›) trv (fun r1 cM=>?_)
 simp only [ht] at cM
 cbv
 refine an ?_
 (simp [*];done)
theorem Xk (ht:TT t) (n:Nat) (dD:Int) (d:Array Int) {es:List (List D)} {ni:Int} (hni:ni=n) (aC:es=d.toList.map cQ) (hn:n=d.size) (hl:n≤12):
 FC 219 [.ow 0 1 n,bD 0,bD ni,bD dD] [.row 1 es] (.ret (.ek [])) [.row 1 (t _ fun _=>(Sort.insertionSort zU d 0 n).toList.map cQ)]:=by
 have hw:IntKind.i64.wrap ni=ni:=wrap64 (by omega) (by omega)
 refine jG ht (bz:=[.row 1 es]) Tryz.func219 rfl rfl (N:=134) rfl rfl (n:=1) rfl rfl ?_
 cbv
 obtain ⟨J0,dz⟩:∃J0:Nat→Int×Int×Int×Bool×Bool→Prop,∀m a b c f g,J0 m (a,b,c,f,g)↔(a=0∧b=ni):=⟨fun m v=>match v with|(a,b,c,f,g)=>(a=0∧b=ni),fun _ _ _ _ _ _=>Iff.rfl⟩
 refine bA ⟨[0,1,2,3,8,9],[],[]⟩ (σ:=Int×Int×Int×Bool×Bool) (fun v=>[(1,.d (.int .i64 (t _ fun _=>v.1))),(2,.d (.int .i64 (t _ fun _=>v.2.1))),(3,.d (.int .i64 (t _ fun _=>v.2.2.1))),(8,.d (.bool (t _ fun _=>v.2.2.2.1))),(9,.d (.bool (t _ fun _=>v.2.2.2.2)))]) (fun v=>[]) J0 ?_
 cbv
 refine aE ⟨1,(_,_,_,_,_),(dz _ _ _ _ _ _).2 ?_,by simp only [ht];rfl,?_⟩
 ·exact ⟨rfl,rfl⟩
 rintro m ⟨a,b,c,f,g⟩ hj
 replace hj:=(dz _ _ _ _ _ _).1 hj
 obtain ⟨Vc,wG⟩:=hj
 have hw2:IntKind.i64.wrap (b-a)=ni:=by rw [Vc,wG,Int.sub_zero,hw]
 cbv
 apply ap<;>intro h1
 ·simp [ht] at h1
  cbv
  refine dJ [0] trv rfl rfl (Xf ht 0 n n d (by simp only [ht];((try simp only [ah] at*);omega)) (by simp only [ht];((try simp only [ah] at*);omega)) aC hn (Nat.le_refl _) (by ((try simp only [ah] at*);omega)) (by ((try simp only [ah] at*);omega))) (cA ?_)
  cbv
  refine an ?_
  rfl
 simp [ht] at h1
 (simp only [ah] at*;omega)
theorem UD (ht:TT t) (n:Nat) (d:Array Int) {es:List (List D)} (aC:es=d.toList.map cQ) (hn:n=d.size) (hl:n≤12):
 FC 195 [.ow 0 1 n] [.row 1 es] (.ret (.ek [])) [.row 1 (t _ fun _=>(Sort.insertionSort zU d 0 n).toList.map cQ)]:=by
 have hw:IntKind.u64.wrap (n:Int)=n:=by simp only [IntKind.wrap];simp [IntKind.bits,IntKind.signed];omega
 have hel:(es.length:Int)=n:=by rw [aC,hn];simp
 refine jG ht (bz:=[.row 1 es]) Tryz.func195 rfl rfl (N:=11) rfl rfl (n:=1) rfl rfl ?_
 cbv
 refine ⟨?_,?_⟩
 ·(simp only [ht,ah] at*;omega)
 cbv
 refine aG (Xj ht _ (by simp only [ht];simp only [ah] at*;rw [hel,hw];omega) (by simp only [ht];simp only [ah] at*;rw [hel,hw];omega)) trv (fun r1 cM=>?_)
 cbv
 refine dJ [0] trv rfl rfl (Xk ht n _ d (by simp only [ht];exact hel) aC hn hl) (cA ?_)
 cbv
 refine an ?_
 rfl
end Dem
end
section
namespace Dem
open Go Go.Proofs Go.RowKit Go.Maps Go.Sort Go.Shelf
variable {t:Th}
theorem UE:SWO zU:=by
 refine ⟨?_,?_,?_⟩<;>simp only [zU]<;>simp<;>omega
theorem Ox (ss:List Int):(Sort.insertionSort zU ss.toArray 0 ss.length).toList=oh ss:=by
 obtain ⟨⟨h0,h1,h2⟩,h3⟩:=insertionSort_holds (lt:=zU) UE ss.toArray 0 ss.length (Nat.zero_le _) (by simp)
 refine Bl ?_ (sM ss) ?_
 ·rw [List.pairwise_iff_getElem]
  intro i j hi hj hij
  have hs:(Sort.insertionSort zU ss.toArray 0 ss.length).size=ss.length:=by rw [h0];simp
  simp only [Array.length_toList] at hi hj
  have:=h3 i j (Nat.zero_le _) hij (by omega)
  rw [getElem!_pos _ j hj,getElem!_pos _ i hi] at this
  simp only [Array.getElem_toList]
  simp [zU] at this
  exact this
 refine List.Perm.trans ?_ (kB ss).symm
 have hs:(Sort.insertionSort zU ss.toArray 0 ss.length).size=ss.length:=by rw [h0];simp
 have e1:(Sort.insertionSort zU ss.toArray 0 ss.length).extract 0 ss.length=Sort.insertionSort zU ss.toArray 0 ss.length:=by
  apply Array.extract_eq_self_of_le;omega
 have e2:ss.toArray.extract 0 ss.length=ss.toArray:=by apply Array.extract_eq_self_of_le;simp
 rw [e1,e2] at h2
 simpa using h2
end Dem
end
section
namespace Go.Proofs
open Go Go.RowKit Go.Maps Go.Sort Go.Shelf
open Dem (gL pP oD zf)
theorem Ks.Oy (F:Fence) (n:Nat) (h6:F.fn 151) (h8:F.fn 194) (h9:F.fn 195) (h11:F.fn 218) (hro:F.round=none) (hn:4≤n) (g:Nat) (lb:Array Value) (hFg:F.fn g) (eg:∀args w,(callFunc g args).run Tryz.prog w=.ok (.enter g args) w)
 (S:List Int→Prop) (N:Nat) (hN:N≤maxLen) (hNb:N*8≤140737488355328) (w:World) (hseq:SeqGives F (n-1-1-1) Tryz.prog g lb gL S N w)
 (Post:Value→List Int→World→Prop)
 (hsort:∀(v:Value) (ss:List Int) (W:World),S ss→W.ownsRow w.heap.size 24 1 v ss.length (ss.map gL)→(v=.slice none 0 0↔ss=[])→Below w.heap.size w W→CallsIn F (n-1) Tryz.prog 195 #[v] W fun e w'=>e=.returned (.tuple #[])∧Post v ss w'):
 CallsIn F n Tryz.prog 151 #[.func (.func g) #[] lb] w fun e w'=>∃(v:Value) (ss:List Int),e=.returned v∧S ss∧Post v ss w':=by
 have h1:1≤n:=by omega
 refine callsIn_of_wp Tryz.func151 rfl h6 ?_ hro
 simp only [Tryz.ntmps151,List.size_toArray,List.length_cons,List.length_nil,Nat.reduceAdd,Nat.reduceSub,Array.replicate_succ,Array.replicate_zero,List.push_toArray,List.append_toArray,List.nil_append,List.cons_append]
 gi_wp2_with (gi_at_call 194;refine (Ks.K5 F (n-1) h8 h11 hro (by omega) g lb hFg eg S N hN hNb _ hseq).mono ?_;rintro e W ⟨v,ss,rfl,hS,hrow,hnil,hb⟩)
 have cS:=hsort v ss W hS hrow hnil hb
 gi_wp2_with (gi_at_call 195;refine cS.mono ?_;rintro e w' ⟨rfl,hp⟩)
 go_ret
 exact ⟨v,ss,rfl,hS,hp⟩
end Go.Proofs
namespace Dem
open Go Go.Proofs Go.RowKit Go.Maps Go.Sort Go.Shelf
variable {t:Th}
theorem D1 {w:World} {ok:Nat→Prop}:∀(l:List ej) (ms:List MapEntry),aZ w ok false (l.map ej.cells) ms→ms.map (·.key)=l.map (fun m=>gL m.bu)
 |[],ms,h=>by simp only [List.map_nil,aZ] at h;subst h;rfl
 |m::l,ms,h=>by
  simp only [List.map_cons,aZ] at h
  obtain ⟨e,r,rfl,h1,h2⟩:=h
  simp only [ej.cells,gM,aJ] at h1
  rw [List.map_cons,List.map_cons,D1 l r h2,h1.1]
def UF {H:Type} (_:Value):Option (DataW H×List MemPlace):=some (.nil,[])
theorem RO {x:Int} (h0:0≤x) (h1:x<18446744073709551616):keyOf Tryz.prog 24 (gL x)=some (.int .u64 x):=by
 simp only [keyOf,Tryz.underlying24,mapKey,gL]
 rw [if_pos (by simp [Lit.wf,IntKind.min,IntKind.max,IntKind.signed,IntKind.bits];omega)]
theorem Oz {w:World} {ok:Nat→Prop} {l:List ej} {ms:Array MapEntry} {clock b:Nat} (hh:w.heap[b]?=some (.map ms clock)) (hs:kR ms clock) (hr:aZ w ok false (l.map ej.cells) ms.toList)
 (hnd:(l.map ej.bu).Nodup) (hw:∀m∈l,0≤m.bu∧m.bu<18446744073709551616) (hlen:l.length≤1000000):
 ∃D0:DataW Unit,w.ownsMap Tryz.prog 24 UF b ms.size D0∧(pP D0).Perm (l.map ej.bu)∧Maps.size D0=l.length:=by
 have hk:=D1 l ms.toList hr
 have hl:ms.size=l.length:=by have:=congrArg List.length hk;simpa using this
 have hrd:∀x∈ms.toList,∃m∈l,x.key=gL m.bu:=by
  intro x hx
  have:x.key∈ms.toList.map (·.key):=List.mem_map.2 ⟨x,hx,rfl⟩
  rw [hk] at this
  obtain ⟨m,hm,e⟩:=List.mem_map.1 this
  exact ⟨m,hm,e.symm⟩
 have hread:∀x∈ms.toList,∃m∈l,x.key=gL m.bu∧WideElems.rd Tryz.prog 24 (UF (H:=Unit)) x=some (.int .u64 m.bu,.nil):=by
  intro x hx
  obtain ⟨m,hm,e⟩:=hrd x hx
  refine ⟨m,hm,e,?_⟩
  unfold WideElems.rd
  rw [e,RO (hw m hm).1 (hw m hm).2]
  rfl
 refine ⟨_,⟨ms,clock,hh,⟨?_,⟨?_,hs.2,?_⟩,?_⟩,Nat.le_refl _,rfl⟩,?_,?_⟩
 ·rw [hl];exact Nat.le_trans hlen (by decide)
 ·intro x hx
  have:=hs.1
  rw [Array.all_eq_true_iff_forall_mem] at this
  simpa using this x (by simpa using hx)
 ·rw [hk]
  have:(l.map (fun m=>gL m.bu))=(l.map ej.bu).map gL:=by simp
  rw [this]
  exact List.pairwise_map.2 (hnd.imp (fun h e=>h (B7 e)))
 ·intro x hx
  obtain ⟨m,hm,e,h⟩:=hread x hx
  exact ⟨_,h⟩
 ·show (List.map (fun p=>zf p.1) ((ms.toList.map (WideElems.rg Tryz.prog 24 UF)).foldr DataW.insert [])).Perm _
  refine ((WideShapes.sorted_perm _).map _).trans ?_
  have e1:(ms.toList.map (WideElems.rg Tryz.prog 24 (UF (H:=Unit)))).map (fun p=>zf p.1)=ms.toList.map (fun x=>match x.key with|.int _ a=>a|_=>0):=by
   rw [List.map_map]
   refine List.map_congr_left fun x hx=>?_
   obtain ⟨m,hm,e,h⟩:=hread x hx
   simp only [Function.comp,WideElems.rg,h,e,gL]
   rfl
  have e2:ms.toList.map (fun x=>match x.key with|.int _ a=>a|_=>0)=(ms.toList.map (·.key)).map (fun k=>match k with|.int _ a=>a|_=>0):=by rw [List.map_map];rfl
  rw [e1,e2,hk,List.map_map]
  exact List.Perm.refl _
 rw [Maps.size_eq,Go.length_sorted,lgM,Array.length_toList,hl]
end Dem
end
section
open Go Dem Go.Proofs
namespace Dem
variable {t:Th}
theorem UG (ht:TT t) (es:List (List D)):FC 152 [.d (.mp false es)] [] (.ret (.fn 196 [.ptr 0 0])) [.var [.d (.mp false es)]]:=by
 refine cr ht Tryz.func152 (N:=4) ?_
 cbv
 refine JN trv ?_ ?_
 ·rfl
 rfl
theorem IF {P:Program} {G:Nat→Option (List D)} {f g:Nat} {args:List AV} {x:D} (h:bt P G f args [] (.ret (.fn g [.ptr 0 0])) [.var [.d x]]):bt P G f args [] (.ret (.fn g [.ep [x]])) []:=by
 intro β w vs X cx hx
 refine (h β w vs X cx hx).mono ?_
 rintro e w' ⟨β',ex,mS,hr⟩
 have hok:∀blk,bf β' [.var [.d x]] w' X blk→bf β' [] w' X blk:=fun blk ⟨h1,h2,_⟩=>⟨h1,h2,fun i b h=>by simp at h⟩
 have hk:jg w' w' (bf β' [.var [.d x]] w' X) (bf β' [] w' X):=fun blk hb=>⟨hok blk hb,rfl⟩
 have b0:=mS.box 0 _ rfl
 simp only [dm] at b0
 obtain ⟨c,e',v1,v2⟩:=b0
 simp only [ak,aj] at v2
 obtain ⟨u,r,hc,hu,rfl⟩:=v2
 refine ⟨β',⟨ex.os,ex.tape,ex.output,ex.size,ex.block,ex.shape,fun i hi=>by obtain ⟨b,h1,_⟩:=hi;simp at h1,fun i b h=>by simp at h⟩,?_,?_⟩
 ·refine ⟨mS.xs,fun g ds hg=>?_,by simp,by simp,by simp⟩
  obtain ⟨h1,h2⟩:=mS.zo g ds hg
  exact ⟨hok g h1,aX.mono hk g (fun _=>rfl) _ _ h2⟩
 cases e with
 |returned v=>
  simp only [mr,aj,ak] at hr ⊢
  obtain ⟨cs,rfl,p,ps,rfl,⟨rfl,_⟩,rfl⟩:=hr
  refine ⟨_,rfl,_,_,rfl,⟨β' 0,0,rfl,⟨(Array.getElem?_eq_some_iff.1 v1).1,mS.apart 0 _ rfl rfl,fun i b h=>by simp at h⟩,?_⟩,rfl⟩
  simp only [aX,and_true]
  refine ⟨u,?_,aJ.mono hk _ _ hu⟩
  simp only [World.cell?,v1]
  have:c[0]?=some u:=by rw [←Array.getElem?_toList,hc];rfl
  simpa using this
 |_=>exact hr.elim
theorem UH (ht:TT t) (es:List (List D)):FC 152 [.d (.mp false es)] [] (.ret (.fn 196 [.ep [.mp false es]])) []:=IF (UG ht es)
theorem Mx {w:World} {ok:Nat→Prop} {g:Nat} {cur:Array Value} {e:TypeId} (hg:w.heap[g]?=some (.cells cur e (0,0))):∀(ss:List Int) (off:Nat),(∀i x,ss[i]?=some x→cur[off+i]?=some (gL x))→ay w ok g 1 (ss.map cQ) off
 |[],_,_=>by simp [ay]
 |x::ss,off,h=>by
  simp only [List.map_cons,ay,cQ,List.length_cons,List.length_nil,aX,aJ,and_true,true_and]
  refine ⟨?_,Mx hg ss (off+1) (fun i y hy=>by rw [show off+1+i=off+(i+1) by omega];exact h (i+1) y (by simpa using hy))⟩
  refine ⟨gL x,?_,rfl⟩
  have:=h 0 x rfl
  simp only [World.cell?,hg]
  simpa using this
theorem xS {n f:Nat} {vs:Array Value} {w:World} {R:Ending→World→Prop} (he:∀args w,(callFunc f args).run Tryz.prog w=.ok (.enter f args) w) (h:jC Tryz.prog f vs w R):CallsIn Fence.wide n Tryz.prog f vs w R:=by
 rcases h with ⟨_,h⟩|⟨v,w',h,_⟩
 ·exact callsIn_wide.2 h
 rw [he] at h;cases h
theorem CN (ht:TT t) {l:List ej} {es:List (List D)} (aC:es=l.map ej.cells) (hnd:(l.map ej.bu).Nodup) (hw:∀m∈l,0≤m.bu∧m.bu<18446744073709551616) (hlen:l.length≤12):
 FC 151 [.fn 196 [.ep [.mp false es]]] [] (.ret (.ow 0 1 (t _ fun _=>l.length))) [.row 1 (t _ fun _=>(oh (l.map ej.bu)).map cQ)]:=by
 simp only [ht]
 intro β w vs X cx hx
 subst aC
 simp only [ak,aj] at hx
 obtain ⟨u,us,rfl,⟨cs,rfl,⟨p,ps,rfl,⟨bk,off,rfl,_,VH⟩,rfl⟩⟩,rfl⟩:=hx
 simp only [aX,aJ,and_true] at VH
 obtain ⟨mv,RP,bm,ms,clock,rfl,_,m1,m2,m3⟩:=VH
 obtain ⟨D0,o1,o2,o3⟩:=Oz m1 m2 m3 hnd hw (by omega)
 have hbk:bk<w.heap.size:=by
  rcases Nat.lt_or_ge bk w.heap.size with h|h
  ·exact h
  simp [World.cell?,h] at RP
 have K3:=Ks.K1 Fence.wide 1 trv rfl (Nat.le_refl _) bk off bm _ D0 w hbk RP o1
 have hps:∀ss:List Int,ss.Perm (pP D0)→ss.Perm (l.map ej.bu):=fun ss h=>h.trans o2
 have key:=Ks.Oy Fence.wide 4 trv trv trv trv rfl (Nat.le_refl _) 196 _ trv (enters_of Tryz.func196 (by kernel_rfl) rfl) _ _ (by rw [o3];exact Nat.le_trans hlen (by decide)) (by rw [o3];omega) w K3
  (fun v ss w'=>∃β',Ext β [] w β' [.row 1 ((oh (l.map ej.bu)).map cQ)] w'∧cF gl β' [.row 1 ((oh (l.map ej.bu)).map cQ)] w' X∧
   aj β' [.row 1 ((oh (l.map ej.bu)).map cQ)] w' (bf β' [.row 1 ((oh (l.map ej.bu)).map cQ)] w' X) (.ow 0 1 l.length) v) ?_
 ·refine .inl ⟨enters_of Tryz.func151 (by kernel_rfl) rfl _ _,(callsIn_wide.1 key).mono ?_⟩
  rintro e w' ⟨v,ss,rfl,_,β',h1,h2,h3⟩
  exact ⟨β',h1,h2,h3⟩
 intro v ss W hS hrow K4 hb
 have hp:=hps ss hS
 have hn:ss.length=l.length:=by rw [hp.length_eq];simp
 have MT:∃β1,Ext β [] w β1 [.row 1 (ss.map cQ)] W∧cF gl β1 [.row 1 (ss.map cQ)] W X∧aj β1 [.row 1 (ss.map cQ)] W (bf β1 [.row 1 (ss.map cQ)] W X) (.ow 0 1 ss.length) v:=by
  rcases hrow.2 with ⟨rfl,hz⟩|⟨g,cap,cur,rfl,hbase,hg,r1,r2,r3,r4⟩
  ·have hss:ss=[]:=List.eq_nil_of_length_eq_zero hz
   subst hss
   have ex:Ext β [] w β [.row 1 (([]:List Int).map cQ)] W:=by
    refine ⟨hb.os,hb.tape,hb.output,hb.size,fun k hk _=>hb.block k hk,fun k c e f hk=>⟨c,by rw [hb.block k (Array.getElem?_eq_some_iff.1 hk).1];exact hk,rfl⟩,fun i h=>?_,fun i b h hl=>?_⟩
    ·obtain ⟨b,h1,_⟩:=h;simp at h1
    cases i with
    |zero=>simp at h;subst h;simp [aA.live] at hl
    |succ i=>simp at h
   refine ⟨β,ex,?_,?_⟩
   ·refine cx.step ex (fun i b h=>?_) (fun i j bi bj hi hj mT oQ _=>?_)
    ·cases i with
     |zero=>simp at h;subst h;exact .inr (by simp [dm])
     |succ i=>simp at h
    cases i with
    |zero=>simp at hi;subst hi;simp [aA.live] at mT
    |succ i=>simp at hi
   simp only [aj]
   exact ⟨⟨_,rfl,rfl⟩,.inl ⟨rfl,none,rfl⟩⟩
  have ex:Ext β [] w (fun _=>g) [.row 1 (ss.map cQ)] W:=by
   refine ⟨hb.os,hb.tape,hb.output,hb.size,fun k hk _=>hb.block k hk,fun k c e f hk=>⟨c,by rw [hb.block k (Array.getElem?_eq_some_iff.1 hk).1];exact hk,rfl⟩,fun i h=>?_,fun i b h hl=>.inl hbase⟩
   obtain ⟨b,h1,_⟩:=h;simp at h1
  have wT:∀i x,ss[i]?=some x→cur[0+i]?=some (gL x):=by
   intro i x hx
   have h1:(cur.toList.take (ss.length*1))[i]?=some (gL x):=by rw [r4];simp [hx]
   rw [List.getElem?_take] at h1
   split at h1
   ·simpa using h1
   cases h1
  refine ⟨fun _=>g,ex,?_,?_⟩
  ·refine cx.step ex (fun i b h=>?_) (fun i j bi bj hi hj mT oQ _=>?_)
   ·cases i with
    |zero=>
     simp only [List.getElem?_cons_zero,osI] at h;subst h
     refine .inr ?_
     simp only [dm]
     exact .inr ⟨cur,_,hg,Mx hg ss 0 wT⟩
    |succ i=>simp at h
   cases i with
   |zero=>cases j with
    |zero=>rfl
    |succ j=>simp at hj
   |succ i=>simp at hi
  simp only [aj]
  refine ⟨⟨_,rfl,rfl⟩,?_⟩
  by_cases hz:ss.length=0
  ·exact absurd (K4.2 (List.eq_nil_of_length_eq_zero hz)) (by simp)
  exact .inr ⟨hz,cap,cur,_,(0,0),rfl,r1,hg,by rw [r3];exact Nat.le_refl _⟩
 obtain ⟨β1,x1,x2,x3⟩:=MT
 have hs:=UD ht ss.length ss.toArray (es:=ss.map cQ) (by simp) (by simp) (by omega)
 simp only [ht] at hs
 have hc:=hs β1 W [v] _ x2 (by simp only [ak];exact ⟨v,[],rfl,x3,rfl⟩)
 refine xS (enters_of Tryz.func195 (by kernel_rfl) rfl) (hc.mono ?_)
 rintro e w' ⟨β2,y1,y2,y3⟩
 cases e with
 |returned u=>
  simp only [mr,aj] at y3
  obtain ⟨us,rfl,hu⟩:=y3
  simp only [ak] at hu;subst hu
  refine ⟨rfl,?_⟩
  rw [Ox,show oh ss=oh (l.map ej.bu) from Bl (sM _) (sM _) ((kB _).trans (hp.trans (kB _).symm))] at y1 y2
  have x4:=aj.mono (y1.eT _) _ _ x3
  rw [hn] at x4
  exact ⟨_,x1.trans y1,y2,x4⟩
 |_=>exact y3.elim
theorem My (ht:TT t) (name:aH) (up:Bool) {l:List Node} {ps:List Place} {es qs:List (List D)} (aC:es=l.map Node.cells) (dF:qs=ps.map Place.cells) (hl:l.length<1000000000):
 FC 150 [.agg [SL es,SL qs],ST name,BL up] [] (.ret (EQ t (t _ fun _=>fK ⟨l,ps⟩ name up))) []:=by
 refine cr ht Tryz.func150 (N:=35) ?_
 cbv
 have aF:es.length=l.length:=by rw [aC,lgM]
 have bZ:qs.length=ps.length:=by rw [dF,lgM]
 refine aG (BE ht _ ‹_› (by omega)) trv (fun r0 cN=>?_)
 simp only [ht] at cN
 have ec:=cD cN
 clear cN
 rcases ec with ⟨e1,e2,e3⟩|⟨i,x,hi,hil,e1,e2,e3,e4⟩
 ·cbv
  apply ap<;>intro h1
  ·simp [ht] at h1
   cbv
   refine an ?_
   (simp [fK, *];done)
  simp [ht] at h1
  omega
 cbv
 apply ap<;>intro h2
 ·simp [ht] at h2
  cbv
  refine an ?_
  (simp only [ht,fK];grind)
 simp [ht] at h2
 cbv
 refine zx ht aC (cT:=Node.aS t) e1 ‹_› (fun _=>rfl) (fun _=>(by (simp only [ht,Node.aS];done))) ?_
 cbv
 apply ap<;>intro h4
 ·simp [ht] at h4
  cbv
  refine an ?_
  (obtain ⟨_,rfl⟩:=List.getElem?_eq_some_iff.1 e1;simp [fK, *];done)
 simp [ht] at h4
 cbv
 refine jY trv (pM ht ‹_› ‹_›) trv rfl (.inr rfl) ?_
 cbv
 refine ⟨?_,?_⟩
 ·(simp [ht,hi,hil];done)
 refine ⟨?_,?_⟩
 ·(simp [ht,hi,hil];done)
 cbv
 refine lQ trv (by simp [ht]) rfl rfl rfl ?_
 (obtain ⟨_,rfl⟩:=List.getElem?_eq_some_iff.1 e1;simp [fK,be,List.map_set, *];done)
theorem UI (ht:TT t) (name:aH) {l:List Node} {ps:List Place} {es qs:List (List D)} (aC:es=l.map Node.cells) (dF:qs=ps.map Place.cells) (hl:l.length<1000000000):
 FC 98 [.agg [SL es,SL qs],ST name] [] (.ret (EQ t (t _ fun _=>fK ⟨l,ps⟩ name true))) []:=by
 refine cr ht Tryz.func98 (N:=11) ?_
 cbv
 have aF:es.length=l.length:=by rw [aC,lgM]
 have bZ:qs.length=ps.length:=by rw [dF,lgM]
 refine aD (My ht _ _ ‹_› ‹_› ‹_›) trv (fun r0 cN=>?_)
 simp only [ht] at cN
 cbv
 refine an ?_
 (simp [*];done)
def ZP (t:Th) (r:cB×List Int×Int):AV:=.ek [L4 t r.1,SL (t _ fun _=>r.2.1.map cQ),bD r.2.2]
theorem UJ {u:List (List D)} {l:List ej} (hu:u=l.map ej.cells) {j:Int} {c:Prop} {o:Option (List D)} {K:Option (List D)→Prop} (hc:c) (ho:o=qt u (.int .u64 j)) (h0:K none) (h1:∀x,K (some [.int .i64 x])):Eg true c o K:=by
 subst hu
 rcases Hy l j with h|⟨x,h⟩
 ·exact ⟨none,fun _=>⟨hc,ho.trans h⟩,h0⟩
 exact ⟨_,fun _=>⟨hc,ho.trans h⟩,h1 x⟩
theorem Cb {u:List (List D)} {l:List ej} (hu:u=l.map ej.cells):∀r∈u,rowIs (.int .u64) 1 r:=by
 subst hu;intro r hr;obtain ⟨m,_,rfl⟩:=List.mem_map.1 hr;exact ⟨_,_,rfl,rfl,rfl⟩
theorem ia {name:aH} {ps:List Place} {k:Nat} {x:Place} (h:ps[k]?=some x):fM name (ps.take (k+1))=gH name (fM name (ps.take k)) x:=by
 unfold fM;rw [cV h,List.foldl_append];rfl
theorem UK (ht:TT t) (name:aH) {l:List Node} {ps:List Place} {es qs:List (List D)} (aC:es=l.map Node.cells) (dF:qs=ps.map Place.cells) (hl:l.length<1000000000) (EB:ps.length<1000000000)
 (hj:∀x∈ps,0≤x.bu∧x.bu<18446744073709551616) (h12:(fM name ps).length≤12):
 FC 97 [.agg [SL es,SL qs],ST name] [] (.ret (ZP t (t _ fun _=>tE ⟨l,ps⟩ name))) []:=by
 refine cr ht Tryz.func97 (N:=44) ?_
 cbv
 have aF:es.length=l.length:=by rw [aC,lgM]
 have bZ:qs.length=ps.length:=by rw [dF,lgM]
 refine aD (My ht _ _ ‹_› ‹_› ‹_›) trv (fun r0 cN=>?_)
 simp only [ht] at cN
 cbv
 apply ap<;>intro h1
 ·simp [ht] at h1
  cbv
  refine an ?_
  (simp only [ht,tE];grind)
 simp [ht] at h1
 cbv
 obtain ⟨J2,zC⟩:∃J2:Nat→Int×List (List D)→Prop,∀n i u,J2 n (i,u)↔(∃(k:Nat) (w:List ej),i=k∧k+n=ps.length∧u=w.map ej.cells∧w.map ej.bu=fM name (ps.take k)):=⟨fun n v=>match v with|(i,u)=>(∃(k:Nat) (w:List ej),i=k∧k+n=ps.length∧u=w.map ej.cells∧w.map ej.bu=fM name (ps.take k)),fun _ _ _=>Iff.rfl⟩
 refine bA ⟨[1,4,7,9,24,25,26],[],[]⟩ (σ:=Int×List (List D)) (fun v=>[(26,.d (.int .i64 (t _ fun _=>v.1)))]) (fun v=>[(2,.mp false (t _ fun _=>v.2))]) J2 ?_
 cbv
 refine aE ⟨ps.length,(_,_),(zC _ _ _).2 ?_,by simp only [ht];rfl,?_⟩
 ·exact ⟨0,[],rfl,by simp,by simp,rfl⟩
 rintro n ⟨i,u⟩ hj
 replace hj:=(zC _ _ _).1 hj
 obtain ⟨k,w,rfl,q1,q6,q4⟩:=hj
 have HP:u.length=w.length:=by rw [q6,lgM]
 have hnd:(w.map ej.bu).Nodup:=by rw [q4];exact nG _ _ _ List.nodup_nil
 have hwj:∀m∈w,0≤m.bu∧m.bu<18446744073709551616:=(by intro m hm;have h9:m.bu∈fM name (ps.take k):=(by rw [←q4];exact List.mem_map.2 ⟨m,hm,rfl⟩);rw [fM,rA] at h9;obtain ⟨x,hx,_,e⟩:=h9.resolve_left (by simp);rw [←e];exact hj x (List.mem_of_mem_take hx))
 have hlen:w.length≤12:=by have:=congrArg List.length q4;rw [lgM] at this;have:=Hz name ps k;omega
 have hmk:ps.length≤k→oh (w.map ej.bu)=EZ name ps:=(by intro h9;rw [q4,List.take_of_length_le h9];rfl)
 cbv
 apply ap<;>intro h3
 ·simp [ht,ah,bZ] at h3
  cbv
  refine ig ht dF (cT:=Place.aS t) (by (simp only [ht,ah];omega)) (by (simp only [ht,ah];omega)) (fun _=>rfl) (fun _=>rfl) (fun x4 SA=>?_)
  simp [ht,ah] at SA
  cbv
  apply ap<;>intro h5
  ·simp [ht] at h5
   cbv
   (refine UJ q6 (by simp only [ht];exact ⟨rfl,rfl,Cb q6⟩) (by simp only [ht]<;>rfl) ?_ (fun c9=>?_))
   ·cbv
    refine ⟨?_,?_⟩
    ·(simp only [ht];exact ⟨⟨rfl,rfl,Cb q6⟩,trv⟩)
    cbv
    refine bG (_,_) (by simp only [ht];rfl) (n-1) ?_ ((zC _ _ _).2 ?_)
    ·omega
    simp only [ah]
    first|exact ⟨k+1,w,aB (by ((try simp only [ah] at*);omega)),by ((try simp only [ah] at*);omega),q6,by rw [ia SA,gH,if_neg ‹_›];exact q4⟩|exact ⟨k+1,eC w (x4).bu _,aB (by omega),by omega,by rw [q6,ol],by rw [ia SA,gH,if_pos ‹_›,gm,q4]⟩
   cbv
   refine ⟨?_,?_⟩
   ·(simp only [ht];exact ⟨⟨rfl,rfl,Cb q6⟩,trv⟩)
   cbv
   refine bG (_,_) (by simp only [ht];rfl) (n-1) ?_ ((zC _ _ _).2 ?_)
   ·omega
   simp only [ah]
   first|exact ⟨k+1,w,aB (by ((try simp only [ah] at*);omega)),by ((try simp only [ah] at*);omega),q6,by rw [ia SA,gH,if_neg ‹_›];exact q4⟩|exact ⟨k+1,eC w (x4).bu _,aB (by omega),by omega,by rw [q6,ol],by rw [ia SA,gH,if_pos ‹_›,gm,q4]⟩
  simp [ht] at h5
  cbv
  refine bG (_,_) (by simp only [ht];rfl) (n-1) ?_ ((zC _ _ _).2 ?_)
  ·omega
  simp only [ah]
  first|exact ⟨k+1,w,aB (by omega),by omega,q6,by rw [ia SA,gH,if_neg ‹_›];exact q4⟩|exact ⟨k+1,eC w (x4).bu _,aB (by ((try simp only [ah] at*);omega)),by ((try simp only [ah] at*);omega),by rw [q6,ol],by rw [ia SA,gH,if_pos ‹_›,gm,q4]⟩
 simp [ht,ah,bZ] at h3
 cbv
 (refine ⟨.inr ⟨2,false,_,rfl,?_⟩⟩)
 cbv
 refine bS [false,false,false,false,true,true,true] ?_
 cbv
 iterate 2 refine gI (by simp) ?_
 refine .inl ?_
 refine nD (fun g9=>⟨trv,trv,UH ht _⟩) rfl rfl rfl ?_
 cbv
 refine .inr (G9 trv (CN ht (by (simp only [ht];omega)) ‹_› ‹_› ‹_›) trv rfl (.inr rfl) rfl ?_)
 cbv
 refine lQ trv (by simp [ht]) rfl rfl rfl ?_
 (simp only [ht,tE];rw [←cN,if_pos h1];simp only [hmk (by omega)];done)
theorem IG {s:aW} {l:List Int} {k:Nat} {x:Int} (h:l[k]?=some x):iv s (l.take (k+1))=(gG (iv s (l.take k)) x 6).1:=by
 unfold iv;rw [cV h,List.foldl_append];rfl
theorem OA {s:aW} (h:s.good):∀x∈s.aY.places,0≤x.bu∧x.bu<18446744073709551616:=fun x hx=>by
 obtain ⟨j,hj,_,e,_⟩:=h.ok.places x hx
 have h1:=h.ok.vU j hj
 have h2:=h.ok.next
 rw [←e];omega
theorem RQ {s:aW} (h:s.good) (name:aH):(fM name s.aY.places).length≤12:=by
 have:=Mv h name
 rwa [EZ,EY] at this
theorem OB {s:aW} (h:s.good) (name:aH):(tE s.aY name).2.1.length≤12:=by
 unfold tE;split
 ·exact Mv h name
 simp
theorem RR (ht:TT t) (x:iX) (hx:x.u) {k a b c d:Int} (hk:k=x.kind) (ha:a=x.a) (hb:b=x.b) (hc:c=x.c) (hd:d=x.d) (rd nx ef af:Int) {nl:List Node} {pl:List Place} {tl:List aR} {jl:List Jb} {ql:List bK} {el al:List dc} {ns ps ts js qs es bH:List (List D)} (eE:ns=nl.map Node.cells) (hps:ps=pl.map Place.cells) (hts:ts=tl.map aR.cells) (dM:js=jl.map Jb.cells) (dF:qs=ql.map bK.cells) (aC:es=el.map dc.cells) (has:bH=al.map dc.cells) (hgd:(⟨rd,nx,⟨nl,pl⟩,tl,jl,ql,⟨ef,el⟩,⟨af,al⟩⟩:aW).good):
 FC 68 [.agg [U8 k,U8 a,U8 b,U8 c,U8 d],.agg [az rd,az nx,SL ns,SL ps,SL ts,SL js,SL qs,az ef,SL es,az af,SL bH]] [] (.ret (ff t (t _ fun _=>lB x ⟨rd,nx,⟨nl,pl⟩,tl,jl,ql,⟨ef,el⟩,⟨af,al⟩⟩))) []:=by
 obtain ⟨⟨s1,s2⟩,s3,⟨s4,s5⟩,⟨s6,s7⟩,s8,s9,Us⟩:=(show aW.sm _ from hgd.sm)
 simp only at s1 s2 s3 s4 s5 s6 s7 s8 s9 Us
 have nI:∀x∈jl,x.x.gB.u'∧x.x.path.length<1000000000000:=fun x hx=>⟨(s7 x hx).1.2.1,(s7 x hx).1.1⟩
 have hpj:=OA hgd
 have hpm:=RQ hgd
 simp only at hpj hpm
 obtain ⟨u1,u2,u3,u4,u5⟩:=id hx
 obtain ⟨Z,hZ⟩:∃Z:aW,Z=⟨rd,nx,⟨nl,pl⟩,tl,jl,ql,⟨ef,el⟩,⟨af,al⟩⟩:=⟨_,rfl⟩
 obtain ⟨S,hS⟩:∃S,S=lB x ⟨rd,nx,⟨nl,pl⟩,tl,jl,ql,⟨ef,el⟩,⟨af,al⟩⟩:=⟨_,rfl⟩
 rw [←hS]
 obtain ⟨K,hK⟩:∃K:Nat,K=x.kind%8:=⟨_,rfl⟩
 obtain ⟨I,hI⟩:∃I:Int,I=(x.a%12:Nat):=⟨_,rfl⟩
 have k8:k.tmod 8=(K:Int):=by rw [hk,tm8,hK]
 have a12:IntKind.u64.wrap (a.tmod 12)=I:=by rw [ha,Zj,hI,T0 _ (by omega)]
 have b3:b.tmod 3=((x.b%3:Nat):Int):=by rw [hb,tm3]
 have c2:c.tmod 2=((x.c%2:Nat):Int):=by rw [hc,tm2]
 obtain ⟨sl1,sl2⟩:=IB s1 s2 (pl:=pl)
 refine cr ht Tryz.func68 (N:=129) ?_
 cbv
 obtain ⟨cZ,de,dg,cu,bZ,aF,cw⟩:=fc eE hps hts dM dF aC has
 refine ⟨?_,?_⟩
 ·(simp only [ht,ah] at*;omega)
 refine ⟨?_,?_⟩
 ·(simp only [ht,ah] at*;omega)
 cbv
 apply ap<;>intro h0
 ·simp [ht,ah,k8] at h0
  cbv
  apply ap<;>intro h1
  ·simp [ht,ah,k8] at h1
   cbv
   refine rF [] [4,5,6,7] [false,false,false,true,true,false,false,false,true] ?_
   cbv
   iterate 2 refine gI (by simp) ?_
   refine .inl ?_
   (refine kK (fun g=>⟨by simp,trv,v8 ht _ _ _ _ _ x hx hk ha hb hc hd⟩) rfl rfl rfl (fun r1 cM=>?_);simp only [ht] at cM;have OC:r1.sm:=(by rw [cM];exact mO (mN x)))
   cbv
   (refine aD (lZ ht rd nx ef af eE hps hts dM dF aC has _ _ _ _ _ _ _ _ (nJ:=r1.bY) (by simp only [ht]) OC s4 s6 s8 s9) (by simp) (fun r2 iu=>?_);simp only [ht] at iu)
   cbv
   iterate 3 refine gI (by simp) ?_
   refine an ?_
   (have e:S=r2.1:=(by rw [hS];unfold lB;rw [if_pos (by omega),iu,cM]);simp only [ht,e];done)
  simp [ht,ah,k8] at h1
  omega
 simp [ht,ah,k8] at h0
 cbv
 apply ap<;>intro h2
 ·simp [ht,ah,k8] at h2
  cbv
  apply ap<;>intro h3
  ·simp [ht,ah,k8] at h3
   cbv
   refine rF [] [4,5,6,7] [false,false,false,true,true,false,false,false,true] ?_
   cbv
   iterate 2 refine gI (by simp) ?_
   refine .inl ?_
   (refine kK (fun g=>⟨by simp,trv,v8 ht _ _ _ _ _ x hx hk ha hb hc hd⟩) rfl rfl rfl (fun r1 cM=>?_);simp only [ht] at cM;have OC:r1.sm:=(by rw [cM];exact mO (mN x)))
   cbv
   (refine aD (lZ ht rd nx ef af eE hps hts dM dF aC has _ _ _ _ _ _ _ _ (nJ:=r1.bY) (by simp only [ht]) OC s4 s6 s8 s9) (by simp) (fun r2 iu=>?_);simp only [ht] at iu)
   cbv
   iterate 3 refine gI (by simp) ?_
   refine an ?_
   (have e:S=r2.1:=(by rw [hS];unfold lB;rw [if_pos (by ((try simp only [ah] at*);omega)),iu,cM]);simp only [ht,e];done)
  simp [ht,ah,k8] at h3
  contradiction
 simp [ht,ah,k8] at h2
 cbv
 apply ap<;>intro h4
 ·simp [ht,ah,k8] at h4
  cbv
  apply ap<;>intro h5
  ·simp [ht,ah,k8] at h5
   cbv
   refine rF [] [4,5,6,7] [false,false,false,true,true,false,false,false,true] ?_
   cbv
   iterate 2 refine gI (by simp) ?_
   refine .inl ?_
   (refine kK (fun g=>⟨by simp,trv,v8 ht _ _ _ _ _ x hx hk ha hb hc hd⟩) rfl rfl rfl (fun r1 cM=>?_);simp only [ht] at cM;have OC:r1.sm:=(by rw [cM];exact mO (mN x)))
   cbv
   (refine aD (lZ ht rd nx ef af eE hps hts dM dF aC has _ _ _ _ _ _ _ _ (nJ:=r1.bY) (by simp only [ht]) OC s4 s6 s8 s9) (by simp) (fun r2 iu=>?_);simp only [ht] at iu)
   cbv
   iterate 3 refine gI (by simp) ?_
   refine an ?_
   (have e:S=r2.1:=(by rw [hS];unfold lB;rw [if_pos (by ((try simp only [ah] at*);omega)),iu,cM]);simp only [ht,e];done)
  simp [ht,ah,k8] at h5
  contradiction
 simp [ht,ah,k8] at h4
 cbv
 apply ap<;>intro h6
 ·simp [ht,ah,k8] at h6
  cbv
  refine rF [] [4,5,6,7] [false,false,false,true,true,false,false,false,true] ?_
  cbv
  iterate 2 refine gI (by simp) ?_
  refine .inl ?_
  (refine kK (fun g=>⟨by simp,trv,v8 ht _ _ _ _ _ x hx hk ha hb hc hd⟩) rfl rfl rfl (fun r1 cM=>?_);simp only [ht] at cM;have OC:r1.sm:=(by rw [cM];exact mO (mN x)))
  cbv
  (refine aD (lZ ht rd nx ef af eE hps hts dM dF aC has _ _ _ _ _ _ _ _ (nJ:=r1.bY) (by simp only [ht]) OC s4 s6 s8 s9) (by simp) (fun r2 iu=>?_);simp only [ht] at iu)
  cbv
  iterate 3 refine gI (by simp) ?_
  refine an ?_
  (have e:S=r2.1:=(by rw [hS];unfold lB;rw [if_pos (by ((try simp only [ah] at*);omega)),iu,cM]);simp only [ht,e];done)
 simp [ht,ah,k8] at h6
 cbv
 apply ap<;>intro h7
 ·simp [ht,ah,k8] at h7
  cbv
  apply ap<;>intro h8
  ·simp [ht,ah,k8] at h8
   cbv
   (refine aD (mM ht _ rd nx ef af ns ps ts qs es bH dM (by omega)) (by simp) (fun r1 cM=>?_);simp only [ht,a12] at cM;have OC:r1.1.x.sm:=(by rw [cM];exact BZ (fun x hx=>(s7 x hx).1)))
   cbv
   refine bS [false,false,false,false,false,false,false,false,false,false,false,false,true,true,false,false,false,true] ?_
   cbv
   iterate 2 refine gI (by simp) ?_
   refine .inl ?_
   (refine kK (fun g=>⟨by simp,trv,BG ht eE hps (by omega) (by omega)⟩) rfl rfl rfl (fun r2 iu=>?_);simp only [ht] at iu)
   cbv
   iterate 9 refine gI (by simp) ?_
   ((refine aD (KQ ht _ _ _ _ _ (l:=r2) (by simp only [ht]) (by rw [iu];exact sl1) (by rw [iu];exact sl2) (x:=r1.1.x.bY) (by simp only [ht]) OC.2.2.1 (fun m hm=>(OC.2.2.2 m hm).2.1)) (by simp) (fun r3 kO=>?_);simp only [ht] at kO))
   cbv
   iterate 3 refine gI (by simp) ?_
   apply ap<;>intro h9
   ·cbv
    (refine aD (wm ht rd nx ef af eE hps hts dM dF aC has _ (names:=r3.1) (by simp only [ht]) nI s4 s6 s1 s3 s8 s9 (by rw [kO];exact xM _ _ _ _)) (by simp) (fun r4 iY=>?_);simp only [ht,a12] at iY)
    cbv
    refine an ?_
    (have e3:fit (gv ⟨nl,pl⟩) (bC jl (x.a%12:Nat)).1.x.bY (bC jl (x.a%12:Nat)).1.x.gB (bC jl (x.a%12:Nat)).1.x.count=r3:=(by rw [kO,iu,cM,hI];rfl);have e:S=r4.1:=(by rw [hS];unfold lB;dsimp only;rw [if_neg (by ((try simp only [ah] at*);omega)),if_pos (by ((try simp only [ah] at*);omega)),e3,if_pos ‹_›,iY,hI]);simp only [ht,e];done)
   cbv
   refine an ?_
   (have e3:fit (gv ⟨nl,pl⟩) (bC jl (x.a%12:Nat)).1.x.bY (bC jl (x.a%12:Nat)).1.x.gB (bC jl (x.a%12:Nat)).1.x.count=r3:=(by rw [kO,iu,cM,hI];rfl);have e:S=⟨rd,nx,⟨nl,pl⟩,tl,jl,ql,⟨ef,el⟩,⟨af,al⟩⟩:=(by rw [hS];unfold lB;dsimp only;rw [if_neg (by ((try simp only [ah] at*);omega)),if_pos (by ((try simp only [ah] at*);omega)),e3,if_neg (by simp_all)]);simp only [ht,e,eE,hps,hts,dM,dF,aC,has];done)
  simp [ht,ah,k8] at h8
  contradiction
 simp [ht,ah,k8] at h7
 cbv
 apply ap<;>intro h10
 ·simp [ht,ah,k8] at h10
  cbv
  (refine aD (mM ht _ rd nx ef af ns ps ts qs es bH dM (by omega)) (by simp) (fun r1 cM=>?_);simp only [ht,a12] at cM;have OC:r1.1.x.sm:=(by rw [cM];exact BZ (fun x hx=>(s7 x hx).1)))
  cbv
  refine bS [false,false,false,false,false,false,false,false,false,false,false,false,true,true,false,false,false,true] ?_
  cbv
  iterate 2 refine gI (by simp) ?_
  refine .inl ?_
  (refine kK (fun g=>⟨by simp,trv,BG ht eE hps (by omega) (by omega)⟩) rfl rfl rfl (fun r2 iu=>?_);simp only [ht] at iu)
  cbv
  iterate 9 refine gI (by simp) ?_
  ((refine aD (KQ ht _ _ _ _ _ (l:=r2) (by simp only [ht]) (by rw [iu];exact sl1) (by rw [iu];exact sl2) (x:=r1.1.x.bY) (by simp only [ht]) OC.2.2.1 (fun m hm=>(OC.2.2.2 m hm).2.1)) (by simp) (fun r3 kO=>?_);simp only [ht] at kO))
  cbv
  iterate 3 refine gI (by simp) ?_
  apply ap<;>intro h11
  ·cbv
   (refine aD (wm ht rd nx ef af eE hps hts dM dF aC has _ (names:=r3.1) (by simp only [ht]) nI s4 s6 s1 s3 s8 s9 (by rw [kO];exact xM _ _ _ _)) (by simp) (fun r4 iY=>?_);simp only [ht,a12] at iY)
   cbv
   refine an ?_
   (have e3:fit (gv ⟨nl,pl⟩) (bC jl (x.a%12:Nat)).1.x.bY (bC jl (x.a%12:Nat)).1.x.gB (bC jl (x.a%12:Nat)).1.x.count=r3:=(by rw [kO,iu,cM,hI];rfl);have e:S=r4.1:=(by rw [hS];unfold lB;dsimp only;rw [if_neg (by ((try simp only [ah] at*);omega)),if_pos (by ((try simp only [ah] at*);omega)),e3,if_pos ‹_›,iY,hI]);simp only [ht,e];done)
  cbv
  refine an ?_
  (have e3:fit (gv ⟨nl,pl⟩) (bC jl (x.a%12:Nat)).1.x.bY (bC jl (x.a%12:Nat)).1.x.gB (bC jl (x.a%12:Nat)).1.x.count=r3:=(by rw [kO,iu,cM,hI];rfl);have e:S=⟨rd,nx,⟨nl,pl⟩,tl,jl,ql,⟨ef,el⟩,⟨af,al⟩⟩:=(by rw [hS];unfold lB;dsimp only;rw [if_neg (by ((try simp only [ah] at*);omega)),if_pos (by ((try simp only [ah] at*);omega)),e3,if_neg (by simp_all)]);simp only [ht,e,eE,hps,hts,dM,dF,aC,has];done)
 simp [ht,ah,k8] at h10
 cbv
 apply ap<;>intro h12
 ·simp [ht,ah,k8] at h12
  cbv
  (refine aD (Rs ht rd nx ef af eE hps hts dM dF aC has _ _ nI s4 s6 s3 s8 s9) (by simp) (fun r4 iY=>?_);simp only [ht,a12] at iY)
  cbv
  refine an ?_
  (have e:S=r4.1:=(by rw [hS];unfold lB;rw [if_neg (by ((try simp only [ah] at*);omega)),if_neg (by ((try simp only [ah] at*);omega)),if_pos (by ((try simp only [ah] at*);omega)),iY,hI]);simp only [ht,e];done)
 simp [ht,ah,k8] at h12
 cbv
 apply ap<;>intro VB
 ·simp [ht,ah,k8] at VB
  cbv
  refine rF [] [9,10,11,12] [false,false,false,false,false,false,false,false,false,false,false,false,false,false,true,true,true] ?_
  cbv
  iterate 5 refine gI (by simp) ?_
  refine gI (by simp [ht]) ?_
  ((refine ig ht (l:=lm) (cells:=bB) (cT:=gC t) rfl (by simp only [ht,b3];((try simp only [ah] at*);omega)) (by simp only [ht,b3];simp only [lm,List.length_cons,List.length_nil];((try simp only [ah] at*);omega)) (fun _=>rfl) (fun _=>rfl) (fun xn VD=>?_);have exn:lm.getD (x.b%3) []=xn:=(by simp only [ht,b3,Int.toNat_natCast] at VD;rw [List.getD_eq_getElem?_getD,VD];rfl)))
  cbv
  refine gI (by simp) ?_
  refine .inl ?_
  ((refine kK (fun g=>⟨by simp,trv,UK ht xn eE hps (by omega) (by omega) hpj (hpm _)⟩) rfl rfl rfl (fun r5 sO=>?_);simp only [ht] at sO;have hl5:r5.2.1.length≤12:=(by rw [sO];exact OB hgd xn);have hG5:∀l,(iv (j7 Z r5.1) l).good:=(fun l=>B6 (by have:=xO hgd xn false;rw [←DZ] at this;rw [sO,hZ];exact this) l);have e5:K=7→S=if r5.2.2=0∧x.c%2=0 then iv (j7 Z r5.1) r5.2.1 else j7 Z (fK ⟨nl,pl⟩ xn true).1:=(by intro hK7;rw [hS,hZ,sO,←exn];unfold lB;rw [if_neg (by omega),if_neg (by omega),if_neg (by omega)];rfl)))
  cbv
  iterate 4 refine gI (by simp) ?_
  iterate 4 refine gI (by simp [ht]) ?_
  refine pI (by simp [ht]) ?_
  apply ap<;>intro Sz
  ·simp [ht,ah,c2] at Sz
   cbv
   obtain ⟨J15,Xl⟩:∃J15:Nat→Int×Int×Int×List (List D)×List (List D)×List (List D)×List (List D)×List (List D)×Int×List (List D)×Int×List (List D)→Prop,∀n i rd nx ns ps ts js qs ef es af bH,J15 n (i,rd,nx,ns,ps,ts,js,qs,ef,es,af,bH)↔(∃q:Nat,i=q∧q+n=r5.2.1.length∧Told (iv (j7 Z r5.1) (r5.2.1.take q)) rd nx ns ps ts js qs ef es af bH):=⟨fun n v=>match v with|(i,rd,nx,ns,ps,ts,js,qs,ef,es,af,bH)=>(∃q:Nat,i=q∧q+n=r5.2.1.length∧Told (iv (j7 Z r5.1) (r5.2.1.take q)) rd nx ns ps ts js qs ef es af bH),fun _ _ _ _ _ _ _ _ _ _ _ _ _=>Iff.rfl⟩
   refine bA ⟨[3,4,11,13],[],[]⟩ (σ:=Int×Int×Int×List (List D)×List (List D)×List (List D)×List (List D)×List (List D)×Int×List (List D)×Int×List (List D)) (fun v=>[(13,.d (.int .i64 (t _ fun _=>v.1)))]) (fun v=>[(0,.var [.d (.int .u64 (t _ fun _=>v.2.1)),.d (.int .u64 (t _ fun _=>v.2.2.1)),.d (.sl (t _ fun _=>v.2.2.2.1)),.d (.sl (t _ fun _=>v.2.2.2.2.1)),.d (.sl (t _ fun _=>v.2.2.2.2.2.1)),.d (.sl (t _ fun _=>v.2.2.2.2.2.2.1)),.d (.sl (t _ fun _=>v.2.2.2.2.2.2.2.1)),.d (.int .u64 (t _ fun _=>v.2.2.2.2.2.2.2.2.1)),.d (.sl (t _ fun _=>v.2.2.2.2.2.2.2.2.2.1)),.d (.int .u64 (t _ fun _=>v.2.2.2.2.2.2.2.2.2.2.1)),.d (.sl (t _ fun _=>v.2.2.2.2.2.2.2.2.2.2.2))])]) J15 ?_
   cbv
   refine aE ⟨r5.2.1.length,(_,_,_,_,_,_,_,_,_,_,_,_),(Xl _ _ _ _ _ _ _ _ _ _ _ _ _).2 ?_,by simp only [ht];rfl,?_⟩
   ·exact ⟨0,rfl,by simp,by rw [hZ];exact ⟨rfl,rfl,by rfl,by rfl,hts,dM,dF,rfl,aC,rfl,has⟩⟩
   rintro n ⟨i,rd,nx,ns,ps,ts,js,qs,ef,es,af,bH⟩ hj
   replace hj:=(Xl _ _ _ _ _ _ _ _ _ _ _ _ _).1 hj
   obtain ⟨q,rfl,j1,jT⟩:=hj
   cbv
   apply ap<;>intro VC
   ·simp [ht,ah] at VC
    cbv
    refine rF [1,2] [1,2,6,7,8] [false,false,false,false,false,true,true,false,false,true] ?_
    cbv
    iterate 3 refine gI (by simp) ?_
    (refine ig ht (l:=r5.2.1) (cells:=cQ) (cT:=UA t) (by simp only [ht]<;>rfl) (by simp only [ht,ah];omega) (by simp only [ht,ah];omega) (fun _=>rfl) (fun _=>rfl) (fun x2 gX=>?_);simp [ht,ah] at gX)
    cbv
    refine gI (by simp) ?_
    (have qi:=(hG5 (r5.2.1.take q)).sm;refine aD (Fs ht _ _ _ _ (nl:=(iv (j7 Z r5.1) (r5.2.1.take q)).aY.nodes) (pl:=(iv (j7 Z r5.1) (r5.2.1.take q)).aY.places) (tl:=(iv (j7 Z r5.1) (r5.2.1.take q)).tree) (jl:=(iv (j7 Z r5.1) (r5.2.1.take q)).av) (ql:=(iv (j7 Z r5.1) (r5.2.1.take q)).queue) (el:=(iv (j7 Z r5.1) (r5.2.1.take q)).ev.l) (al:=(iv (j7 Z r5.1) (r5.2.1.take q)).au.l) (by simp only [ht];exact jT.n) (by simp only [ht];exact jT.p) (by simp only [ht];exact jT.t) (by simp only [ht];exact jT.j) (by simp only [ht];exact jT.q) (by simp only [ht];exact jT.e) (by simp only [ht];exact jT.a) _ _ (uE qi) qi.tree.1 qi.av.1 qi.places qi.queue qi.notes.1) (by simp) (fun r7 rG=>?_);simp only [ht] at rG;rw [jT.eq] at rG)
    cbv
    iterate 2 refine gI (by simp) ?_
    refine bG (_,_,_,_,_,_,_,_,_,_,_,_) (by simp only [ht];rfl) (n-1) ?_ ((Xl _ _ _ _ _ _ _ _ _ _ _ _ _).2 ?_)
    ·omega
    simp only [ah]
    exact ⟨q+1,aB (by omega),by omega,by rw [IG gX,←rG];exact Told.self r7.1⟩
   simp [ht,ah] at VC
   cbv
   refine an ?_
   (have e:=e5 (by ((try simp only [ah] at*);omega));rw [if_pos ⟨Sz.1,by ((try simp only [ah] at*);omega)⟩] at e;rw [List.take_of_length_le (by omega)] at jT;simp only [ht,e,jT.r,jT.x,jT.n,jT.p,jT.t,jT.j,jT.q,jT.f,jT.e,jT.g,jT.a];done)
  simp [ht,ah,c2] at Sz
  cbv
  refine rF [] [9,10,11] [false,false,false,false,false,false,false,false,true,true,false,false,true,true] ?_
  cbv
  iterate 5 refine gI (by simp) ?_
  refine gI (by simp [ht]) ?_
  ((refine ig ht (l:=lm) (cells:=bB) (cT:=gC t) rfl (by simp only [ht,b3];((try simp only [ah] at*);omega)) (by simp only [ht,b3];simp only [lm,List.length_cons,List.length_nil];((try simp only [ah] at*);omega)) (fun _=>rfl) (fun _=>rfl) (fun xm mxm=>?_);have exm:lm.getD (x.b%3) []=xm:=(by simp only [ht,b3,Int.toNat_natCast] at mxm;rw [List.getD_eq_getElem?_getD,mxm];rfl);rw [exn] at exm;subst exm))
  cbv
  refine gI (by simp) ?_
  ((refine aD (UI ht xn eE hps (by omega)) (by simp) (fun r6 mL=>?_);simp only [ht] at mL))
  cbv
  iterate 2 refine gI (by simp) ?_
  refine an ?_
  (have e:=e5 (by ((try simp only [ah] at*);omega));rw [if_neg (by intro h;have:=Sz h.1;((try simp only [ah] at*);omega))] at e;rw [←mL] at e;simp only [ht,e,hZ,j7,hts,dM,dF,aC,has];done)
 simp [ht,ah,k8] at VB
 (simp only [ah] at*;omega)
theorem D2 (ht:TT t) (N:Nat) (hN:N<256) {a:Int} (ea:a=N) {l:List iX} {dl:List (List D)} (Sq:dl=l.map iX.cells) (ZQ:∀x∈l,x.u) (hll:l.length<9223372036854775808):
 FC 26 [U8 a,SL dl] [] (.ret (ff t (t _ fun _=>gW N l (min l.length 40)))) []:=by
 refine cr ht Tryz.func26 (N:=26) ?_
 cbv
 have Fy:dl.length=l.length:=by rw [Sq,lgM]
 (refine aD (yW ht N hN ea) (by simp) (fun r1 cM=>?_);simp only [ht] at cM)
 cbv
 obtain ⟨J0,dz⟩:∃J0:Nat→Int×Int×Int×List (List D)×List (List D)×List (List D)×List (List D)×List (List D)×Int×List (List D)×Int×List (List D)→Prop,∀n i rd nx ns ps ts js qs ef es af bH,J0 n (i,rd,nx,ns,ps,ts,js,qs,ef,es,af,bH)↔(∃k:Nat,i=k∧k+n=40∧k≤l.length∧Told (gW N l k) rd nx ns ps ts js qs ef es af bH):=⟨fun n v=>match v with|(i,rd,nx,ns,ps,ts,js,qs,ef,es,af,bH)=>(∃k:Nat,i=k∧k+n=40∧k≤l.length∧Told (gW N l k) rd nx ns ps ts js qs ef es af bH),fun _ _ _ _ _ _ _ _ _ _ _ _ _=>Iff.rfl⟩
 refine bA ⟨[1,4,5,6],[],[]⟩ (σ:=Int×Int×Int×List (List D)×List (List D)×List (List D)×List (List D)×List (List D)×Int×List (List D)×Int×List (List D)) (fun v=>[(6,.d (.int .i64 (t _ fun _=>v.1)))]) (fun v=>[(1,.var [.d (.int .u64 (t _ fun _=>v.2.1)),.d (.int .u64 (t _ fun _=>v.2.2.1)),.d (.sl (t _ fun _=>v.2.2.2.1)),.d (.sl (t _ fun _=>v.2.2.2.2.1)),.d (.sl (t _ fun _=>v.2.2.2.2.2.1)),.d (.sl (t _ fun _=>v.2.2.2.2.2.2.1)),.d (.sl (t _ fun _=>v.2.2.2.2.2.2.2.1)),.d (.int .u64 (t _ fun _=>v.2.2.2.2.2.2.2.2.1)),.d (.sl (t _ fun _=>v.2.2.2.2.2.2.2.2.2.1)),.d (.int .u64 (t _ fun _=>v.2.2.2.2.2.2.2.2.2.2.1)),.d (.sl (t _ fun _=>v.2.2.2.2.2.2.2.2.2.2.2))])]) J0 ?_
 cbv
 refine aE ⟨40,(_,_,_,_,_,_,_,_,_,_,_,_),(dz _ _ _ _ _ _ _ _ _ _ _ _ _).2 ?_,by simp only [ht];rfl,?_⟩
 ·exact ⟨0,rfl,by omega,by omega,by rw [show gW N l 0=r1 from cM.symm];exact Told.self r1⟩
 rintro n ⟨i,rd,nx,ns,ps,ts,js,qs,ef,es,af,bH⟩ hj
 replace hj:=(dz _ _ _ _ _ _ _ _ _ _ _ _ _).1 hj
 obtain ⟨k,rfl,j1,j2,jT⟩:=hj
 cbv
 iterate 2 refine gI (by simp [ht]) ?_
 refine pI (by simp [ht]) ?_
 apply ap<;>intro h1
 ·simp [ht,ah,Fy] at h1
  cbv
  refine bS [false,false,false,false,false,true,true] ?_
  cbv
  iterate 2 refine gI (by simp) ?_
  refine ig ht Sq (cT:=iX.aS t) (by (simp only [ht,ah];omega)) (by (simp only [ht,ah];omega)) (fun _=>rfl) (fun _=>rfl) (fun x2 gX=>?_)
  simp [ht,ah] at gX
  cbv
  iterate 2 refine gI (by simp) ?_
  ((refine aD (RR ht x2 (ZQ x2 (List.mem_of_getElem? gX)) rfl rfl rfl rfl rfl _ _ _ _ (nl:=(gW N l k).aY.nodes) (pl:=(gW N l k).aY.places) (tl:=(gW N l k).tree) (jl:=(gW N l k).av) (ql:=(gW N l k).queue) (el:=(gW N l k).ev.l) (al:=(gW N l k).au.l) (by simp only [ht];exact jT.n) (by simp only [ht];exact jT.p) (by simp only [ht];exact jT.t) (by simp only [ht];exact jT.j) (by simp only [ht];exact jT.q) (by simp only [ht];exact jT.e) (by simp only [ht];exact jT.a) (by simp only [ht];rw [jT.eq];exact rL N l k)) (by simp) (fun r1 cM=>?_);simp only [ht] at cM;rw [jT.eq,←ID gX] at cM))
  cbv
  refine bG (_,_,_,_,_,_,_,_,_,_,_,_) (by simp only [ht];rfl) (n-1) ?_ ((dz _ _ _ _ _ _ _ _ _ _ _ _ _).2 ?_)
  ·((try simp only [ah] at*);omega)
  simp only [ah]
  exact ⟨k+1,aB (by omega),by ((try simp only [ah] at*);omega),by omega,by rw [←cM];exact Told.self r1⟩
 simp [ht,ah,Fy] at h1
 cbv
 refine an ?_
 (have hk:min l.length 40=k:=(by ((try simp only [ah] at*);omega));simp only [ht,hk,jT.r,jT.x,jT.n,jT.p,jT.t,jT.j,jT.q,jT.f,jT.e,jT.g,jT.a];done)
end Dem
end
section
open Go
namespace Dem
theorem zh {s:aW} (h:s.good) {x:Ask} (hx:tI x):(cY s x).1.good:=⟨h.ok.cY hx.gB,BR h.dD hx,B5 h.ok h.zI x⟩
theorem K8 {s:aW} (h:s.good) {id:Int} (hi:id<12) (names:List aH):(cJ s id names).1.good:=⟨h.ok.Ki _ _,(yX h.ok _ _).dD h.dD,DY h.ok h.zI hi _⟩
theorem wu (n:Nat):(jO n).good:=⟨BB n,yY _ n,fun j hj=>by cases hj⟩
def xA1:Ask:=⟨[97],⟨3,0,0,0⟩,1,1,5,[]⟩
def ZR (tk:Int):Ask:=⟨[98],⟨2,0,0,0⟩,1,3,tk,[]⟩
theorem RS {a b c d:Int} (h:∀x∈[a,b,c,d],0≤x∧x<18446744073709551616):(⟨a,b,c,d⟩:bE).w:=by
 intro k hk;unfold bE.at_;split<;>exact h _ (by simp)
theorem D3:tI xA1:=⟨by decide,RS (by decide),by decide,fun m hm=>by cases hm⟩
theorem D4 (tk:Int):tI (ZR tk):=⟨by simp [ZR],RS (by decide),by simp [ZR],fun m hm=>by cases hm⟩
def RT:aW:=(cY (jO 192) xA1).1
def RU:Int:=(cY (jO 192) xA1).2.1
def II:aW:=(cJ RT RU [[110,49]]).1
def CO (tk:Int):aW:=(cY II (ZR tk)).1
theorem RV:RU<12:=by decide+kernel
theorem Cc:RT.good:=zh (wu 192) D3
theorem Cd:II.good:=K8 Cc RV _
theorem OD (tk:Int):(CO tk).good:=zh Cd (D4 tk)
theorem OE:CI.good:=by
 have e:CI=⟨0,1,⟨[],[]⟩,[⟨[],bE.zero,bE.zero⟩],[],[],⟨0,[]⟩,⟨0,[]⟩⟩:=rfl
 refine ⟨?_,⟨fun n hn=>(by cases hn),fun e he=>?_,fun j hj=>(by cases hj)⟩,fun j hj=>(by cases hj)⟩
 ·exact {
   aY:=L9,ie:=Qv
   tree:=⟨⟨_,_,rfl,rfl⟩,by decide,by rw [e];exact List.pairwise_singleton _ _,by decide+kernel,by decide+kernel,by decide+kernel,fun x hx=>by rw [List.mem_singleton.1 hx];exact ⟨Bg,Bg⟩⟩
   used:=fun x hx k _=>by rw [List.mem_singleton.1 hx,pz];rfl
   most:=by decide
   next:=by decide
   ids:=List.Pairwise.nil
   vU:=fun j hj=>by cases hj
   sN:=fun j hj=>by cases hj
   left:=fun j hj=>by cases hj
   kC:=List.Pairwise.nil
   kY:=List.Pairwise.nil
   iP:=fun q=>by simp [e]
   places:=fun x hx=>by cases hx
   count:=fun j hj=>by cases hj
   notes:=by decide}
 rw [List.mem_singleton.1 he];decide
theorem K9 {s:aW} {id:Int} {a:Jb} (h:(bC s.av id).2=true) (g:(s.av.filter fun o=>o.runs&&decide (o.x.prio<(bC s.av id).1.x.prio)).map (·.id)=[a.id]):cm s id=[a.id]:=by
 unfold cm
 rw [h]
 obtain ⟨b,hb⟩:∃b,(s.av.filter fun o=>o.runs&&decide (o.x.prio<(bC s.av id).1.x.prio))=[b]:=List.length_eq_one_iff.1 (by have:=congrArg List.length g;simpa using this)
 rw [hb] at g ⊢
 simpa using g
theorem rO {s:aW} {id:Int} (g:(s.av.filter fun o=>o.runs&&decide (o.x.prio<(bC s.av id).1.x.prio)).map (·.id)=[]):cm s id=[]:=by
 unfold cm
 split
 ·rfl
 rw [List.map_eq_nil_iff.1 g];simp
def rP (s:aW) (id:Int) (A:List Int):List Int×List aH×Bool:=match lp s id A (A.length+1) 0 with
 |none=>([],[],false)
 |some (l,nodes)=>((gw s id (l.length+1) 0 l nodes).1,(gw s id (l.length+1) 0 l nodes).2,true)
def iA (v:bE):List bM→Nat→Prop
 |[],n=>n=0
 |s::r,n=>∃m≤n,(∀k<4,m*vk k v≤vk k s.free)∧iA v r (n-m)
theorem iA.zero (v:bE):∀l:List bM,iA v l 0
 |[]=>rfl
 |_::r=>⟨0,Nat.le_refl _,fun k _=>by simp,iA.zero v r⟩
theorem iA.less {v:bE}:∀{l:List bM} {n:Nat},iA v l (n+1)→iA v l n
 |[],n,h=>by cases h
 |s::r,n,⟨m,hm,h1,h2⟩=>by
  cases m with
  |zero=>exact ⟨0,Nat.zero_le _,h1,by simpa using iA.less (l:=r) (n:=n) (by simpa using h2)⟩
  |succ m=>
   refine ⟨m,by omega,fun k hk=>Nat.le_trans (Nat.mul_le_mul_right _ (Nat.le_succ m)) (h1 k hk),?_⟩
   rwa [show n+1-(m+1)=n-m by omega] at h2
theorem iA.put {v:bE} {s':bM}:∀{l:List bM} {i n:Nat} {s:bM},l[i]?=some s→(∀k<4,vk k v≤vk k s.free)→(∀k<4,vk k s'.free=vk k s.free-vk k v)→iA v (l.set i s') n→iA v l (n+1)
 |[],i,n,s,h,_,_,_=>by simp at h
 |x::r,0,n,s,h,hf,he,⟨m,hm,h1,h2⟩=>by
  simp only [List.getElem?_cons_zero,osI] at h;subst h
  refine ⟨m+1,by omega,fun k hk=>?_,by rwa [show n+1-(m+1)=n-m by omega]⟩
  have a:=h1 k hk;have b:=he k hk;have c:=hf k hk
  rw [b] at a
  rw [Nat.add_mul,Nat.one_mul];omega
 |x::r,i+1,n,s,h,hf,he,⟨m,hm,h1,h2⟩=>by
  simp only [List.getElem?_cons_succ] at h
  refine ⟨m,by omega,h1,?_⟩
  rw [show n+1-m=(n-m)+1 by omega]
  exact iA.put h hf he h2
theorem iA.take {v:bE} {s':bM}:∀{l:List bM} {i n:Nat} {s:bM},l[i]?=some s→(∀k<4,vk k s'.free=vk k s.free-vk k v)→iA v l (n+1)→iA v (l.set i s') n
 |[],i,n,s,h,_,_=>by simp at h
 |x::r,0,n,s,h,he,⟨m,hm,h1,h2⟩=>by
  simp only [List.getElem?_cons_zero,osI] at h;subst h
  cases m with
  |zero=>exact ⟨0,Nat.zero_le _,fun k _=>by simp,by simpa using iA.less (l:=r) (n:=n) (by simpa using h2)⟩
  |succ m=>
   refine ⟨m,by omega,fun k hk=>?_,by rwa [show n+1-(m+1)=n-m by omega] at h2⟩
   have a:=h1 k hk;have b:=he k hk
   rw [Nat.add_mul,Nat.one_mul] at a
   rw [b];omega
 |x::r,i+1,n,s,h,he,⟨m,hm,h1,h2⟩=>by
  simp only [List.getElem?_cons_succ] at h
  by_cases e:m=n+1
  ·subst e
   refine ⟨n,Nat.le_refl _,fun k hk=>Nat.le_trans (Nat.mul_le_mul_right _ (Nat.le_succ n)) (h1 k hk),?_⟩
   rw [Nat.sub_self];exact iA.zero v _
  refine ⟨m,by omega,h1,iA.take h he ?_⟩
  rwa [show n+1-m=(n-m)+1 by omega] at h2
theorem iA.one {v:bE}:∀{l:List bM} {n:Nat},iA v l (n+1)→∃s∈l,∀k<4,vk k v≤vk k s.free
 |[],n,h=>by cases h
 |x::r,n,⟨m,hm,h1,h2⟩=>by
  cases m with
  |zero=>
   obtain ⟨s,hs,h⟩:=iA.one (l:=r) (n:=n) (by simpa using h2)
   exact ⟨s,by simp [hs],h⟩
  |succ m=>exact ⟨x,by simp,fun k hk=>by have:=h1 k hk;rw [Nat.add_mul,Nat.one_mul] at this;omega⟩
theorem iA.mono {v:bE}:∀{l l':List bM} {n:Nat},l.length=l'.length→(∀(i:Nat) (s s':bM),l[i]?=some s→l'[i]?=some s'→∀k<4,vk k s.free≤vk k s'.free)→iA v l n→iA v l' n
 |[],[],n,_,_,h=>h
 |[],_::_,_,h,_,_=>by cases h
 |_::_,[],_,h,_,_=>by cases h
 |x::r,y::q,n,hl,hf,⟨m,hm,h1,h2⟩=>
  ⟨m,hm,fun k hk=>Nat.le_trans (h1 k hk) (hf 0 x y rfl rfl k hk),iA.mono (by simpa using hl) (fun i s s' a b=>hf (i+1) s s' (by simpa using a) (by simpa using b)) h2⟩
theorem pQ (v:bE) (hv:v.w):∀(l:List bM) (k:Nat) (b:ET) (L:List bM),(∀s∈L,s.free.w)→L.drop k=l→
 (b.ok=true→∃s,L[b.at_]?=some s∧(eH s.free v).2=true∧b.left=(eH s.free v).1)→
 ((
  (mG v l k b).ok=true→∃s,L[(mG v l k b).at_]?=some s∧(eH s.free v).2=true∧(mG v l k b).left=(eH s.free v).1)∧
  ((mG v l k b).ok=false→b.ok=false∧∀s∈l,(eH s.free v).2=false))
 |[],k,b,L,_,_,hb=>by simp only [mG];exact ⟨hb,fun h=>⟨h,by simp⟩⟩
 |s::r,k,b,L,hw,hd,hb=>by
  have hs:L[k]?=some s:=by
   have:=congrArg (fun x=>x[0]?) hd
   simpa using this
  have hr:L.drop (k+1)=r:=by rw [←List.drop_drop,hd];rfl
  simp only [mG]
  by_cases c:((eH s.free v).2&&(!b.ok||decide (rm (eH s.free v).1 b.left<0)))=true
  ·rw [if_pos c]
   rw [Bool.and_eq_true] at c
   obtain ⟨g1,g2⟩:=pQ v hv r (k+1) ⟨k,(eH s.free v).1,true⟩ L hw hr (fun _=>⟨s,hs,c.1,rfl⟩)
   exact ⟨g1,fun h=>absurd (g2 h).1 (by simp)⟩
  rw [if_neg c]
  obtain ⟨g1,g2⟩:=pQ v hv r (k+1) b L hw hr hb
  refine ⟨g1,fun h=>⟨(g2 h).1,fun x hx=>?_⟩⟩
  rcases List.mem_cons.1 hx with rfl|hx
  ·have:=(g2 h).1
   rw [this] at c
   simpa using c
  exact (g2 h).2 x hx
theorem RW {v:bE} (hv:v.w) {l:List bM} (hw:∀s∈l,s.free.w) (h:(best l v).ok=true):∃s,l[(best l v).at_]?=some s∧(eH s.free v).2=true∧(best l v).left=(eH s.free v).1:=
 (pQ v hv l 0 ⟨0,bE.zero,false⟩ l hw rfl (fun h=>by cases h)).1 h
theorem RX {v:bE} (hv:v.w) {l:List bM} (hw:∀s∈l,s.free.w) (h:(best l v).ok=false):∀s∈l,(eH s.free v).2=false:=
 ((pQ v hv l 0 ⟨0,bE.zero,false⟩ l hw rfl (fun h=>by cases h)).2 h).2
theorem IJ {v:bE} (hv:v.w):∀(n:Nat) (l:List bM) (out:List aH),(∀s∈l,s.free.w)→((ul v n l out).2=true↔iA v l n)
 |0,l,out,_=>⟨fun _=>iA.zero v l,fun _=>rfl⟩
 |n+1,l,out,hw=>by
  simp only [ul]
  cases hb:(best l v).ok with
  |false=>
   rw [show (!false)=true from rfl,if_pos rfl]
   refine ⟨fun h=>Bool.noConfusion h,fun h=>?_⟩
   obtain ⟨s,hs,hf⟩:=iA.one h
   have:=RX hv hw hb s hs
   rw [←Bool.not_eq_true,ng] at this
   exact absurd hf this
  |true=>
   obtain ⟨s,h1,h2,h3⟩:=RW hv hw hb
   rw [show (!true)=false from rfl,if_neg (by decide)]
   have nI:s∈l:=List.mem_of_getElem? h1
   have hd:l.getD (best l v).at_ default=s:=by rw [List.getD_eq_getElem?_getD,h1];rfl
   rw [hd,h3]
   have hle:∀k<4,vk k ({s with free:=(eH s.free v).1}:bM).free=vk k s.free-vk k v:=fun k hk=>E0 (hw s nI) h2 hk
   have hw':∀x∈l.set (best l v).at_ {s with free:=(eH s.free v).1},x.free.w:=fun x hx=>by
    rcases zO hx with hx|rfl
    ·exact hw x hx
    exact JW h2
   rw [IJ hv n _ _ hw']
   exact ⟨fun h=>iA.put h1 (ng.1 h2) hle h,fun h=>iA.take h1 hle h⟩
theorem OF {name:aH} {ps:List Place} {v:bE} {l:List Node} {n:Node} (ha:JS l) (hn:n∈l) (h:(eG n.name l ps).2=true):eG n.name l ps=left n.name ps (n.cap,true):=by
 have h2:=xu ha hn ps
 rw [gU ha hn] at h
 rw [h2,if_pos h]
theorem Mz {p:cB} (h:p.ok) (hw:p.w) {n:Node} (hn:n∈p.nodes) {k:Nat} (hk:k<4):(eG n.name p.nodes p.places).1.at_ k=((vk k n.cap-gE k (here n.name p.places):Nat):Int):=by
 have h1:=h.free n hn
 rw [gU h.zN hn] at h1
 rw [OF (name:=n.name) (v:=n.cap) h.zN hn (h.free n hn)]
 exact (oe n.name p.places n.cap (hw.cap n hn)).2 h1 k hk
theorem MA {p:cB} (h:p.ok) (hw:p.w) {n:Node} (hn:n∈p.nodes) {k:Nat} (hk:k<4):vk k (eG n.name p.nodes p.places).1=vk k n.cap-gE k (here n.name p.places):=by
 unfold vk;rw [Mz h hw hn hk];rfl
theorem Xm {p:cB} (h:p.ok) (hw:p.w) {n:Node} (hn:n∈p.nodes):(eG n.name p.nodes p.places).1.w:=by
 intro k hk
 have h1:=Mz h hw hn hk
 have h2:=(J5 (hw.cap n hn) hk).2
 rw [h1];omega
def IK (p:cB) (n:Node):bM:=⟨n.name,(eG n.name p.nodes p.places).1,n.labels⟩
theorem OG {p:cB} (h:p.ok):gv p=(p.nodes.filter (·.up)).map (IK p):=by
 have:∀r:List Node,(∀n∈r,n∈p.nodes)→r.filterMap (oa p.nodes p.places)=(r.filter (·.up)).map (IK p):=by
  intro r
  induction r with
  |nil=>intro _;rfl
  |cons n r ih=>
   intro hr
   have h1:=h.free n (hr n (by simp))
   have h2:=ih fun m hm=>hr m (by simp [hm])
   rw [List.filterMap_cons,List.filter_cons]
   cases hu:n.up
   ·simp [oa,hu,h2]
   simp [oa,hu,h1,h2,IK]
 exact this p.nodes fun n hn=>hn
theorem rQ {p:cB} (h:p.ok) (x:List Term):fitting (gv p) x=((p.nodes.filter (·.up)).filter fun n=>rj x n.labels).map (IK p):=by
 rw [OG h,fitting,List.filter_map];rfl
theorem OH {p:cB} (h:p.ok) (hw:p.w) (x:List Term):∀s∈fitting (gv p) x,s.free.w:=by
 rw [rQ h]
 intro s hs
 obtain ⟨n,hn,rfl⟩:=List.mem_map.1 hs
 exact Xm h hw (List.mem_filter.1 (List.mem_filter.1 hn).1).1
theorem MB {p:cB} (h:p.ok) (hw:p.w) {x:List Term} {v:bE} (hv:v.w) {c:Int} (hc:0≤c∧c≤8):(fit (gv p) x v c).2=true↔iA v (fitting (gv p) x) c.toNat:=by
 unfold fit
 rw [if_neg (by omega),IJ hv _ _ _ (OH h hw x),show max c 0=c by omega]
theorem RY {p q:cB} (h:p.ok) (hw:p.w) (h':q.ok) (hw':q.w) (hn:q.nodes=p.nodes) (hu:∀n,∀k<4,gE k (here n q.places)≤gE k (here n p.places)) {x:List Term} {v:bE} (hv:v.w) {c:Int} (hc:0≤c∧c≤8)
 (e:(fit (gv p) x v c).2=true):(fit (gv q) x v c).2=true:=by
 rw [MB h hw hv hc] at e
 rw [MB h' hw' hv hc]
 rw [rQ h] at e
 rw [rQ h',hn]
 refine iA.mono (by simp) (fun i s s' a b k hk=>?_) e
 rw [List.getElem?_map] at a b
 cases hi:(List.filter (fun n=>rj x n.labels) (List.filter (·.up) p.nodes))[i]? with
 |none=>rw [hi] at a;cases a
 |some n=>
  rw [hi] at a b
  simp only [Option.map_some,osI] at a b
  subst a;subst b
  have hm:=(List.mem_filter.1 (List.mem_filter.1 (List.mem_of_getElem? hi)).1).1
  have h1:=MA h hw hm hk
  have h2:=MA h' hw' (n:=n) (by rw [hn];exact hm) hk
  have h3:=hu n.name k hk
  simp only [IK]
  rw [h1,h2];omega
theorem Ce {s:aW} (h:s.ok) {p:aH} {v:bE}:(dy s.tree p v).2=0↔named p=true∧(∀q∈above p,∃e∈s.tree,e.path=q)∧∀e∈s.tree,e.path∈above p→∀k<4,iq k e.path s.av+vk k v≤vk k e.dD:=by
 have hz:∀e∈s.tree,(fL v e).2=0↔∀k<4,iq k e.path s.av+vk k v≤vk k e.dD:=by
  intro e he
  rw [pG,om]
  constructor
  ·rintro ⟨h1,h2⟩ k hk
   have h3:=mI.1 h2 k hk
   rw [pE (om.2 h1) hk,h.used e he k hk] at h3
   exact h3
  intro h1
  have h2:∀k<4,vk k e.used+vk k v<18446744073709551616:=fun k hk=>by
   have a:=h1 k hk;have b:=(J5 (h.tree.w e he).1 hk).2
   rw [h.used e he k hk];omega
  refine ⟨h2,mI.2 fun k hk=>?_⟩
  rw [pE (om.2 h2) hk,h.used e he k hk]
  exact h1 k hk
 unfold dy
 rcases rB (fL v) h.tree.zN p with ⟨_,e2,e3⟩|⟨e,h1,h2,h3⟩
 ·refine ⟨fun g=>absurd g e2,fun ⟨g1,g2,g3⟩=>?_⟩
  rcases e3 with e3|⟨q,hq,e3⟩|⟨e,he,hp,e3⟩
  ·rw [g1] at e3;cases e3
  ·obtain ⟨e,he,hp⟩:=g2 q hq;exact absurd hp (e3 e he)
  exact absurd ((hz e he).2 (g3 e he hp)) e3
 rw [e]
 exact ⟨fun _=>⟨h1,h2,fun e he hp=>(hz e he).1 (h3 e he hp)⟩,fun _=>rfl⟩
structure RZ (s t:aW):Prop where
 nodes:t.aY.nodes=s.aY.nodes
 places:∀n,∀k<4,gE k (here n t.aY.places)≤gE k (here n s.aY.places)
 tree:bW s.tree t.tree
 less:∀p,∀k<4,iq k p t.av≤iq k p s.av
theorem IL {s t:aW} (h:s.ok) (h':t.ok) (g:RZ s t) {p:aH} {v:bE} (e:(dy s.tree p v).2=0):(dy t.tree p v).2=0:=by
 rw [Ce h] at e
 rw [Ce h']
 obtain ⟨e1,e2,e3⟩:=e
 refine ⟨e1,fun q hq=>?_,fun x hx hp k hk=>?_⟩
 ·obtain ⟨e,he,hp⟩:=e2 q hq
  obtain ⟨x,hx,h1⟩:=g.tree.mem he
  exact ⟨x,hx,by rw [h1,hp]⟩
 obtain ⟨e,he,h1,h2⟩:=g.tree.back hx
 have a:=e3 e he (by rw [←h1];exact hp) k hk
 have b:=g.less x.path k hk
 rw [h2];rw [←h1] at a;omega
def Room (s:aW) (j:Jb):Prop:=(fit (gv s.aY) j.x.bY j.x.gB j.x.count).2=true∧(dy s.tree j.x.path j.tot).2=0
theorem Room.mono {s t:aW} (h:s.ok) (h':t.ok) (g:RZ s t) {j:Jb} (hc:dY j.x=0) (hv:j.x.gB.w) (r:Room s j):Room t j:=by
 have Cs:=(dZ.1 hc).2.1
 exact ⟨RY h.aY h.ie h'.aY h'.ie g.nodes g.places hv (by omega) r.1,IL h h' g r.2⟩
theorem OI {s:aW} (h:s.ok) {i:Nat} {j:Jb} (hj:s.av[i]?=some j) (hr:j.runs=false):(oA s j.id).2=true↔Room s j:=by
 obtain ⟨_,_,h1⟩:=gx h.ids hj
 have h2:=(dZ.1 (h.sN j (List.mem_of_getElem? hj)).1).2.2.2.2.2
 unfold oA jP fG
 rw [h1]
 simp only [hr,h2,Bool.not_false,Bool.and_true,Bool.not_true,Bool.false_or,Room]
 cases h3:(fit (gv s.aY) j.x.bY j.x.gB j.x.count).2<;>by_cases h4:(dy s.tree j.x.path (c8 j.x).1).2=0<;>simp [h4]
theorem R3 {s:aW} {id:Int} (h:(fG s id).2=false):oA s id=([],false):=by
 unfold oA jP;rw [h];rfl
def c5 (l:List Int) (j:Jb):Jb:=if j.runs=true∧j.id∈l then j.halted else j
theorem ct (l:List Int) (j:Jb):(c5 l j).id=j.id∧(c5 l j).x=j.x:=by unfold c5;split<;>exact ⟨rfl,rfl⟩
theorem gq (l:List Int) (j:Jb):(c5 l j).runs=true↔j.runs=true∧j.id ∉ l:=by
 unfold c5
 split
 ·rename_i h;simp [h.2]
 rename_i h;exact ⟨fun g=>⟨g,fun m=>h ⟨g,m⟩⟩,fun g=>g.1⟩
theorem La (l m:List Int) (j:Jb):c5 m (c5 l j)=c5 (l++m) j:=by
 unfold c5
 by_cases h1:j.runs=true∧j.id∈l
 ·rw [if_pos h1,if_neg (by simp),if_pos ⟨h1.1,by simp [h1.2]⟩]
 rw [if_neg h1]
 by_cases h2:j.runs=true∧j.id∈m
 ·rw [if_pos h2,if_pos ⟨h2.1,by simp [h2.2]⟩]
 rw [if_neg h2,if_neg (by rintro ⟨a,b⟩;rcases List.mem_append.1 b with b|b;exact h1 ⟨a,b⟩;exact h2 ⟨a,b⟩)]
structure lC (s:aW) (l:List Int) (t:aW):Prop where
 ok:t.ok
 av:t.av=s.av.map (c5 l)
 nodes:t.aY.nodes=s.aY.nodes
 places:t.aY.places=s.aY.places.filter fun x=>!decide (x.bu∈l)
 tree:bW s.tree t.tree
theorem lC.nil {s:aW} (h:s.ok):lC s [] s where
 ok:=h
 av:=by rw [show c5 []=id from funext fun j=>by simp [c5],List.map_id]
 nodes:=rfl
 places:=(List.filter_eq_self.2 fun x _=>by simp).symm
 tree:=bW.refl _
theorem lC.app {s t u:aW} {l m:List Int} (h:lC s l t) (g:lC t m u):lC s (l++m) u where
 ok:=g.ok
 av:=by rw [g.av,h.av,List.map_map];exact List.map_congr_left fun j _=>La l m j
 nodes:=by rw [g.nodes,h.nodes]
 places:=by
  rw [g.places,h.places,List.filter_filter]
  refine List.filter_congr fun x _=>?_
  by_cases h1:x.bu∈l<;>by_cases h2:x.bu∈m<;>simp [h1,h2]
 tree:=h.tree.trans g.tree
theorem D5 {s:aW} (h:s.ok) {id:Int} (hn:∀j∈s.av,j.id=id→j.runs=false):lC s [id] s where
 ok:=h
 av:=by
  conv=>lhs;rw [←List.map_id s.av]
  refine List.map_congr_left fun j hj=>?_
  unfold c5
  rw [if_neg]
  ·rfl
  rintro ⟨a,b⟩
  rw [hn j hj (by simpa using b)] at a;cases a
 nodes:=rfl
 places:=by
  refine (List.filter_eq_self.2 fun x hx=>?_).symm
  obtain ⟨j,hj,hr,he,_⟩:=h.places x hx
  simp only [List.mem_singleton,Bool.not_eq_true',decide_eq_false_iff_not]
  intro e
  rw [hn j hj (by rw [he,e])] at hr;cases hr
 tree:=bW.refl _
theorem OJ {s:aW} (h:s.ok) (id kind:Int):lC s [id] (gG s id kind).1:=by
 cases hf:s.av.findIdx? (fun j=>decide (j.id=id)) with
 |none=>
  have e:(gG s id kind).1=s:=by unfold gG;rw [hf]
  rw [e]
  rw [List.findIdx?_eq_none_iff] at hf
  exact D5 h fun j hj he=>by have:=hf j hj;simp [he] at this
 |some i=>
  obtain ⟨j,hj,he,hd⟩:=nH hf
  subst he
  cases hr:j.runs with
  |false=>
   have e:(gG s j.id kind).1=s:=by unfold gG;rw [hf];simp only;rw [hd,hr];rfl
   rw [e]
   exact D5 h fun x hx Ss=>by rw [dh h.ids hx (List.mem_of_getElem? hj) Ss,hr]
  |true=>
   obtain ⟨T,Q,h1,h2⟩:=BQ h hj hr kind
   have hok:=h.stop j.id kind
   rw [h2] at hok ⊢
   refine ⟨hok,?_,rfl,?_,h1⟩
   ·show s.av.set i j.halted=_
    refine List.ext_getElem? fun k=>?_
    rw [List.getElem?_map,List.getElem?_set]
    by_cases e:i=k
    ·subst e
     rw [if_pos rfl,hj,if_pos (List.getElem?_eq_some_iff.1 hj).1]
     simp [c5,hr]
    rw [if_neg e]
    cases hk:s.av[k]? with
    |none=>rfl
    |some x=>
     have:x.id≠j.id:=fun c=>e (vR h.ids hj hk c.symm)
     simp [c5,this]
   show (ry s.aY j.id).places=_
   simp [ry]
theorem fJ {s:aW} (h:s.ok):∀l:List Int,lC s l (aT s l):=by
 intro l
 induction l generalizing s with
 |nil=>exact lC.nil h
 |cons id l ih=>
  have h1:=OJ h id 5
  exact h1.app (ih h1.ok)
theorem bW.Xn {s t u:List aR} (h:bW s t) (g:bW s u):bW t u where
 len:=by rw [g.len,h.len]
 at_:=by
  intro i e hi
  have hl:=(List.getElem?_eq_some_iff.1 hi).1
  rw [h.len] at hl
  obtain ⟨x,h1,h2,h3⟩:=h.at_ i s[i] (List.getElem?_eq_getElem hl)
  obtain ⟨y,g1,g2,g3⟩:=g.at_ i s[i] (List.getElem?_eq_getElem hl)
  rw [hi] at h1;cases h1
  exact ⟨y,g1,by rw [g2,h2],by rw [g3,h3]⟩
theorem pR {α:Type} {p q:α→Bool} (h:∀x,p x=true→q x=true):∀l:List α,(l.filter p).Sublist (l.filter q)
 |[]=>List.Sublist.slnil
 |x::r=>by
  rw [List.filter_cons,List.filter_cons]
  cases hp:p x
  ·cases hq:q x
   ·simpa using pR h r
   simpa using (pR h r).cons x
  rw [h x hp]
  simpa using (pR h r).cons_cons x
theorem lC.ZS {s t u:aW} {l m:List Int} (h:lC s l t) (g:lC s m u) (hl:∀x∈l,x∈m):RZ t u where
 nodes:=by rw [h.nodes,g.nodes]
 places:=by
  intro n k hk
  rw [h.places,g.places]
  refine Bf ?_
  unfold here
  refine List.Sublist.filter _ (pR (fun x hx=>?_) _)
  simp only [Bool.not_eq_true',decide_eq_false_iff_not] at*
  exact fun c=>hx (hl _ c)
 tree:=h.tree.Xn g.tree
 less:=by
  intro p k hk
  rw [h.av,g.av]
  have:∀r:List Jb,iq k p (r.map (c5 m))≤iq k p (r.map (c5 l)):=by
   intro r
   induction r with
   |nil=>exact Nat.le_refl _
   |cons j r ih=>
    rw [List.map_cons,List.map_cons,gZ,gZ]
    refine Nat.add_le_add ?_ ih
    unfold fZ
    by_cases c:(c5 m j).runs=true∧p∈above (c5 m j).x.path
    ·obtain ⟨c1,c2⟩:=c
     rw [gq] at c1
     have d1:(c5 l j).runs=true:=(gq l j).2 ⟨c1.1,fun c=>c1.2 (hl _ c)⟩
     have e1:(c5 l j).x=(c5 m j).x:=by rw [(ct l j).2,(ct m j).2]
     rw [if_pos ⟨(gq m j).2 c1,c2⟩,if_pos ⟨d1,by rw [e1];exact c2⟩]
     unfold Jb.tot;rw [e1];exact Nat.le_refl _
    rw [if_neg c];exact Nat.zero_le _
  exact this s.av
theorem lC.fits {s t:aW} {l:List Int} (g:lC s l t) {i:Nat} {j:Jb} (hj:s.av[i]?=some j) (hr:j.runs=false):(oA t j.id).2=true↔Room t j:=by
 refine OI g.ok (i:=i) ?_ hr
 rw [g.av,List.getElem?_map,hj]
 simp [c5,hr]
theorem R4 {s:aW} (h:s.ok) {i:Nat} {j:Jb} (hj:s.av[i]?=some j) (hr:j.runs=false) {l m:List Int} (hl:∀x∈l,x∈m) (e:(gK s j.id l).2=true):(gK s j.id m).2=true:=by
 have h1:=fJ h l
 have h2:=fJ h m
 have hc:=h.sN j (List.mem_of_getElem? hj)
 unfold gK at*
 rw [h1.fits hj hr] at e
 rw [h2.fits hj hr]
 exact Room.mono h1.ok h2.ok (h1.ZS h2 hl) hc.1 hc.2.1 e
end Dem
end
section
open Go
namespace Dem
section
variable {s:aW} {id:Int}
theorem zi (all:List Int):∀n k:Nat,(match lp s id all n k with|none=>∀m,k≤m→m<k+n→(gK s id (all.take m)).2=false|some (l,nodes)=>∃m,k≤m∧m<k+n∧l=all.take m∧gK s id l=(nodes,true)∧∀m',k≤m'→m'<m→(gK s id (all.take m')).2=false)
 |0,k=>by simp only [lp];intro m h1 h2;omega
 |n+1,k=>by
  simp only [lp]
  by_cases c:(gK s id (all.take k)).2=true
  ·rw [if_pos c]
   exact ⟨k,Nat.le_refl _,by omega,rfl,by rw [←c],fun m' h1 h2=>by omega⟩
  rw [if_neg c]
  have ih:=zi all n (k+1)
  cases h:lp s id all n (k+1) with
  |none=>
   rw [h] at ih
   intro m h1 h2
   by_cases e:m=k
   ·subst e;simpa using c
   exact ih m (by omega) (by omega)
  |some x=>
   obtain ⟨l,nodes⟩:=x
   rw [h] at ih
   obtain ⟨m,h1,h2,h3,h4,h5⟩:=ih
   refine ⟨m,by omega,by omega,h3,h4,fun m' g1 g2=>?_⟩
   by_cases e:m'=k
   ·subst e;simpa using c
   exact h5 m' (by omega) g2
theorem OK {l:List Int} {i k:Nat} (h:i<k):∀x∈(l.eraseIdx k).eraseIdx i,x∈l.eraseIdx i:=by
 intro x hx
 rw [List.mem_eraseIdx_iff_getElem?] at hx ⊢
 obtain ⟨a,ha,e⟩:=hx
 rw [List.getElem?_eraseIdx] at e
 split at e
 ·exact ⟨a,ha,e⟩
 exact ⟨a+1,by omega,e⟩
theorem rR (hm:∀l m:List Int,(∀x∈l,x∈m)→(gK s id l).2=true→(gK s id m).2=true):∀(n k:Nat) (l:List Int) (nodes:List aH),l.length≤k+n→gK s id l=(nodes,true)→
 (∀i,i<k→i<l.length→(gK s id (l.eraseIdx i)).2=false)→
 gK s id (gw s id n k l nodes).1=((gw s id n k l nodes).2,true)∧(gw s id n k l nodes).1.Sublist l∧∀i<(gw s id n k l nodes).1.length,(gK s id ((gw s id n k l nodes).1.eraseIdx i)).2=false
 |0,k,l,nodes,hl,he,hn=>by
  simp only [gw]
  exact ⟨he,List.Sublist.refl _,fun i hi=>hn i (by omega) hi⟩
 |n+1,k,l,nodes,hl,he,hn=>by
  simp only [gw]
  by_cases c:k<l.length
  ·rw [if_pos c]
   by_cases d:(gK s id (l.eraseIdx k)).2=true
   ·rw [if_pos d]
    have e:gK s id (l.eraseIdx k)=((gK s id (l.eraseIdx k)).1,true):=by rw [←d]
    have g:=rR hm n k (l.eraseIdx k) _ (by rw [List.length_eraseIdx,if_pos c];omega) e (fun i hi hi2=>by
     cases q:(gK s id ((l.eraseIdx k).eraseIdx i)).2 with
     |false=>rfl
     |true=>
      have:=hm _ _ (OK hi) q
      rw [hn i hi (by omega)] at this;cases this)
    exact ⟨g.1,g.2.1.trans (List.eraseIdx_sublist _ _),g.2.2⟩
   rw [if_neg d]
   refine rR hm n (k+1) l nodes (by omega) he fun i hi hi2=>?_
   by_cases e:i=k
   ·subst e;simpa using d
   exact hn i (by omega) hi2
  rw [if_neg c]
  exact ⟨he,List.Sublist.refl _,fun i hi=>hn i (by have:i<l.length:=hi;omega) hi⟩
theorem CP (hm:∀l m:List Int,(∀x∈l,x∈m)→(gK s id l).2=true→(gK s id m).2=true):
 ((aU s id).2.2=false∧(aU s id).1=[]∧(aU s id).2.1=[]∧(gK s id (cm s id)).2=false)∨
 ((
  aU s id).2.2=true∧gK s id (aU s id).1=((aU s id).2.1,true)∧(∀x∈(aU s id).1,x∈cm s id)∧(aU s id).1.Sublist (cm s id)∧(gK s id (cm s id)).2=true∧
  ((gK s id []).2=true→(aU s id).1=[])∧∀i<(aU s id).1.length,(gK s id ((aU s id).1.eraseIdx i)).2=false):=by
 have h:=zi (s:=s) (id:=id) (cm s id) ((cm s id).length+1) 0
 unfold aU
 cases e:lp s id (cm s id) ((cm s id).length+1) 0 with
 |none=>
  rw [e] at h
  refine .inl ⟨rfl,rfl,rfl,?_⟩
  have:=h (cm s id).length (Nat.zero_le _) (by omega)
  rwa [List.take_length] at this
 |some x=>
  obtain ⟨l,nodes⟩:=x
  rw [e] at h
  obtain ⟨m,_,h2,rfl,h4,h5⟩:=h
  obtain ⟨g1,g2,g3⟩:=rR hm (((cm s id).take m).length+1) 0 ((cm s id).take m) nodes (by omega) h4 (fun i hi=>by omega)
  refine .inr ⟨rfl,g1,fun x hx=>List.mem_of_mem_take (g2.subset hx),g2.trans (List.take_sublist _ _),hm _ _ (fun x hx=>List.mem_of_mem_take hx) (by rw [h4]),fun hz=>?_,g3⟩
  have:m=0:=by
   cases m with
   |zero=>rfl
   |succ m=>have:=h5 0 (Nat.le_refl _) (by omega);rw [List.take_zero] at this;rw [hz] at this;cases this
  subst this
  exact List.eq_nil_of_length_eq_zero (by have:=g2.length_le;simp only [List.take_zero,List.length_nil] at this ⊢;omega)
end
theorem Xo {s:aW} (h:s.ok) {id:Int} (hn:∀j∈s.av,j.id≠id) (l:List Int):gK s id l=([],false):=by
 have g:=fJ h l
 refine R3 ?_
 have:(bC (aT s l).av id).2=false:=by
  rw [g.av]
  unfold bC
  cases e:(s.av.map (c5 l)).find? (fun j=>decide (j.id=id)) with
  |none=>rfl
  |some x=>
   have h1:=List.mem_of_find?_eq_some e
   have h2:=List.find?_some e
   obtain ⟨j,hj,rfl⟩:=List.mem_map.1 h1
   rw [decide_eq_true_eq,(ct l j).1] at h2
   exact absurd h2 (hn j hj)
 unfold fG;rw [this];rfl
theorem R5 {s:aW} (h:s.ok) {id:Int} (hw:(∃j∈s.av,j.id=id∧j.runs=false)∨∀j∈s.av,j.id≠id):
 ∀l m:List Int,(∀x∈l,x∈m)→(gK s id l).2=true→(gK s id m).2=true:=by
 intro l m hl e
 rcases hw with ⟨j,hj,rfl,hr⟩|hn
 ·obtain ⟨i,hi⟩:=List.getElem?_of_mem hj
  exact R4 h hi hr hl e
 rw [Xo h hn] at e;cases e
end Dem
end
section
open Go
namespace Dem
def jQ (s:aW) (p:Int):List Jb:=(s.av.filter fun o=>o.runs&&decide (o.x.prio<p)).mergeSort fw
theorem OL {s:aW} {id:Int} {j:Jb} (h:bC s.av id=(j,true)):cm s id=(jQ s j.x.prio).map (·.id):=by
 unfold cm jQ;rw [h];rfl
theorem Cf {s:aW} {p:Int} {o:Jb}:o∈jQ s p↔o∈s.av∧o.runs=true∧o.x.prio<p:=by
 unfold jQ
 rw [(List.mergeSort_perm _ _).mem_iff,List.mem_filter]
 simp
theorem Lb (s:aW) (p:Int):(jQ s p).length=(s.av.filter fun o=>o.runs&&decide (o.x.prio<p)).length:=(List.mergeSort_perm _ _).length_eq
theorem Lc {s:aW} (h:s.ok) (p:Int):(jQ s p).Pairwise fun a b=>a.x.prio<b.x.prio∨(a.x.prio=b.x.prio∧b.id<a.id):=by
 have h1:(jQ s p).Pairwise fun a b=>fw a b=true:=by
  refine List.pairwise_mergeSort ?_ ?_ _
  ·intro a b c;simp only [fw,Bool.or_eq_true,Bool.and_eq_true,decide_eq_true_eq];omega
  intro a b;simp only [fw,Bool.or_eq_true,Bool.and_eq_true,decide_eq_true_eq];omega
 have h2:(jQ s p).Pairwise fun a b=>a.id≠b.id:=by
  have:(s.av.filter fun o=>o.runs&&decide (o.x.prio<p)).Pairwise fun a b=>a.id≠b.id:=(h.ids.filter _).imp fun {a b} g=>by omega
  exact (List.mergeSort_perm _ _).symm.pairwise this fun {a b} g=>Ne.symm g
 refine (h1.and h2).imp fun {a b} g=>?_
 obtain ⟨g1,g2⟩:=g
 simp only [fw,Bool.or_eq_true,Bool.and_eq_true,decide_eq_true_eq] at g1
 omega
theorem OM {s:aW} (h:s.ok) {p:Int} {i:Nat} {a b:Jb} (ha:(jQ s p)[i]?=some a) (hb:(jQ s p)[i+1]?=some b):a.x.prio<b.x.prio∨(a.x.prio=b.x.prio∧b.id<a.id):=by
 obtain ⟨h1,rfl⟩:=List.getElem?_eq_some_iff.1 ha
 obtain ⟨h2,rfl⟩:=List.getElem?_eq_some_iff.1 hb
 exact List.pairwise_iff_getElem.1 (Lc h p) i (i+1) h1 h2 (by omega)
theorem rS {s:aW} (h:s.ok) {id:Int} {j:Jb} (hj:bC s.av id=(j,true)):
 (cm s id).length=(s.av.filter fun o=>o.runs&&decide (o.x.prio<j.x.prio)).length∧
 (∀(i:Nat) (x:Int),(cm s id)[i]?=some x→∃o∈s.av,o.id=x∧bC s.av x=(o,true)∧o.runs=true∧o.x.prio<j.x.prio)∧
 ∀(i:Nat) (x y:Int),(cm s id)[i]?=some x→(cm s id)[i+1]?=some y→
  (bC s.av x).1.x.prio<(bC s.av y).1.x.prio∨((bC s.av x).1.x.prio=(bC s.av y).1.x.prio∧(bC s.av y).1.id<(bC s.av x).1.id):=by
 rw [OL hj]
 have hf:∀o∈jQ s j.x.prio,bC s.av o.id=(o,true):=fun o ho=>by
  obtain ⟨i,hi⟩:=List.getElem?_of_mem (Cf.1 ho).1
  exact (gx h.ids hi).2.2
 refine ⟨by rw [lgM,Lb],fun i x hx=>?_,fun i x y hx hy=>?_⟩
 ·rw [List.getElem?_map] at hx
  cases e:(jQ s j.x.prio)[i]? with
  |none=>rw [e] at hx;cases hx
  |some o=>
   rw [e] at hx
   simp only [Option.map_some,osI] at hx
   have ho:=List.mem_of_getElem? e
   obtain ⟨g1,g2,g3⟩:=Cf.1 ho
   exact ⟨o,g1,hx,by rw [←hx];exact hf o ho,g2,g3⟩
 rw [List.getElem?_map] at hx hy
 cases e:(jQ s j.x.prio)[i]? with
 |none=>rw [e] at hx;cases hx
 |some a=>
  cases f:(jQ s j.x.prio)[i+1]? with
  |none=>rw [f] at hy;cases hy
  |some b=>
   rw [e] at hx;rw [f] at hy
   simp only [Option.map_some,osI] at hx hy
   subst hx;subst hy
   rw [hf a (List.mem_of_getElem? e),hf b (List.mem_of_getElem? f)]
   exact OM h e f
theorem rT {s:aW} (h:s.ok) {id:Int} (hw:(∃j∈s.av,j.id=id∧j.runs=false)∨∀j∈s.av,j.id≠id):
 ((aU s id).2.2=false→(aU s id).1=[]∧(aU s id).2.1=[])∧
 ((
  aU s id).2.2=true→oA (aT s (aU s id).1) id=((aU s id).2.1,true)∧(∀x∈(aU s id).1,x∈cm s id)∧
  ∀i<(aU s id).1.length,(oA (aT s ((aU s id).1.eraseIdx i)) id).2=false):=by
 rcases CP (R5 h hw) with ⟨h1,h2,h3,_⟩|⟨h1,h2,h3,_,_,_,h7⟩
 ·exact ⟨fun _=>⟨h2,h3⟩,fun e=>(show False by rw [h1] at e;exact Bool.noConfusion e).elim⟩
 exact ⟨fun e=>(show False by rw [h1] at e;exact Bool.noConfusion e).elim,fun _=>⟨h2,h3,h7⟩⟩
end Dem
end
section
open Go Go.Sort
namespace Dem
def xT (a b:Jb):Bool:=decide (a.x.prio<b.x.prio)||(decide (a.x.prio=b.x.prio)&&decide (b.id<a.id))
theorem MC:SWO xT:=by
 refine ⟨?_,?_,?_⟩<;>simp only [xT]<;>simp<;>omega
theorem D6 (L:List Jb):(Sort.insertionSort xT L.toArray 0 L.length).toList.Perm L:=by
 obtain ⟨⟨h0,h1,h2⟩,h3⟩:=insertionSort_holds (lt:=xT) MC L.toArray 0 L.length (Nat.zero_le _) (by simp)
 have hs:(Sort.insertionSort xT L.toArray 0 L.length).size=L.length:=by rw [h0];simp
 have e1:(Sort.insertionSort xT L.toArray 0 L.length).extract 0 L.length=Sort.insertionSort xT L.toArray 0 L.length:=by
  apply Array.extract_eq_self_of_le;omega
 have e2:L.toArray.extract 0 L.length=L.toArray:=by apply Array.extract_eq_self_of_le;simp
 rw [e1,e2] at h2
 simpa using h2
theorem Ld {L:List Jb} (hd:L.Pairwise fun a b=>a.id<b.id):(Sort.insertionSort xT L.toArray 0 L.length).toList=L.mergeSort fw:=by
 obtain ⟨⟨h0,h1,h2⟩,h3⟩:=insertionSort_holds (lt:=xT) MC L.toArray 0 L.length (Nat.zero_le _) (by simp)
 have hp:=D6 L
 have h4:(L.mergeSort fw).Pairwise fun a b=>fw a b=true:=by
  refine List.pairwise_mergeSort ?_ ?_ _
  ·intro a b c;simp only [fw,Bool.or_eq_true,Bool.and_eq_true,decide_eq_true_eq];omega
  intro a b;simp only [fw,Bool.or_eq_true,Bool.and_eq_true,decide_eq_true_eq];omega
 refine (hp.trans (List.mergeSort_perm L fw).symm).eq_of_pairwise (le:=fun a b=>fw a b=true) ?_ ?_ h4
 ·intro a b ha hb g1 g2
  have ma:a∈L:=hp.mem_iff.1 ha
  have mb:b∈L:=(List.mergeSort_perm L fw).mem_iff.1 hb
  simp only [fw,Bool.or_eq_true,Bool.and_eq_true,decide_eq_true_eq] at g1 g2
  exact dh hd ma mb (by omega)
 rw [List.pairwise_iff_getElem]
 intro i j hi hj hij
 have hs:(Sort.insertionSort xT L.toArray 0 L.length).size=L.length:=by rw [h0];simp
 simp only [Array.length_toList] at hi hj
 have:=h3 i j (Nat.zero_le _) hij (by omega)
 rw [getElem!_pos _ j hj,getElem!_pos _ i hi] at this
 simp only [Array.getElem_toList]
 simp only [xT,Bool.or_eq_false_iff,Bool.and_eq_false_iff,decide_eq_false_iff_not] at this
 simp only [fw,Bool.or_eq_true,Bool.and_eq_true,decide_eq_true_eq]
 omega
end Dem
end
section
open Go Dem Go.Proofs
namespace Dem
variable {t:Th}
theorem R6 (ht:TT t) (x:Int):FC 101 [bD x] [] (.ret (cU (t _ fun _=>false))) []:=by
 refine cr ht Tryz.func101 (N:=6) ?_
 cbv
 refine an ?_
 (simp [ht];done)
theorem UL (ht:TT t) (x y:Int):FC 50 [bD x,bD y] [] (.ret (kp (t _ fun _=>iW x y))) []:=by
 refine cr ht Tryz.func50 (N:=20) ?_
 cbv
 refine aG (R6 ht _) trv (fun r0 cN=>?_)
 simp only [ht] at cN
 cbv
 refine aG (R6 ht _) trv (fun r1 cM=>?_)
 simp only [ht] at cM
 cbv
 apply ap<;>intro h2
 ·cbv
  apply ap<;>intro h3
  ·cbv
   refine an ?_
   (simp only [ht,iW];grind)
  cbv
  refine an ?_
  (simp only [ht,iW];grind)
 cbv
 apply ap<;>intro h4
 ·cbv
  refine an ?_
  (simp only [ht,iW];grind)
 cbv
 apply ap<;>intro h5
 ·simp [ht] at h5
  cbv
  refine an ?_
  (simp [iW, *];done)
 simp [ht] at h5
 cbv
 apply ap<;>intro h6
 ·simp [ht] at h6
  cbv
  refine an ?_
  (simp [iW, *];done)
 simp [ht] at h6
 cbv
 refine an ?_
 (simp only [ht,iW];grind)
def SC:List Int→Int
 |[]=>0
 |x::r=>if x=0 then SC r else x
def Xp (x:Int):List D:=[.int .i64 x]
def UM (_:Th) (x:Int):List D:=[.int .i64 x]
theorem ZT (ht:TT t) {l:List Int} {es:List (List D)} (aC:es=l.map Xp) (hl:l.length<1000000000):FC 49 [SL es] [] (.ret (kp (t _ fun _=>SC l))) []:=by
 refine cr ht Tryz.func49 (N:=18) ?_
 cbv
 have aF:es.length=l.length:=by rw [aC,lgM]
 obtain ⟨J0,dz⟩:∃J0:Nat→Int→Prop,∀n i,J0 n i↔(∃k:Nat,i=k∧k+n=l.length∧SC l=SC (l.drop k)):=⟨fun n v=>match v with|i=>(∃k:Nat,i=k∧k+n=l.length∧SC l=SC (l.drop k)),fun _ _=>Iff.rfl⟩
 refine bA ⟨[3,6,7,8],[],[]⟩ (σ:=Int) (fun v=>[(8,.d (.int .i64 (t _ fun _=>v)))]) (fun v=>[]) J0 ?_
 cbv
 refine aE ⟨l.length,_,(dz _ _).2 ?_,by simp only [ht];rfl,?_⟩
 ·exact ⟨0,rfl,by simp,by simp⟩
 rintro n i hj
 replace hj:=(dz _ _).1 hj
 obtain ⟨k,rfl,j1,j4⟩:=hj
 cbv
 apply ap<;>intro h1
 ·simp [ht,ah,aF] at h1
  cbv
  (refine ig ht aC (cT:=UM t) (by simp only [ht];((try simp only [ah] at*);omega)) (by simp only [ht,ah];omega) (fun _=>rfl) (fun _=>rfl) (fun x mx=>?_);simp only [ht,ah,Int.toNat_natCast] at mx;rw [eI mx,SC] at j4)
  cbv
  apply ap<;>intro h2
  ·simp [ht] at h2
   cbv
   refine an ?_
   (simp_all;done)
  simp [ht] at h2
  cbv
  refine bG _ (by simp only [ht];rfl) (n-1) ?_ ((dz _ _).2 ?_)
  ·omega
  simp only [ah]
  exact ⟨k+1,aB (by omega),by omega,by rw [j4,if_pos (by simp_all)]⟩
 simp [ht,ah,aF] at h1
 cbv
 refine an ?_
 (rw [List.drop_eq_nil_of_le (by omega),SC] at j4;simp only [ht,j4];done)
def Le (a b:Jb):Int:=SC [iW a.x.prio b.x.prio,iW b.id a.id]
theorem MD {a b:Jb}:Le a b<0↔xT a b=true:=by
 simp only [Le,SC,iW,xT,Bool.or_eq_true,Bool.and_eq_true,decide_eq_true_eq]
 split<;>split<;>(try split)<;>(try split)<;>omega
theorem UN (ht:TT t) (a1 a3 a4 a5 a6 a7 a8 a9 a12 b1 b3 b4 b5 b6 b7 b8 b9 ON:Int) (a2 b2:aH) (Xq OO:Bool) {sa sb:List Term} {ar br:List (List D)} (har:ar=sa.map Term.cells) (hbr:br=sb.map Term.cells):
 FC 48 [.agg [az a1,ST a2,az a3,az a4,az a5,az a6,bD a7,bD a8,bD a9,SL ar,BL Xq,bD a12],.agg [az b1,ST b2,az b3,az b4,az b5,az b6,bD b7,bD b8,bD b9,SL br,BL OO,bD ON]] [] (.ret (kp (t _ fun _=>Le ⟨a1,⟨a2,⟨a3,a4,a5,a6⟩,a7,a8,a9,sa⟩,Xq,a12⟩ ⟨b1,⟨b2,⟨b3,b4,b5,b6⟩,b7,b8,b9,sb⟩,OO,ON⟩))) []:=by
 obtain ⟨o,ho⟩:∃o,o=Le ⟨a1,⟨a2,⟨a3,a4,a5,a6⟩,a7,a8,a9,sa⟩,Xq,a12⟩ ⟨b1,⟨b2,⟨b3,b4,b5,b6⟩,b7,b8,b9,sb⟩,OO,ON⟩:=⟨_,rfl⟩
 rw [←ho]
 refine cr ht Tryz.func48 (N:=19) ?_
 cbv
 have abZ:ar.length=sa.length:=by rw [har,lgM]
 have ab0:br.length=sb.length:=by rw [hbr,lgM]
 refine bS [false,false,false,false,false,false,false,false,false,false,false,true,true,true,true] ?_
 cbv
 iterate 6 refine gI (by simp) ?_
 refine .inl ?_
 refine cj (fun g0=>⟨trv,trv,UL ht _ _⟩) rfl rfl (fun r1 cM=>?_)
 simp only [ht] at cM
 cbv
 iterate 4 refine gI (by simp) ?_
 refine aG (Rm ht _ _) trv (fun r2 iu=>?_)
 simp only [ht] at iu
 cbv
 (refine aG (ZT ht (l:=[r1,r2]) rfl (by simp)) (by simp) (fun r3 kO=>?_);simp only [ht] at kO)
 cbv
 refine an ?_
 (simp only [ht];simp_all [Le];done)
theorem UO (ht:TT t) (a b n:Nat) (d:Array Jb) {es:List (List D)} {ai bi:Int} (ha:ai=a) (x7:bi=b) (aC:es=d.toList.map Jb.cells) (hn:n=d.size) (hb:b≤n) (hl:n<1000000) (SB:a<1000000000):
 FC 153 [.ow 0 12 n,bD ai,bD bi,.fn 48 []] [.row 12 es] (.ret (.ek [])) [.row 12 (t _ fun _=>(Sort.insertionSort xT d a b).toList.map Jb.cells)]:=by
 refine jG ht (bz:=[.row 12 es]) Tryz.func153 rfl rfl (N:=53) rfl rfl (n:=1) rfl rfl ?_
 cbv
 obtain ⟨J0,dz⟩:∃J0:Nat→Int×List (List D)→Prop,∀m i u,J0 m (i,u)↔(∃(k:Nat) (r:Array Jb),i=k∧b≤k+m∧a+1≤k∧k≤1000000000∧r.size=n∧u=r.toList.map Jb.cells∧Sort.insertionSort xT d a b=Sort.insOuter xT a b k r):=⟨fun m v=>match v with|(i,u)=>(∃(k:Nat) (r:Array Jb),i=k∧b≤k+m∧a+1≤k∧k≤1000000000∧r.size=n∧u=r.toList.map Jb.cells∧Sort.insertionSort xT d a b=Sort.insOuter xT a b k r),fun _ _ _=>Iff.rfl⟩
 refine bA ⟨[0,1,2,3,8],[],[]⟩ (σ:=Int×List (List D)) (fun v=>[(8,.d (.int .i64 (t _ fun _=>v.1)))]) (fun v=>[(0,.row 12 (t _ fun _=>v.2))]) J0 ?_
 cbv
 refine aE ⟨b,(_,_),(dz _ _ _).2 ?_,by simp only [ht];rfl,?_⟩
 ·exact ⟨a+1,d,by rw [ha];exact aB (by omega),by omega,by omega,by omega,hn.symm,aC,rfl⟩
 rintro m ⟨i,u⟩ hj
 replace hj:=(dz _ _ _).1 hj
 obtain ⟨k,r,rfl,j1,j2,j3,j5,j6,j4⟩:=hj
 cbv
 apply ap<;>intro h1
 ·simp [ht,ah] at h1
  cbv
  obtain ⟨J2,zC⟩:∃J2:Nat→Int×List (List D)→Prop,∀m2 jj u,J2 m2 (jj,u)↔(∃(j:Nat) (q:Array Jb),jj=j∧j≤m2∧j≤k∧q.size=n∧u=q.toList.map Jb.cells∧Sort.insertionSort xT d a b=Sort.insOuter xT a b (k+1) (Sort.insInner xT a j q)):=⟨fun m2 v=>match v with|(jj,u)=>(∃(j:Nat) (q:Array Jb),jj=j∧j≤m2∧j≤k∧q.size=n∧u=q.toList.map Jb.cells∧Sort.insertionSort xT d a b=Sort.insOuter xT a b (k+1) (Sort.insInner xT a j q)),fun _ _ _=>Iff.rfl⟩
  refine bA ⟨[0,1,2,3,8,9],[],[]⟩ (σ:=Int×List (List D)) (fun v=>[(9,.d (.int .i64 (t _ fun _=>v.1)))]) (fun v=>[(0,.row 12 (t _ fun _=>v.2))]) J2 ?_
  cbv
  refine aE ⟨k,(_,_),(zC _ _ _).2 ?_,rfl,?_⟩
  ·exact ⟨k,r,rfl,by omega,by omega,j5,j6,by rw [j4,tK];((try simp only [ah] at*);omega)⟩
  rintro m2 ⟨jj,u⟩ hj
  replace hj:=(zC _ _ _).1 hj
  obtain ⟨j,q,rfl,q1,q2,q5,q6,q4⟩:=hj
  cbv
  refine bS [false,false,true,true,false,false,false,false,false,false,false,false,false,false,true,true,true] ?_
  cbv
  iterate 2 refine gI (by simp) ?_
  iterate 3 refine gI (by simp [ht]) ?_
  refine gI (by simp [ht,ah];grind) ?_
  (refine zT q6 (Jb.aS t) (fun _=>by simp only [Jb.cells,Jb.aS,ht]) j (fun g=>(by simp [ht,ah] at g ⊢;exact ⟨by ((try simp only [ah] at*);omega),fun h=>(by exact ⟨g,h⟩)⟩)) (fun y ey=>?_))
  cbv
  iterate 3 refine gI (by simp [ht]) ?_
  refine gI (by (simp [ht,ah];intro g;rw [wrap64 (by omega) (by omega)];((try simp only [ah] at*);omega))) ?_
  (refine zT q6 (Jb.aS t) (fun _=>by simp only [Jb.cells,Jb.aS,ht]) (j-1) (fun g=>(by simp only [ht,decide_eq_true_eq,ah] at g ⊢;rw [wrap64 (by omega) (by omega),show ((j:Int)-1).toNat=j-1 by omega];exact ⟨by ((try simp only [ah] at*);omega),rfl,fun h=>(by exact ⟨g,h⟩)⟩)) (fun z ez=>?_))
  cbv
  refine cj (fun g3=>⟨by simp [ht] at g3 ⊢;exact g3,trv,UN ht _ _ _ _ _ _ _ _ _ _ _ _ _ _ _ _ _ _ _ _ _ _ (ko ht rfl) (ko ht rfl)⟩) rfl rfl (fun r4 iY=>?_)
  simp only [ht] at iY
  cbv
  refine gI (by simp [ht]) ?_
  refine pI (by simp [ht]) ?_
  apply ap<;>intro h5
  ·simp [ht,ah] at h5
   cbv
   refine GW [0,1,2,3,4,5,6,7,10,11] [false,false,false,false,false,false,false,false,false,false,false,false,false,false,true,true,true,true] (by kernel_rfl) (by kernel_rfl) (by kernel_rfl) (by kernel_rfl) (by kernel_rfl) ?_
   cbv
   iterate 8 refine gI (by simp) ?_
   refine gI (by (simp [ht,ah];rw [wrap64 (by omega) (by omega)];((try simp only [ah] at*);omega))) ?_
   (refine zT q6 (Jb.aS t) (fun _=>by simp only [Jb.cells,Jb.aS,ht]) (j-1) (fun g=>(by simp only [ht,ah];rw [wrap64 (by omega) (by omega),show ((j:Int)-1).toNat=j-1 by omega];exact ⟨by ((try simp only [ah] at*);omega),rfl,fun h=>h⟩)) (fun z2 ez2=>?_))
   cbv
   iterate 2 refine gI (by simp) ?_
   refine gI (by simp [ht,ah];grind) ?_
   (refine zT q6 (Jb.aS t) (fun _=>by simp only [Jb.cells,Jb.aS,ht]) j (fun g=>(by simp only [ht,ah,Int.toNat_natCast];exact ⟨by ((try simp only [ah] at*);omega),trv,fun h=>h⟩)) (fun y2 ey2=>?_))
   cbv
   refine ⟨?_,?_⟩
   ·(simp only [ht,ah] at*;omega)
   refine ⟨?_,?_⟩
   ·(simp only [ht,ah,Int.toNat_natCast];exact RI (n:=12) q6 (fun _=>rfl) (by ((try simp only [ah] at*);omega)) rfl)
   refine ⟨?_,?_⟩
   ·(simp only [ht,ah];rw [wrap64 (by omega) (by omega)];((try simp only [ah] at*);omega))
   refine ⟨?_,?_⟩
   ·(simp only [ht,ah,Int.toNat_natCast];rw [wrap64 (by omega) (by omega),show ((j:Int)-1).toNat=j-1 by omega];exact RI (n:=12) (K6 (n:=12) q6 (fun _=>rfl) (by ((try simp only [ah] at*);omega)) z2) (fun _=>rfl) (by simp;((try simp only [ah] at*);omega)) rfl)
   cbv
   refine bG (_,_) (by simp only [ht];rfl) (m2-1) ?_ ((zC _ _ _).2 ?_)
   ·((try simp only [ah] at*);omega)
   simp only [ah]
   exact ⟨j-1,Sort.swp q j (j-1),pi (by ((try simp only [ah] at*);omega)) (by omega),by omega,by omega,by rw [swp_size];exact q5,by rw [wrap64 (by omega) (by omega),show ((j:Int)-1).toNat=j-1 by omega,Int.toNat_natCast];exact RJ (n:=12) q6 (fun _=>rfl) (by ((try simp only [ah] at*);omega)) (by ((try simp only [ah] at*);omega)) ey2 ez2,by rw [q4,zg (by ((try simp only [ah] at*);omega)) (by rw [←ey,←ez];exact MD.1 (by have e:r4=Le y z:=iY;rw [←e];exact h5.2))]⟩
  simp [ht,ah] at h5
  cbv
  refine bG (_,_) (by simp only [ht];rfl) (m-1) ?_ ((dz _ _ _).2 ?_)
  ·((try simp only [ah] at*);omega)
  simp only [ah]
  exact ⟨k+1,q,aB (by omega),by omega,by omega,by ((try simp only [ah] at*);omega),q5,q6,by rw [q4,tL (fun g=>by rw [←ey,←ez];exact Bool.eq_false_iff.2 fun e=>absurd (MD.2 e) (by have e:r4=Le y z:=iY;rw [←e];have:=h5 (by ((try simp only [ah] at*);omega));omega))]⟩
 simp [ht,ah] at h1
 cbv
 refine lQ trv trv rfl ?_ rfl rfl
 (simp only [ht];rw [j4,wq _ _ _ _ (by ((try simp only [ah] at*);omega)),←j6];rfl)
theorem Lf (ht:TT t) (n:Nat) (d:Array Jb) {es:List (List D)} {ni:Int} (hni:ni=n) (aC:es=d.toList.map Jb.cells) (hn:n=d.size) (hl:n≤12):
 FC 100 [.ow 0 12 n,bD ni,.fn 48 []] [.row 12 es] (.ret (.ek [])) [.row 12 (t _ fun _=>(Sort.insertionSort xT d 0 n).toList.map Jb.cells)]:=by
 refine jG ht (bz:=[.row 12 es]) Tryz.func100 rfl rfl (N:=63) rfl rfl (n:=1) rfl rfl ?_
 cbv
 obtain ⟨J0,dz⟩:∃J0:Nat→Int×Int→Prop,∀m a b,J0 m (a,b)↔(a=0∧b=20):=⟨fun m v=>match v with|(a,b)=>(a=0∧b=20),fun _ _ _=>Iff.rfl⟩
 refine bA ⟨[0,1,2,6,7,8],[],[]⟩ (σ:=Int×Int) (fun v=>[(7,.d (.int .i64 (t _ fun _=>v.1))),(8,.d (.int .i64 (t _ fun _=>v.2)))]) (fun v=>[]) J0 ?_
 cbv
 refine aE ⟨1,(_,_),(dz _ _ _).2 ?_,by simp only [ht];rfl,?_⟩
 ·exact ⟨rfl,rfl⟩
 rintro m ⟨a,b⟩ hj
 replace hj:=(dz _ _ _).1 hj
 obtain ⟨Vc,wG⟩:=hj
 cbv
 apply ap<;>intro h1
 ·simp [ht,ah] at h1
  (simp only [ah] at*;omega)
 simp [ht,ah] at h1
 cbv
 refine dJ [0] trv rfl rfl (UO ht 0 n n d (by simp only [ht];exact Vc) hni aC hn (Nat.le_refl _) (by ((try simp only [ah] at*);omega)) (by ((try simp only [ah] at*);omega))) (cA ?_)
 cbv
 obtain ⟨J2,zC⟩:∃J2:Nat→Int→Prop,∀m b,J2 m b↔(b=20):=⟨fun m v=>match v with|b=>(b=20),fun _ _=>Iff.rfl⟩
 refine bA ⟨[0,1,2,6],[],[]⟩ (σ:=Int) (fun v=>[(6,.d (.int .i64 (t _ fun _=>v)))]) (fun v=>[]) J2 ?_
 cbv
 refine aE ⟨1,_,(zC _ _).2 ?_,by simp only [ht];rfl,?_⟩
 ·rfl
 rintro m b hj
 replace hj:=(zC _ _).1 hj
 obtain uI:=hj
 cbv
 apply ap<;>intro h3
 ·simp [ht,ah] at h3
  omega
 simp [ht,ah] at h3
 cbv
 refine an ?_
 rfl
theorem R7 (ht:TT t) (n:Nat) (d:Array Jb) {es:List (List D)} (aC:es=d.toList.map Jb.cells) (hn:n=d.size) (hl:n≤12):
 FC 47 [.ow 0 12 n,.fn 48 []] [.row 12 es] (.ret (.ek [])) [.row 12 (t _ fun _=>(Sort.insertionSort xT d 0 n).toList.map Jb.cells)]:=by
 have hel:(es.length:Int)=n:=by rw [aC,hn];simp
 refine jG ht (bz:=[.row 12 es]) Tryz.func47 rfl rfl (N:=9) rfl rfl (n:=1) rfl rfl ?_
 cbv
 refine ⟨?_,?_⟩
 ·(simp only [ht,ah] at*;omega)
 cbv
 refine dJ [0] trv rfl rfl (Lf ht n d (by simp only [ht];exact hel) aC hn hl) (cA ?_)
 cbv
 refine an ?_
 rfl
theorem UP (ht:TT t):FC 153 [SL [],bD 0,bD 0,.fn 48 []] [] (.ret (.ek [])) []:=by
 refine cr ht Tryz.func153 (N:=53) ?_
 cbv
 obtain ⟨J0,dz⟩:∃J0:Nat→Int→Prop,∀m a,J0 m a↔(a=1):=⟨fun m v=>match v with|a=>(a=1),fun _ _=>Iff.rfl⟩
 refine bA ⟨[0,1,2,3,8],[],[]⟩ (σ:=Int) (fun v=>[(8,.d (.int .i64 (t _ fun _=>v)))]) (fun v=>[]) J0 ?_
 cbv
 refine aE ⟨1,_,(dz _ _).2 ?_,rfl,?_⟩
 ·rfl
 rintro m a hj
 replace hj:=(dz _ _).1 hj
 obtain Vc:=hj
 cbv
 apply ap<;>intro h1
 ·simp [ht] at h1
  omega
 simp [ht] at h1
 cbv
 refine an ?_
 rfl
theorem Lg (ht:TT t):FC 100 [SL [],bD 0,.fn 48 []] [] (.ret (.ek [])) []:=by
 refine cr ht Tryz.func100 (N:=63) ?_
 cbv
 obtain ⟨J0,dz⟩:∃J0:Nat→Int×Int→Prop,∀m a b,J0 m (a,b)↔(a=0∧b=20):=⟨fun m v=>match v with|(a,b)=>(a=0∧b=20),fun _ _ _=>Iff.rfl⟩
 refine bA ⟨[0,1,2,6,7,8],[],[]⟩ (σ:=Int×Int) (fun v=>[(7,.d (.int .i64 (t _ fun _=>v.1))),(8,.d (.int .i64 (t _ fun _=>v.2)))]) (fun v=>[]) J0 ?_
 cbv
 refine aE ⟨1,(_,_),(dz _ _ _).2 ?_,by simp only [ht];rfl,?_⟩
 ·exact ⟨rfl,rfl⟩
 rintro m ⟨a,b⟩ hj
 replace hj:=(dz _ _ _).1 hj
 obtain ⟨Vc,wG⟩:=hj
 cbv
 apply ap<;>intro h1
 ·simp [ht] at h1
  omega
 simp [ht] at h1
 cbv
 refine gF trv (by have:=UP ht;simpa only [ht,Vc] using this) trv rfl rfl ?_
 cbv
 obtain ⟨J2,zC⟩:∃J2:Nat→Int→Prop,∀m b,J2 m b↔(b=20):=⟨fun m v=>match v with|b=>(b=20),fun _ _=>Iff.rfl⟩
 refine bA ⟨[0,1,2,6],[],[]⟩ (σ:=Int) (fun v=>[(6,.d (.int .i64 (t _ fun _=>v)))]) (fun v=>[]) J2 ?_
 cbv
 refine aE ⟨1,_,(zC _ _).2 ?_,by simp only [ht];rfl,?_⟩
 ·rfl
 rintro m b hj
 replace hj:=(zC _ _).1 hj
 obtain uI:=hj
 cbv
 apply ap<;>intro h3
 ·simp [ht] at h3
  omega
 simp [ht] at h3
 cbv
 refine an ?_
 rfl
theorem R8 (ht:TT t):FC 47 [SL [],.fn 48 []] [] (.ret (.ek [])) []:=by
 refine cr ht Tryz.func47 (N:=9) ?_
 cbv
 refine gF trv (by simp only [ht];exact Lg ht) trv rfl rfl ?_
 cbv
 refine an ?_
 rfl
theorem OP (ht:TT t) (jc:List D) {l:List (Jb)} {es:List (List D)} (aC:es=l.map Jb.cells) (f:Nat) (p:Jb→Bool) (hl:l.length<9223372036854775807)
 (hf:∀x∈l,FC f [.agg [az x.id,ST x.x.path,az x.x.gB.a,az x.x.gB.b,az x.x.gB.c,az x.x.gB.d,bD x.x.count,bD x.x.prio,bD x.x.eZ,SL (x.x.bY.map Term.cells),BL x.runs,bD x.left],.ep jc] [] (.ret (BL (p x))) []) {r:Int} (hr:r=idxOf p l):FC 70 [SL es,.fn f [.ep jc]] [] (.ret (bD r)) []:=by
 have hel:es.length=l.length:=by rw [aC,lgM]
 refine cr ht Tryz.func70 (N:=19) ?_
 cbv
 refine bA ⟨[0,1,7,8],[],[]⟩ (σ:=Nat) (fun k=>[(8,bD (t _ fun _=>(k:Int)))]) (fun _=>[]) (tF p l) ?_
 cbv
 refine aE ⟨l.length,0,.nil,by simp only [ht];rfl,fun n k hj=>?_⟩
 cbv
 apply ap<;>intro h
 ·simp only [ht,ah,decide_eq_true_eq] at h
  have hk:k<es.length:=by omega
  obtain ⟨x,hx,mQ,px,hpx⟩:=hj.get (by omega)
  have gJ:=hf x mQ
  rw [←hpx] at gJ
  obtain ⟨id',⟨p',⟨a',b',c',d'⟩,n',XP,LJ,sW⟩,XQ,XR⟩:=x;obtain ⟨HS,mK⟩:∃lr:List (List D),lr=sW.map Term.cells:=⟨_,rfl⟩;simp only [←mK] at gJ
  cbv
  refine ix [.int .u64 id',.str p',.int .u64 a',.int .u64 b',.int .u64 c',.int .u64 d',.int .i64 n',.int .i64 XP,.int .i64 LJ,.sl HS,.bool XQ,.int .i64 XR] ?_ ?_ ?_
  ·simp only [ht,ah];exact pK aC hk fun _=>rfl
  ·simp [ht,ah,aC,hx,mK,Jb.cells]
  cbv
  refine dx trv gJ ?_
  cbv
  apply ap<;>intro hb
  ·cbv
   refine an ?_
   simp only [ht,ah,hr,hj.hit hx (hpx▸hb)]
  cbv
  refine aE ⟨n-1,k+1,⟨hj.lt hx,hj.next hx (hpx▸hb)⟩,?_⟩
  simp only [ht,ah,aB (show k<9223372036854775807 by omega)];rfl
 simp only [ht,ah,decide_eq_false_iff_not] at h
 have hk:l.length≤k:=by omega
 clear h
 cbv
 refine an ?_
 rw [hr,hj.none hk]
theorem OQ (ht:TT t) (jc:List D) {l:List (Jb)} {es:List (List D)} (aC:es=l.map Jb.cells) {m c:Nat} (hm:m=l.length) (hc:m≤c) (f:Nat) (p:Jb→Bool) (hl:l.length<9223372036854775807)
 (hf:∀x∈l,FC f [.agg [az x.id,ST x.x.path,az x.x.gB.a,az x.x.gB.b,az x.x.gB.c,az x.x.gB.d,bD x.x.count,bD x.x.prio,bD x.x.eZ,SL (x.x.bY.map Term.cells),BL x.runs,bD x.left],.ep jc] [] (.ret (BL (p x))) []) {r:List (List D)} (hr:r=(l.filter (fun x=>!p x)).map Jb.cells) {kk:Nat} (hkk:kk=r.length) {rz:List (List D)} (Im:rz=r++List.replicate (m-kk) [.int .u64 0,.str [],.int .u64 0,.int .u64 0,.int .u64 0,.int .u64 0,.int .i64 0,.int .i64 0,.int .i64 0,.sl [],.bool false,.int .i64 0]):
 FC 44 [.vw 0 12 0 m c true,.fn f [.ep jc]] [.row 12 es] (.ret (.vw 0 12 0 kk c true)) [.row 12 rz]:=by
 have hel:es.length=m:=by rw [aC,lgM,hm]
 have hrows:∀r∈es,r.length=12:=by rw [aC];intro r hr;obtain ⟨y,_,rfl⟩:=List.mem_map.1 hr;rfl
 obtain ⟨k,hk⟩:∃k,k=idxOf p l:=⟨_,rfl⟩
 have QJ:(t (List (List D)) fun _=>(es.drop 0).take m)=l.map Jb.cells:=by simp only [ht];rw [List.drop_zero,List.take_of_length_le (by omega),aC]
 have hidx:=OP ht jc QJ f p hl hf hk
 obtain ⟨J,hJ⟩:∃J:Nat→Nat×Nat×List (List D)→Prop,∀n v,J n v↔(v.2.1+n=m∧v.1<v.2.1∧v.2.2.length=m∧(∀r∈v.2.2,r.length=12)∧v.2.2.take v.1=((l.take v.2.1).filter (fun x=>!p x)).map Jb.cells∧v.2.2.drop v.2.1=es.drop v.2.1):=⟨fun n v=>v.2.1+n=m∧v.1<v.2.1∧v.2.2.length=m∧(∀r∈v.2.2,r.length=12)∧v.2.2.take v.1=((l.take v.2.1).filter (fun x=>!p x)).map Jb.cells∧v.2.2.drop v.2.1=es.drop v.2.1,fun _ _=>Iff.rfl⟩
 refine jG ht (bz:=[.row 12 es]) Tryz.func44 rfl rfl (N:=42) rfl rfl (n:=1) rfl rfl ?_
 cbv
 refine Qn (TT.eq ht) (v:=bD k) [true] [] trv rfl ?_ rfl rfl rfl rfl rfl rfl rfl hidx ?_
 ·simp [ht];omega
 cbv
 apply ap<;>intro h
 ·have wF:k=-1:=by simp [ht] at h;exact h
  have hnone:=nY (hk▸wF:idxOf p l=-1)
  clear h
  cbv
  have PA:r=es:=by rw [hr,filter_all hnone,←aC]
  have hkm:kk=m:=by rw [hkk,PA,hel]
  have WU:rz=es:=by rw [Im,hkm,Nat.sub_self,PA];simp
  rw [WU,hkm]
  exact JN trv rfl rfl
 have wF:k≠-1:=by simp [ht] at h;exact h
 clear h
 obtain ⟨i0,x0,Vx,hx0,Ze,hb0⟩:=nZ (hk▸wF:idxOf p l≠-1)
 rw [←hk] at Vx
 subst Vx
 have Zf:i0<m:=by rw [hm];exact (List.getElem?_eq_some_iff.1 hx0).1
 cbv
 refine bA ⟨[0,1,5,6],[],[]⟩ (σ:=Nat×Nat×List (List D)) (fun v=>[(5,bD (t _ fun _=>(v.1:Int))),(6,bD (t _ fun _=>(v.2.1:Int)))]) (fun v=>[(0,.row 12 (t _ fun _=>v.2.2))]) J ?_
 cbv
 refine aE ⟨m-(i0+1),(i0,i0+1,es),(hJ _ _).2 ⟨?_,?_,hel,hrows,?_,rfl⟩,by simp only [ht,ah,Int.ofNat_eq_natCast,aB (show i0<9223372036854775807 by omega)];rfl,?_⟩
 ·show i0+1+(m-(i0+1))=m;omega
 ·show i0<i0+1;omega
 ·show es.take i0=_
  rw [cV hx0,List.filter_append,filter_all hb0,aC,←List.map_take];simp [Ze]
 rintro n ⟨i,j,cur⟩ hj
 obtain ⟨j1,j2,j3,j4,j5,j6⟩:=(hJ _ _).1 hj
 clear hj
 simp only at j1 j2 j3 j4 j5 j6
 cbv
 apply ap<;>intro h
 ·have Vy:j<m:=by simp [ht,ah] at h;omega
  clear h
  obtain ⟨x,hx⟩:∃x,l[j]?=some x:=⟨l[j]'(by omega),by simp⟩
  have mQ:x∈l:=List.mem_of_getElem? hx
  have gJ:=hf x mQ
  have HO:cur[j]?=some (Jb.cells x):=by
   have:(cur.drop j)[0]?=(es.drop j)[0]?:=by rw [j6]
   rw [List.getElem?_drop,List.getElem?_drop,Nat.add_zero,aC,List.getElem?_map,hx] at this
   exact this
  obtain ⟨px,hpx⟩:∃b,b=p x:=⟨_,rfl⟩
  rw [←hpx] at gJ
  obtain ⟨cx,E4⟩:∃cx,cx=Jb.cells x:=⟨_,rfl⟩
  rw [←E4] at HO
  have hstep:(l.take (j+1)).filter (fun x=>!p x)=(l.take j).filter (fun x=>!p x)++(if px then [] else [x]):=by
   rw [cV hx,List.filter_append];cases px<;>simp [←hpx]
  obtain ⟨id',⟨p',⟨a',b',c',d'⟩,n',XP,LJ,sW⟩,XQ,XR⟩:=x;obtain ⟨HS,mK⟩:∃lr:List (List D),lr=sW.map Term.cells:=⟨_,rfl⟩;simp only [Jb.cells,←mK] at gJ E4
  cbv
  refine ⟨?_,Qi [.int .u64 id',.str p',.int .u64 a',.int .u64 b',.int .u64 c',.int .u64 d',.int .i64 n',.int .i64 XP,.int .i64 LJ,.sl HS,.bool XQ,.int .i64 XR] ?_ ?_ ?_⟩
  ·simp [ht,ah];omega
  ·simp [ht,ah,j3];omega
  ·simp [ht,ah,List.getD_eq_getElem?_getD,HO,E4]
  cbv
  refine dJ [] trv rfl rfl gJ (cA ?_)
  cbv
  apply ap<;>intro hb
  ·have hb':px=false:=by simpa [ht] using hb
   clear hb
   obtain ⟨nc,hnc⟩:∃nc,nc=cur.set i cx:=⟨_,rfl⟩
   have qg:(cur.getD i []).length=12:=j4 _ (by rw [List.getD_eq_getElem?_getD,List.getElem?_eq_getElem (by omega)];exact List.getElem_mem _)
   cbv
   refine ⟨?_,?_⟩
   ·simp [ht,ah];omega
   refine ⟨?_,?_⟩
   ·simp [ht,ah,j3];exact ⟨by omega,by simpa using qg.symm▸(Nat.le_refl _)⟩
   refine aE ⟨n-1,(i+1,j+1,nc),⟨by omega,(hJ _ _).2 ⟨?_,?_,?_,?_,?_,?_⟩⟩,?_⟩
   ·show j+1+(n-1)=m;omega
   ·show i+1<j+1;omega
   ·show nc.length=m;rw [hnc,List.length_set];exact j3
   ·show ∀r∈nc,r.length=12
    intro r hr;rw [hnc] at hr
    rcases List.mem_or_eq_of_mem_set hr with hr|rfl
    ·exact j4 r hr
    rw [E4];rfl
   ·show nc.take (i+1)=_
    rw [hnc,kN _ _ _ (by omega),j5,hstep,hb',E4];simp [mK,Jb.cells]
   ·show nc.drop (j+1)=es.drop (j+1)
    rw [hnc,nt _ _ _ _ (by omega),←List.drop_drop,j6,List.drop_drop]
   simp only [ht,ah,Int.ofNat_eq_natCast,aB (show i<9223372036854775807 by omega),aB (show j<9223372036854775807 by omega)]
   have ei:0+((i:Int)).toNat=i:=by simp
   have e:cur.set i (be (cur.getD i []) 0 [.int .u64 id',.str p',.int .u64 a',.int .u64 b',.int .u64 c',.int .u64 d',.int .i64 n',.int .i64 XP,.int .i64 LJ,.sl HS,.bool XQ,.int .i64 XR])=nc:=by rw [hnc,kM _ _ (by rw [qg];rfl),E4]
   simp only [ei,e];rfl
  have hb':px=true:=by simpa [ht] using hb
  clear hb
  cbv
  refine aE ⟨n-1,(i,j+1,cur),⟨by omega,(hJ _ _).2 ⟨?_,?_,j3,j4,?_,?_⟩⟩,?_⟩
  ·show j+1+(n-1)=m;omega
  ·show i<j+1;omega
  ·show cur.take i=_
   rw [j5,hstep,hb'];simp
  ·show cur.drop (j+1)=es.drop (j+1)
   rw [←List.drop_drop,j6,List.drop_drop]
  simp only [ht,ah,Int.ofNat_eq_natCast,aB (show j<9223372036854775807 by omega)];rfl
 have Vy:j=m:=by simp [ht,ah] at h;omega
 clear h
 obtain ⟨mi,yB⟩:∃mi,mi=m-i:=⟨_,rfl⟩
 obtain ⟨ci,qg⟩:∃ci,ci=c-i:=⟨_,rfl⟩
 obtain ⟨nc,hnc⟩:∃nc,nc=wrote cur i (List.replicate mi [.int .u64 0,.str [],.int .u64 0,.int .u64 0,.int .u64 0,.int .u64 0,.int .i64 0,.int .i64 0,.int .i64 0,.sl [],.bool false,.int .i64 0]):=⟨_,rfl⟩
 have hnt:nc.take i=r:=by
  have hl':(cur.take i).length=i:=by simp;omega
  rw [hnc,wrote,List.append_assoc,List.take_left' hl',j5,hr,Vy,hm,List.take_length]
 have Zg:i≤nc.length:=by rw [hnc];simp [wrote];omega
 cbv
 refine bF (.vw 0 12 i mi ci true) [.row 12 cur] ?_ ?_ ?_ ?_
 ·simp [ht,ah,dR,bN];omega
 ·simp [ht,ah,aV,aP,yB,qg]
 ·simp only [ht]
 cbv
 refine bF (.ek []) [.row 12 nc] ?_ rfl ?_ ?_
 ·simp [ht,eR]
  refine ⟨by omega,?_⟩
  intro h;rw [h] at j3;simp at j3;omega
 ·simp only [ht,hnc]
 cbv
 refine bF (.vw 0 12 0 i c true) [.row 12 nc] ?_ ?_ rfl ?_
 ·simp [ht,ah,dR,bN];omega
 ·simp [ht,ah,aV,aP]
 cbv
 have hki:kk=i:=by rw [hkk,←hnt];simp;omega
 have WU:rz=nc:=by
  rw [Im,hki,←hnt,hnc,wrote]
  have hl':(cur.take i).length=i:=by simp;omega
  rw [List.append_assoc,List.take_left' hl',List.drop_of_length_le (by simp;omega),List.append_nil,yB]
 rw [WU,hki]
 exact JN trv rfl rfl
theorem Xr (ht:TT t) (a1 a3 a4 a5 a6 a7 a8 a9 a12 b1 b3 b4 b5 b6 b7 b8 b9 ON:Int) (a2 b2:aH) (Xq OO:Bool) (ar br:List (List D)):
 FC 46 [.agg [az a1,ST a2,az a3,az a4,az a5,az a6,bD a7,bD a8,bD a9,SL ar,BL Xq,bD a12],.ep [.int .u64 b1,.str b2,.int .u64 b3,.int .u64 b4,.int .u64 b5,.int .u64 b6,.int .i64 b7,.int .i64 b8,.int .i64 b9,.sl br,.bool OO,.int .i64 ON]] [] (.ret (BL (!(Xq&&decide (a8<b8))))) []:=by
 obtain ⟨H,hH⟩:∃H,H=!(Xq&&decide (a8<b8)):=⟨_,rfl⟩
 rw [←hH]
 refine cr ht Tryz.func46 (N:=16) ?_
 cbv
 iterate 7 refine gI (by simp [ht]) ?_
 refine pI (by simp [ht]) ?_
 refine an ?_
 (simp [*];grind)
def UQ (t:Th) (l:List Int):AV:=SL (t _ fun _=>l.map Int.cells)
theorem ZU {α:Type} {l:List α} {cells:α→List D} {u:List (List D)} (hu:u=l.map cells) (cT:α→List D) (hT:∀x,cells x=cT x) (j:Nat) {c:Prop} {ds:List D} {K:List D→Prop} (hj:j<l.length) (hd:u.getD j []=ds) (hc:j<u.length→c) (hK:∀x,l[j]?=some x→K (cT x)):AX true c ds K:=by
 refine We _ (fun _=>⟨hc (by rw [hu];simpa using hj),?_⟩) (hK l[j] (by simp [hj]))
 rw [←hd,hu,←hT];simp [hj]
def Fz (l:List Jb) (p:Int):List Jb:=l.filter fun o=>o.runs&&decide (o.x.prio<p)
theorem IM (ht:TT t) {l:List Jb} {es:List (List D)} (aC:es=l.map Jb.cells) (hl:l.length<1000000) (b1 b3 b4 b5 b6 b7 b8 b9 ON:Int) (b2:aH) (OO:Bool) (br:List (List D))
 {m c k:Nat} (hm:m=l.length) (hc:m≤c) {r:List (List D)} (hr:r=(Fz l b8).map Jb.cells) (hk:k=r.length) {rz:List (List D)} (Im:rz=r++List.replicate (m-k) [.int .u64 0,.str [],.int .u64 0,.int .u64 0,.int .u64 0,.int .u64 0,.int .i64 0,.int .i64 0,.int .i64 0,.sl [],.bool false,.int .i64 0]):
 FC 44 [.vw 0 12 0 m c true,.fn 46 [.ep [.int .u64 b1,.str b2,.int .u64 b3,.int .u64 b4,.int .u64 b5,.int .u64 b6,.int .i64 b7,.int .i64 b8,.int .i64 b9,.sl br,.bool OO,.int .i64 ON]]] [.row 12 es] (.ret (.vw 0 12 0 k c true)) [.row 12 rz]:=
 OQ ht _ aC hm hc 46 (fun o=>!(o.runs&&decide (o.x.prio<b8))) (by omega) (fun o _=>Xr ht _ _ _ _ _ _ _ _ _ _ _ _ _ _ _ _ _ _ _ _ _ _ _ _) (by rw [hr,Fz];simp) hk Im
theorem Xs (ht:TT t) {l:List Jb} {es:List (List D)} (aC:es=l.map Jb.cells) (hl:l.length<1000000) (b1 b3 b4 b5 b6 b7 b8 b9 ON:Int) (b2:aH) (OO:Bool) (br:List (List D)) (h0:Fz l b8=[]) {m:Nat} (hm:m=l.length):
 FC 44 [.ow 1 12 m,.fn 46 [.ptr 0 0]] [.var [az b1,ST b2,az b3,az b4,az b5,az b6,bD b7,bD b8,bD b9,SL br,BL OO,bD ON],.row 12 es] (.ret (SL [])) [.dead,.dead]:=
 pN rfl rfl rfl<|cR [1] rfl rfl rfl rfl<|dX fun c hc _=>BU rfl (by simp) (by simp) rfl (IM ht aC hl b1 b3 b4 b5 b6 b7 b8 b9 ON b2 OO br hm hc (r:=[]) (by rw [h0];rfl) (k:=0) rfl rfl)
theorem UR {r z:List (List D)} {k:Nat} (hk:k=r.length):r=(r++z).take k:=by rw [hk,List.take_left]
theorem Xt (ht:TT t) {l:List Jb} {es:List (List D)} (aC:es=l.map Jb.cells) (hl:l.length<1000000) (b1 b3 b4 b5 b6 b7 b8 b9 ON:Int) (b2:aH) (OO:Bool) (br:List (List D)) {m k:Nat} (hm:m=l.length) {r:List (List D)} (hr:r=(Fz l b8).map Jb.cells) (hk:k=r.length) (h0:0<k):
 FC 44 [.ow 1 12 m,.fn 46 [.ptr 0 0]] [.var [az b1,ST b2,az b3,az b4,az b5,az b6,bD b7,bD b8,bD b9,SL br,BL OO,bD ON],.row 12 es] (.ret (.ow 1 12 k)) [.dead,.row 12 r]:=by
 obtain ⟨rz,Im⟩:∃rz,rz=r++List.replicate (m-k) [D.int .u64 0,.str [],.int .u64 0,.int .u64 0,.int .u64 0,.int .u64 0,.int .i64 0,.int .i64 0,.int .i64 0,.sl [],.bool false,.int .i64 0]:=⟨_,rfl⟩
 exact pN rfl rfl rfl<|cR [1] rfl rfl rfl rfl<|dX fun c hc _=>BT h0 rfl (by rw [Im,hk];simp) (by rw [Im];exact UR hk) rfl (IM ht aC hl b1 b3 b4 b5 b6 b7 b8 b9 ON b2 OO br hm hc hr hk Im)
theorem R9 (ht:TT t) (rd nx ef af:Int) {nl:List Node} {pl:List Place} {tl:List aR} {jl:List Jb} {ql:List bK} {el al:List dc} {ns ps ts js qs es bH:List (List D)} (eE:ns=nl.map Node.cells) (hps:ps=pl.map Place.cells) (hts:ts=tl.map aR.cells) (dM:js=jl.map Jb.cells) (dF:qs=ql.map bK.cells) (aC:es=el.map dc.cells) (has:bH=al.map dc.cells) (id:Int) (hjl:jl.length<1000000) (hlo:Fz jl (bC jl id).1.x.prio=[]):FC 18 [.agg [az rd,az nx,SL ns,SL ps,SL ts,SL js,SL qs,az ef,SL es,az af,SL bH],az id] [] (.ret (UQ t (t _ fun _=>cm ⟨rd,nx,⟨nl,pl⟩,tl,jl,ql,⟨ef,el⟩,⟨af,al⟩⟩ id))) []:=by
 have he:cm ⟨rd,nx,⟨nl,pl⟩,tl,jl,ql,⟨ef,el⟩,⟨af,al⟩⟩ id=[]:=by
  unfold cm
  split
  ·rfl
  show (List.mergeSort (Fz jl (bC jl id).1.x.prio) fw).map _=[]
  rw [hlo];simp
 rw [he]
 obtain ⟨m,hm⟩:∃m,m=jl.length:=⟨_,rfl⟩
 have hel:m=js.length:=by rw [dM,lgM,hm]
 have hrows:∀r∈js,r.length=12:=by rw [dM];intro r hr;obtain ⟨y,_,rfl⟩:=List.mem_map.1 hr;rfl
 refine cr ht Tryz.func18 (N:=39) ?_
 cbv
 obtain ⟨cZ,de,dg,cu,bZ,aF,cw⟩:=fc eE hps hts dM dF aC has
 (refine aD (mM ht _ rd nx ef af ns ps ts qs es bH dM (by omega)) (by simp) (fun r1 cM=>?_);simp only [ht] at cM;rw [←cM] at hlo)
 cbv
 apply ap<;>intro h0
 ·simp [ht] at h0
  cbv
  refine an ?_
  (simp [ht];done)
 simp [ht] at h0
 cbv
 (refine jY trv (uA ht hrows (by omega) hel) trv rfl (.inr rfl) ?_)
 cbv
 (refine dJ [1,2] trv rfl rfl (Xs ht dM (by omega) _ _ _ _ _ _ _ _ _ _ _ _ hlo hm) (cA ?_))
 cbv
 (refine gF trv (R8 ht) trv rfl rfl ?_)
 cbv
 obtain ⟨J1,mR⟩:∃J1:Nat→List (List D)×Int→Prop,∀n u i,J1 n (u,i)↔(i=0∧u=[]):=⟨fun n v=>match v with|(u,i)=>(i=0∧u=[]),fun _ _ _=>Iff.rfl⟩
 refine bA ⟨[8,26,27,28],[(8,1)],[]⟩ (σ:=List (List D)×Int) (fun v=>[(8,.ow 0 1 (t _ fun _=>(v.1).length)),(28,.d (.int .i64 (t _ fun _=>v.2)))]) (fun v=>[(0,.row 1 (t _ fun _=>v.1))]) J1 ?_
 cbv
 refine aE ⟨1,([],_),(mR _ _ _).2 ?_,by simp only [ht];rfl,?_⟩
 ·exact ⟨rfl,rfl⟩
 rintro n ⟨u,i⟩ hj
 replace hj:=(mR _ _ _).1 hj
 obtain ⟨ji,ju⟩:=hj
 cbv
 apply ap<;>intro h2
 ·simp [ht] at h2
  omega
 simp [ht] at h2
 cbv
 refine lQ trv (by simp [ht]) rfl rfl rfl ?_
 (simp only [ht,ju];rfl)
theorem Sa (ht:TT t) (rd nx ef af:Int) {nl:List Node} {pl:List Place} {tl:List aR} {jl:List Jb} {ql:List bK} {el al:List dc} {ns ps ts js qs es bH:List (List D)} (eE:ns=nl.map Node.cells) (hps:ps=pl.map Place.cells) (hts:ts=tl.map aR.cells) (dM:js=jl.map Jb.cells) (dF:qs=ql.map bK.cells) (aC:es=el.map dc.cells) (has:bH=al.map dc.cells) (id:Int) (hjl:jl.length<1000000) {L:List Jb} (hL:L=Fz jl (bC jl id).1.x.prio) (hl0:0<L.length) (h12:L.length≤12) (hid:tc jl):FC 18 [.agg [az rd,az nx,SL ns,SL ps,SL ts,SL js,SL qs,az ef,SL es,az af,SL bH],az id] [] (.ret (UQ t (t _ fun _=>cm ⟨rd,nx,⟨nl,pl⟩,tl,jl,ql,⟨ef,el⟩,⟨af,al⟩⟩ id))) []:=by
 obtain ⟨E,hE⟩:∃E,E=cm ⟨rd,nx,⟨nl,pl⟩,tl,jl,ql,⟨ef,el⟩,⟨af,al⟩⟩ id:=⟨_,rfl⟩
 rw [←hE]
 obtain ⟨S,hS⟩:∃S,S=(Sort.insertionSort xT L.toArray 0 L.length).toList:=⟨_,rfl⟩
 have hSe:(bC jl id).2=true→E=S.map (·.id):=by
  intro g
  rw [hE,hS,Ld (by rw [hL];exact hid.filter _),hL];unfold cm;rw [g];rfl
 have hE0:(bC jl id).2=false→E=[]:=by
  intro g
  rw [hE];unfold cm;rw [g];rfl
 have hSl:S.length=L.length:=by rw [hS];exact (D6 L).length_eq
 obtain ⟨k,hk⟩:∃k,k=L.length:=⟨_,rfl⟩
 obtain ⟨m,hm⟩:∃m,m=jl.length:=⟨_,rfl⟩
 obtain ⟨r,hr⟩:∃r,r=L.map Jb.cells:=⟨_,rfl⟩
 have hkr:k=r.length:=by rw [hr,lgM,hk]
 have hel:m=js.length:=by rw [dM,lgM,hm]
 have hrows:∀r∈js,r.length=12:=by rw [dM];intro r hr;obtain ⟨y,_,rfl⟩:=List.mem_map.1 hr;rfl
 rw [←hk] at hl0 h12
 have ZV:FC 47 [.ow 0 12 k,.fn 48 []] [.row 12 r] (.ret (.ek [])) [.row 12 (t _ fun _=>S.map Jb.cells)]:=by
  have:=R7 ht k L.toArray (es:=r) (by rw [hr]) (by rw [hk];simp) h12
  rw [hS,←hk];exact this
 have hkS:k=S.length:=hk.trans hSl.symm
 refine cr ht Tryz.func18 (N:=39) ?_
 cbv
 obtain ⟨cZ,de,dg,cu,bZ,aF,cw⟩:=fc eE hps hts dM dF aC has
 have Zs:r.length=L.length:=by rw [hr,lgM]
 (refine aD (mM ht _ rd nx ef af ns ps ts qs es bH dM (by omega)) (by simp) (fun r1 cM=>?_);simp only [ht] at cM;rw [←cM] at hL hSe hE0)
 cbv
 apply ap<;>intro h0
 ·simp [ht] at h0
  cbv
  refine an ?_
  (simp only [ht,hE0 (by simp_all)];rfl)
 simp [ht] at h0
 cbv
 (refine jY trv (uA ht hrows (by omega) hel) trv rfl (.inr rfl) ?_)
 cbv
 (refine dJ [1,2] trv rfl rfl (Xt ht dM (by omega) _ _ _ _ _ _ _ _ _ _ _ _ hm (r:=r) (by rw [hr,hL]) hkr hl0) (cA ?_))
 cbv
 (refine dJ [2] trv rfl rfl ZV (cA ?_))
 cbv
 refine ⟨?_,?_⟩
 ·(simp [ht];omega)
 cbv
 obtain ⟨J1,mR⟩:∃J1:Nat→List (List D)×Int→Prop,∀n u i,J1 n (u,i)↔(∃q:Nat,i=q∧q+n=k∧u=((S.take q).map (·.id)).map Int.cells):=⟨fun n v=>match v with|(u,i)=>(∃q:Nat,i=q∧q+n=k∧u=((S.take q).map (·.id)).map Int.cells),fun _ _ _=>Iff.rfl⟩
 refine bA ⟨[8,26,27,28],[(8,1)],[]⟩ (σ:=List (List D)×Int) (fun v=>[(8,.ow 0 1 (t _ fun _=>(v.1).length)),(28,.d (.int .i64 (t _ fun _=>v.2)))]) (fun v=>[(0,.row 1 (t _ fun _=>v.1))]) J1 ?_
 cbv
 refine aE ⟨k,([],_),(mR _ _ _).2 ?_,by simp only [ht];rfl,?_⟩
 ·exact ⟨0,rfl,by simp,rfl⟩
 rintro n ⟨u,i⟩ hj
 replace hj:=(mR _ _ _).1 hj
 obtain ⟨q,rfl,j1,j4⟩:=hj
 cbv
 apply ap<;>intro h2
 ·simp [ht,ah] at h2
  cbv
  refine ⟨?_,?_⟩
  ·(simp only [ht,ah] at*;omega)
  cbv
  (refine ZU (l:=S) (cells:=Jb.cells) rfl (Jb.aS t) (fun _=>by simp only [Jb.cells,Jb.aS,ht]) q (by omega) (by simp only [ht,ah,Int.toNat_natCast]) (fun h=>by simp only [ht,ah,Int.toNat_natCast];exact h) (fun x mx=>?_))
  cbv
  refine ⟨?_,?_⟩
  ·(have h9:=Y8 (l:=(S.take q).map (·.id)) (cells:=Int.cells) (u:=u) (row:=[D.int .u64 x.id]) (sz:=1) (b:=8) j4 (fun _=>rfl) rfl (by simp;omega) (by decide);simp only [ht];exact ⟨trv,h9.2⟩)
  cbv
  refine bG (_,_) (by simp only [ht,←List.length_append];rfl) (n-1) ?_ ((mR _ _ _).2 ?_)
  ·omega
  simp only [ah]
  exact ⟨q+1,aB (by omega),by omega,by rw [j4,cV mx];simp [Int.cells]⟩
 simp [ht,ah] at h2
 cbv
 refine lQ trv (by simp [ht]) rfl rfl rfl ?_
 (rw [List.take_of_length_le (by omega)] at j4;simp only [ht,hSe ‹_›,j4];done)
theorem Xu (ht:TT t) (rd nx ef af:Int) {nl:List Node} {pl:List Place} {tl:List aR} {jl:List Jb} {ql:List bK} {el al:List dc} {ns ps ts js qs es bH:List (List D)} (eE:ns=nl.map Node.cells) (hps:ps=pl.map Place.cells) (hts:ts=tl.map aR.cells) (dM:js=jl.map Jb.cells) (dF:qs=ql.map bK.cells) (aC:es=el.map dc.cells) (has:bH=al.map dc.cells) (id:Int) {ids:List Int} {ir:List (List D)} (ZG:ir=ids.map Int.cells) (hil:ids.length<1000000) (hg:∀k,(aT ⟨rd,nx,⟨nl,pl⟩,tl,jl,ql,⟨ef,el⟩,⟨af,al⟩⟩ (ids.take k)).sm):
 FC 52 [SL ir,.ptr 0 0,.ptr 1 0] [.var [az rd,az nx,SL ns,SL ps,SL ts,SL js,SL qs,az ef,SL es,az af,SL bH],.var [az id]] (.ret (Iq t (t _ fun _=>gK ⟨rd,nx,⟨nl,pl⟩,tl,jl,ql,⟨ef,el⟩,⟨af,al⟩⟩ id ids))) [.var [az rd,az nx,SL ns,SL ps,SL ts,SL js,SL qs,az ef,SL es,az af,SL bH],.var [az id]]:=by
 have nI:(aT ⟨rd,nx,⟨nl,pl⟩,tl,jl,ql,⟨ef,el⟩,⟨af,al⟩⟩ ids).sm:=by have:=hg ids.length;rwa [List.take_length] at this
 obtain ⟨w,hw⟩:∃w,w=aT ⟨rd,nx,⟨nl,pl⟩,tl,jl,ql,⟨ef,el⟩,⟨af,al⟩⟩ ids:=⟨_,rfl⟩
 have he:gK ⟨rd,nx,⟨nl,pl⟩,tl,jl,ql,⟨ef,el⟩,⟨af,al⟩⟩ id ids=oA w id:=by rw [hw];rfl
 rw [he]
 have hW:=KZ ht rd nx ef af eE hps hts dM dF aC has ZG hil hg
 rw [←hw] at hW nI
 refine jG ht (bz:=[.var [az rd,az nx,SL ns,SL ps,SL ts,SL js,SL qs,az ef,SL es,az af,SL bH],.var [az id]]) Tryz.func52 rfl rfl (N:=13) rfl rfl (n:=2) rfl rfl ?_
 cbv
 obtain ⟨cZ,de,dg,cu,bZ,aF,cw⟩:=fc eE hps hts dM dF aC has
 have K0:ir.length=ids.length:=by rw [ZG,lgM]
 refine bS [false,false,false,false,true,false,false,true,true] ?_
 cbv
 iterate 2 refine gI (by simp) ?_
 refine .inl ?_
 (refine nD (fun g=>⟨by simp,trv,hW⟩) rfl rfl rfl ?_)
 cbv
 refine gI (by simp) ?_
 refine aD (Uv ht _ _ _ _ (ko ht rfl) (ko ht rfl) (ko ht rfl) (ko ht rfl) (ko ht rfl) (ko ht rfl) (ko ht rfl) (by (simp only [ht];((try simp only [ah] at*);omega))) _) trv (fun r0 cN=>?_)
 simp only [ht] at cN
 cbv
 iterate 2 refine gI (by simp) ?_
 refine an ?_
 (simp [*];done)
end Dem
end
