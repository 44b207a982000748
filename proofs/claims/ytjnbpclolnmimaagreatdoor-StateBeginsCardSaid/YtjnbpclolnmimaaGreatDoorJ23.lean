/- Parts of a proof, joined. -/
import Derived.Test.YtjnbpclolnmimaaGreatDoorJ22
import Derived.Maps.RangeWalk
set_option linter.unusedSimpArgs false
set_option linter.unusedVariables false
set_option maxRecDepth 100000
set_option maxHeartbeats 4000000
section
open Go Dem Go.Proofs Go.Maps
namespace Dem
def Cr (v:Value):Option (DataW Unit×List MemPlace):=match v with
 |.int q n=>some (.lit (.int q n),[])
 |_=>none
abbrev yu:Int→Value:=Value.int .u64
theorem wP {x y:Int} (h:yu x=yu y):x=y:=by injection h
theorem OR {x:Int} (h0:0≤x) (h1:x<18446744073709551616):keyOf Tryz.prog 23 (yu x)=some (.int .u64 x):=
 keyOf_int_mk Tryz.underlying23 (by simp [Lit.wf,IntKind.min,IntKind.max,IntKind.signed,IntKind.bits];omega)
theorem Jh {w:World} {ok:Nat→Prop}:∀(l:List gz) (ms:List MapEntry),bp w ok false (l.map gz.cells) ms→ms.map (fun e=>(e.key,e.val))=l.map (fun m=>(yu m.bu,Value.int .i64 m.cnt))
 |[],ms,h=>by simp only [List.map_nil,bp] at h;subst h;rfl
 |m::l,ms,h=>by
  simp only [List.map_cons,bp] at h
  obtain ⟨e,r,rfl,h1,h2⟩:=h
  simp only [gz.cells,gR,aK,cq] at h1
  obtain ⟨h1,cs,h3,_,v,r',h5,h6,h7⟩:=h1
  subst h7 h6
  rw [List.map_cons,List.map_cons,Jh l r h2]
  subst h5
  rw [h1,h3];rfl
structure Sb (l:List gz):Prop where
 nodup:(l.map gz.bu).Nodup
 bu:∀m∈l,0≤m.bu∧m.bu<18446744073709551616
 len:l.length≤1000000
theorem Sc {w:World} {ok:Nat→Prop} {l:List gz} {ms:Array MapEntry} {clock b:Nat} (hh:w.heap[b]?=some (.map ms clock)) (hs:mC ms clock) (hr:bp w ok false (l.map gz.cells) ms.toList) (hl:Sb l):
 ∃D0:DataW Unit,w.ownsMap Tryz.prog 23 Cr b ms.size D0∧(∀x,has D0 (.int .u64 x)=true↔∃m∈l,m.bu=x)∧∀m∈l,∀z,D0.atKey (.int .u64 m.bu) z=.lit (.int .i64 m.cnt):=by
 have hk:=Jh l ms.toList hr
 have hsz:ms.size=l.length:=by have:=congrArg List.length hk;simpa using this
 have hread:∀x∈ms.toList,∃m∈l,x.key=yu m.bu∧x.val=.int .i64 m.cnt∧WideElems.rd Tryz.prog 23 Cr x=some (.int .u64 m.bu,.lit (.int .i64 m.cnt)):=by
  intro x hx
  have:(x.key,x.val)∈ms.toList.map (fun e=>(e.key,e.val)):=List.mem_map.2 ⟨x,hx,rfl⟩
  rw [hk] at this
  obtain ⟨m,hm,e⟩:=List.mem_map.1 this
  simp only [Prod.mk.injEq] at e
  refine ⟨m,hm,e.1.symm,e.2.symm,?_⟩
  unfold WideElems.rd
  rw [←e.1,←e.2,OR (hl.bu m hm).1 (hl.bu m hm).2]
  rfl
 have hmem:∀m∈l,∃x∈ms.toList,x.key=yu m.bu∧x.val=.int .i64 m.cnt:=by
  intro m hm
  have:(yu m.bu,Value.int .i64 m.cnt)∈l.map (fun m=>(yu m.bu,Value.int .i64 m.cnt)):=List.mem_map.2 ⟨m,hm,rfl⟩
  rw [←hk] at this
  obtain ⟨x,hx,e⟩:=List.mem_map.1 this
  simp only [Prod.mk.injEq] at e
  exact ⟨x,hx,e.1,e.2⟩
 have F:WideElems.Fit Tryz.prog 23 Cr ms clock:=by
  refine ⟨?_,⟨?_,hs.2,?_⟩,?_⟩
  ·rw [hsz];exact Nat.le_trans hl.len (by decide)
  ·intro x hx
   have:=hs.1
   rw [Array.all_eq_true_iff_forall_mem] at this
   simpa using this x (by simpa using hx)
  ·have e1:ms.toList.map (·.key)=(l.map gz.bu).map yu:=by
    have:ms.toList.map (·.key)=(ms.toList.map (fun e=>(e.key,e.val))).map Prod.fst:=by rw [List.map_map];rfl
    rw [this,hk];simp
   rw [e1]
   exact List.pairwise_map.2 (hl.nodup.imp (fun h e=>h (wP e)))
  intro x hx
  obtain ⟨m,_,_,_,h⟩:=hread x hx
  exact ⟨_,h⟩
 refine ⟨_,⟨ms,clock,hh,F,Nat.le_refl _,rfl⟩,?_,?_⟩
 ·intro x
  rw [has_eq,List.any_eq_true]
  have hp:=WideShapes.sorted_perm (ms.toList.map (WideElems.rg Tryz.prog 23 Cr))
  constructor
  ·rintro ⟨p,Nu,Mg⟩
   obtain ⟨e,he,rfl⟩:=List.mem_map.1 (hp.mem_iff.1 Nu)
   obtain ⟨m,hm,_,_,h⟩:=hread e he
   rw [WideElems.rg_of h] at Mg
   exact ⟨m,hm,by simpa [Lit.sameKey] using Mg⟩
  rintro ⟨m,hm,rfl⟩
  obtain ⟨e,he,h1,h2⟩:=hmem m hm
  obtain ⟨m',hm',h3,h4,h⟩:=hread e he
  have:m'.bu=m.bu:=wP (h3.symm.trans h1)
  refine ⟨_,hp.mem_iff.2 (List.mem_map.2 ⟨e,he,rfl⟩),?_⟩
  rw [WideElems.rg_of h,this];simp [Lit.sameKey]
 intro m hm z
 obtain ⟨e,he,h1,h2⟩:=hmem m hm
 obtain ⟨m',hm',h3,h4,h⟩:=hread e he
 have e1:m'.bu=m.bu:=wP (h3.symm.trans h1)
 have e2:m'.cnt=m.cnt:=by rw [h4] at h2;injection h2
 have hris:=fit_rising (int_keyed Tryz.underlying23) F
 have:=(WideShapes.atKey_sorted (ms.toList.map (WideElems.rg Tryz.prog 23 Cr)) hris (.int .u64 m.bu) trivial).2 (WideElems.rg Tryz.prog 23 Cr e) (List.mem_map.2 ⟨e,he,rfl⟩) (by rw [WideElems.rg_of h,e1]) z
 rw [this,WideElems.rg_of h,e2]
theorem yw {β:Nat→Nat} {bx:List ax} {w w':World} {row:Option Nat} (hg:w.grownBy w' row) (hr:∀j,row=some j→w.heap.size≤j):Ext β bx w β bx w':=
 have hb:∀k,k<w.heap.size→w'.heap[k]?=w.heap[k]?:=fun k hk=>hg.block k hk (fun e=>by have:=hr k e.symm;omega)
 ⟨hg.os,hg.tape,hg.output,hg.size,fun k hk _=>hb k hk,fun k c e f hk=>⟨c,by rw [hb k (eK hk)];exact hk,rfl⟩,fun i hi=>⟨rfl,hi⟩,fun i b h1 h2=>.inr ⟨i,b,h1,h2,rfl⟩⟩
theorem kC {P:Program} {ops:Array Oper} {Q:Exit→Act→World→Prop} {rest:List Oper} {o:Oper} {a:Act} {w:World} {v:Value} (hg:o.guard=none) (hv:execOp a.eval o=pure (.value v)) (h:wpList P ops Q rest (a.put o.dst v) w):wpList P ops Q (o::rest) a w:=
 wpList_plain hg fun K hK=>by unfold Oper.wp;rw [hv];exact hK _ _ h
theorem Cs {P:Program} {ops:Array Oper} {Q:Exit→Act→World→Prop} {rest:List Oper} {o:Oper} {a:Act} {w:World} {v:Value} (hg:o.guard=none) (hv:(execOp a.eval o).run P w=.ok (.value v) w) (h:wpList P ops Q rest (a.put o.dst v) w):wpList P ops Q (o::rest) a w:=
 wpList_plain hg fun K hK=>by unfold Oper.wp;rw [hv];exact hK _ _ h
theorem UZ {P:Program} {w:World} {t:TypeId} {k:IntKind} {x y:Int} {ρ:Operand→Value} {o:Oper} {a b:Operand} {t':TypeId} (ho:o.op=.binOp .neq t a b t') (ha:ρ a=.int k x) (hb:ρ b=.int k y):(execOp ρ o).run P w=.ok (.value (.bool (!decide (x=y)))) w:=by
 obtain ⟨u,h1,h2⟩:=Gw (P:=P) (w:=w) (fun _=>True) (op:=.neq) (k:=k) (x:=x) (y:=y) (c:=True) (d:=.bool (!decide (x=y))) rfl trivial t
 simp only [aK] at h2
 subst h2
 unfold execOp
 simp only [ho,ha,hb]
 simp [h1,eqGuard,Result.andThen]
theorem sj {ρ:Operand→Value} {o:Oper} {x:Operand} {i:Nat} {vs:Array Value} {v:Value} (ho:o.op=.extract x i) (hx:ρ x=.tuple vs) (hv:vs[i]?=some v):execOp ρ o=pure (.value v):=by
 unfold execOp
 simp only [ho,Instr.extract,hx,hv]
 rfl
theorem eJ {a:Act} {N d:Nat} {v:Value} (hs:a.tmps.size=N) (hd:d<N) (u:Nat):(a.put (some d) v).eval (.tmp u)=if u=d then v else a.eval (.tmp u):=Mr a d v (by rw [hs];exact hd) u
structure XM (N q d2:Nat) (v0 vr:Value) (a:Act):Prop where
 defers:a.defers=[]
 size:a.tmps.size=N
 q:a.eval (.tmp q)=v0
 r:a.eval (.tmp d2)=vr
theorem XM.put {N q d2:Nat} {v0 vr:Value} {a:Act} (h:XM N q d2 v0 vr a) {d:Nat} (h1:d≠q) (h2:d≠d2) (hN:d<N) (v:Value):XM N q d2 v0 vr (a.put (some d) v):=
 ⟨h.defers,by rw [←h.size];simp [Act.put],by rw [eJ h.size hN,if_neg (fun e=>h1 e.symm)];exact h.q,by rw [eJ h.size hN,if_neg (fun e=>h2 e.symm)];exact h.r⟩
theorem XM.fr {G:Nat→Option (List D)} {N q d2:Nat} {v0 vr:Value} {a:Act} (h:XM N q d2 v0 vr a) {β:Nat→Nat} {X:Nat→Prop} {bx:List ax} {w w':World} {row:Option Nat} {kv:AV} (hg:w.grownBy w' row) (hr:∀j,row=some j→w.heap.size≤j) (cx:ct G β bx w X) (hk:ah β bx w (be β bx w X) kv v0):
 Fr G N [] β w' X ⟨[(q,kv)],bx⟩ a:=by
 refine ⟨cx.step (yw hg hr) (fun i b hb=>.inl ⟨hb,fun hl=>hg.block _ ((cx.box i b hb).eL hl) (fun e=>by have:=hr _ e.symm;have:=(cx.box i b hb).eL hl;omega)⟩) cx.inj,h.defers,h.size,fun t=>?_⟩
 by_cases e:t=q
 ·subst e
  have:fY t [(t,kv)]=kv:=by simp only [fY];rw [show Nat.beq t t=true by simp];rfl
  rw [this]
  have hv:a.tmps.getD t undef=v0:=h.q
  rw [hv];exact ah.mono ((yw hg hr).dQ X) _ _ hk
 have:fY t [(q,kv)]=.any:=by simp only [fY];rw [Wr e];rfl
 rw [this];simp [ah]
structure LC (bx:List ax) (m:AV) (good bad:Prop):Prop where
 ok:∃(b:Nat) (l:List gz) (es:List (List D)),m=.Ai b∧bx[b]?=some (.mp false es)∧es=l.map gz.cells∧Sb l∧((l.all fun x=>decide (x.cnt=0))=true→good)∧((l.all fun x=>decide (x.cnt=0))=false→bad)
section
variable {N:Nat} {X:Nat→Prop} {β0:Nat→Nat} {aE:List ax} {w0:World}
theorem U0 {Q:Ex→St→Prop} {i0 i1 i2 i3 B B2 m d1 d2 d3 d4 d5 d6 d7 d8 d9 q ty tz:Nat} {t':TypeId} {kv:AV} {o1 o2 o3 o4 o5 o6 o7 o8 o9:Oper} {Yo:Code} {post:List Code}
 (hd:d1≠q∧d2≠q∧d3≠q∧d4≠q∧d5≠q∧d6≠q∧d7≠q∧d8≠q∧d9≠q) (hN:d1<N∧d2<N∧d3<N∧d4<N∧d5<N∧d6<N∧d7<N∧d8<N∧d9<N) (hr:d3≠d2∧d4≠d2∧d5≠d2∧d6≠d2∧d7≠d2∧d8≠d2∧d9≠d2)
 (h1:o1.op=.move (.tmp m)∧o1.dst=some d1∧o1.guard=none) (h2:o2.op=.range ty (.tmp d1)∧o2.dst=some d2∧o2.guard=none) (h3:o3.op=.next (.tmp d2) false∧o3.dst=some d3∧o3.guard=none) (h4:o4.op=.extract (.tmp d3) 0∧o4.dst=some d4∧o4.guard=none)
 (h5:o5.op=.entry (.tmp d2)∧o5.dst=some d5∧o5.guard=none) (h6:o6.op=.extract (.tmp d5) 1∧o6.dst=some d6∧o6.guard=none) (h7:o7.op=.assign (.tmp d6)∧o7.dst=some d7∧o7.guard=none) (h8:o8.op=.move (.tmp d7)∧o8.dst=some d8∧o8.guard=none)
 (h9:o9.op=.binOp .neq tz (.tmp d8) (.const (.int .i64 0)) t'∧o9.dst=some d9∧o9.guard=none) (Wt:Tryz.prog.underlying ty=some (.map 23 3))
 {β:Nat→Nat} {w:World} {s:St} {a:Act} (ex:Ext β0 aE w0 β s.bx w) (hF:Fr gl N [] β w X s a) (hq:fY q s.sl=kv)
 (h:LC s.bx (fY m s.sl) (∀(w':World) (a':Act),Ext β0 aE w0 β s.bx w'→Fr gl N [] β w' X ⟨[(q,kv)],s.bx⟩ a'→qE Tryz.prog post (ee gl N [] X β0 aE w0 Q) a' w')
  (∀(w':World) (a':Act),Ext β0 aE w0 β s.bx w'→Fr gl N [] β w' X ⟨[(q,kv)],s.bx⟩ a'→Yo.wp Tryz.prog (fun e a w=>e=.ret∧ee gl N [] X β0 aE w0 Q .ret a w) a' w')):
 qE Tryz.prog (.region i0 ⟨[o1,o2]⟩ false::.block B (.loop (.seq (.region i1 ⟨[o3,o4]⟩ false) (.seq (.cond (.tmp d4) .skip (.exit B)) (.block B2 (.seq (.region i2 ⟨[o5,o6,o7]⟩ false) (.seq (.region i3 ⟨[o8,o9]⟩ false) (.cond (.tmp d9) Yo .skip)))))))::post) (ee gl N [] X β0 aE w0 Q) a w:=by
 obtain ⟨b,l,es,hm,hb,rfl,hl,ZX,ach⟩:=h
 obtain ⟨q1,q2,q3,q4,q5,q6,q7,q8,q9⟩:=hd
 obtain ⟨n1,n2,n3,n4,n5,n6,n7,n8,n9⟩:=hN
 obtain ⟨r3,r4,r5,r6,r7,r8,r9⟩:=hr
 have hma:a.eval (.tmp m)=.map (some (β b)):=by
  have:=hF.xz m
  rw [hm] at this
  simp only [ah] at this
  exact this.1
 obtain ⟨ms,clock,g1,g2,g3⟩:=hF.cx.box b _ hb
 obtain ⟨D0,ho,ZY,TM⟩:=Sc g1 g2 g3 hl
 refine wp_region_list ?_
 refine kC h1.2.2 (v:=.map (some (β b))) (by unfold execOp;simp only [h1.1,hma]) ?_
 rw [h1.2.1]
 refine wpList_range_own _ h2.2.2 (.tmp d1) ty h2.1 23 3 (int_keyed Tryz.underlying23) Wt Cr (β b) ms.size D0 (by rw [eJ hF.size n1];simp) ho ?_
 intro w1 ZZ Sd YN
 rw [h2.2.1]
 refine wpList_nil ?_
 obtain ⟨r,hrr⟩:∃r,r=w.heap.size:=⟨_,rfl⟩
 rw [←hrr] at ZZ ⊢
 have Se:(a.put (some d1) (Value.map (some (β b)))).tmps.size=N:=by rw [←hF.size];simp [Act.put]
 have hA:XM N q d2 (a.eval (.tmp q)) (.pointer (some ⟨r,0,none⟩)) ((a.put (some d1) (Value.map (some (β b)))).put (some d2) (.pointer (some ⟨r,0,none⟩))):=
  ⟨hF.defers,by rw [←Se];simp [Act.put],by rw [eJ Se n2,if_neg (fun e=>q2 e.symm),eJ hF.size n1,if_neg (fun e=>q1 e.symm)],by rw [eJ Se n2];simp⟩
 have hkv:ah β s.bx w (be β s.bx w X) kv (a.eval (.tmp q)):=by rw [←hq];exact hF.xz q
 generalize (a.put (some d1) (Value.map (some (β b)))).put (some d2) (.pointer (some ⟨r,0,none⟩))=a1 at hA ⊢
 show (Code.block B _).wp Tryz.prog _ a1 w1
 refine wp_block ?_
 have hro:∀j,some r=some j→w.heap.size≤j:=fun j e=>by cases e;omega
 refine wp_loop_ghost (fun n a' w'=>XM N q d2 (a.eval (.tmp q)) (.pointer (some ⟨r,0,none⟩)) a'∧w.grownBy w' (some r)∧∃left,w'.ranges Tryz.prog 23 Cr (β b) r ms.size D0 left n∧(∀x,left (.int .u64 x)=true→∃m∈l,m.bu=x)∧∀m∈l,left (.int .u64 m.bu)=false→m.cnt=0)
  (Maps.size D0) ⟨hA,⟨Sd.os,Sd.tape,Sd.output,Sd.size,fun k hk _=>Sd.block k hk (by simp)⟩,has D0,ZZ,fun x h=>(ZY x).1 h,fun m hm h=>by rw [(ZY m.bu).2 ⟨m,hm,rfl⟩] at h;cases h⟩ ?_
 rintro n a2 w2 ⟨Z0,XN,left,aci,hl1,oe⟩
 refine wp_seq (wp_region_list ?_)
 have exw:∀{w3:World},w.grownBy w3 (some r)→Ext β0 aE w0 β s.bx w3:=fun {w3} g=>ex.trans (yw g hro)
 refine wpList_next_ranges w2 h3.2.2 (.tmp d2) h3.1 23 (int_keyed Tryz.underlying23) Cr yu (fun x:IntKind×Int=>.int x.1 x.2) (fun key kl hk=>by obtain ⟨x,hx,_⟩:=Maps.keyOf_int_inv Tryz.underlying23 hk;exact ⟨x,hx⟩)
  (fun v y hv=>by cases v<;>simp [Cr] at hv;exact ⟨(_,_),rfl⟩) (β b) r ms.size D0 left n Z0.r aci ?_ ?_
 ·intro hc0 hl0
  rw [h3.2.1]
  have Z1:=Z0.put q3 r3 n3 (.tuple #[.bool false])
  refine kC h4.2.2 (v:=.bool false) (sj h4.1 (by rw [eJ Z0.size n3];simp;rfl) (by rfl)) ?_
  rw [h4.2.1]
  refine wpList_nil ?_
  have Z2:=Z1.put q4 r4 n4 (.bool false)
  simp only [Exit.then]
  refine wp_seq (wp_cond_split (t:=false) (by rw [eJ Z1.size n4];simp) (fun h=>by cases h) (fun _=>wp_exit ?_))
  simp only [Exit.then,Exit.inBlock,if_true]
  have:(l.all fun x=>decide (x.cnt=0))=true:=by
   rw [List.all_eq_true];intro x hx;simpa using oe x hx (hl0 _)
  exact ZX this w2 _ (exw XN) (Z2.fr XN hro hF.cx hkv)
 intro x c kl y w3 n3' hkey hlk hv acj ack hlt acm afb hen
 obtain ⟨x',e1,rfl,_⟩:=Maps.keyOf_int_inv Tryz.underlying23 hkey
 obtain rfl:x=x':=wP e1
 obtain ⟨k,cv⟩:=c
 simp only [Cr,osI] at hv
 subst hv
 obtain ⟨mm,NA,rfl⟩:=hl1 x hlk
 have hc:=(acj .nil).symm.trans (TM mm NA .nil)
 simp only [DataW.lit.injEq,Lit.int.injEq] at hc
 obtain ⟨rfl,rfl⟩:=hc
 have XO:w.grownBy w3 (some r):=XN.andThen acm (fun j e=>.inr e)
 rw [h3.2.1]
 have Z1:=Z0.put q3 r3 n3 (.tuple #[.bool true,yu mm.bu,.int .i64 mm.cnt])
 refine kC h4.2.2 (v:=.bool true) (sj h4.1 (by rw [eJ Z0.size n3];simp;rfl) (by rfl)) ?_
 rw [h4.2.1]
 refine wpList_nil ?_
 have Z2:=Z1.put q4 r4 n4 (.bool true)
 simp only [Exit.then]
 refine wp_seq (wp_cond_split (t:=true) (by rw [eJ Z1.size n4];simp) (fun _=>wp_skip ?_) (fun h=>by cases h))
 simp only [Exit.then]
 refine wp_block (wp_seq (wp_region_list ?_))
 refine Cs h5.2.2 (v:=.tuple #[yu mm.bu,.int .i64 mm.cnt]) (by unfold execOp;simp only [h5.1,Z2.r];simp [hen,Result.andThen]) ?_
 rw [h5.2.1]
 have hA5:=Z2.put q5 r5 n5 (.tuple #[yu mm.bu,.int .i64 mm.cnt])
 refine kC h6.2.2 (v:=.int .i64 mm.cnt) (sj h6.1 (by rw [eJ Z2.size n5];simp;rfl) (by rfl)) ?_
 rw [h6.2.1]
 have hA6:=hA5.put q6 r6 n6 (.int .i64 mm.cnt)
 refine kC h7.2.2 (v:=.int .i64 mm.cnt) (by unfold execOp;simp only [h7.1,eJ hA5.size n6,if_true]) ?_
 rw [h7.2.1]
 have hA7:=hA6.put q7 r7 n7 (.int .i64 mm.cnt)
 refine wpList_nil ?_
 simp only [Exit.then]
 refine wp_seq (wp_region_list ?_)
 refine kC h8.2.2 (v:=.int .i64 mm.cnt) (by unfold execOp;simp only [h8.1,eJ hA6.size n7,if_true]) ?_
 rw [h8.2.1]
 have hA8:=hA7.put q8 r8 n8 (.int .i64 mm.cnt)
 refine Cs h9.2.2 (v:=.bool (!decide (mm.cnt=0))) (UZ h9.1 (by rw [eJ hA7.size n8];simp) rfl) ?_
 rw [h9.2.1]
 have hA9:=hA8.put q9 r9 n9 (.bool (!decide (mm.cnt=0)))
 refine wpList_nil ?_
 simp only [Exit.then]
 refine wp_cond_split (t:=!decide (mm.cnt=0)) (by rw [eJ hA8.size n9];simp) (fun h=>?_) (fun h=>wp_skip ?_)
 ·have:(l.all fun x=>decide (x.cnt=0))=false:=by
   rw [List.all_eq_false];exact ⟨mm,NA,by simpa using h⟩
  refine wp_mono (ach this w3 _ (exw XO) (hA9.fr XO hro hF.cx hkv)) ?_
  rintro e a9 w9 ⟨rfl,hl⟩
  exact hl
 have hz:mm.cnt=0:=by simpa using h
 simp only [Exit.inBlock,Exit.then]
 refine ⟨n3',hlt,hA9,XO,_,ack,?_,?_⟩
 ·intro x hx
  simp only [Bool.and_eq_true] at hx
  exact hl1 x hx.1
 intro m hm hx
 simp only [Bool.and_eq_false_iff] at hx
 rcases hx with hx|hx
 ·exact oe m hm hx
 have hj:m.bu=mm.bu:=by simpa [Lit.sameKey] using hx
 have h1:=TM m hm .nil
 rw [hj,TM mm NA .nil] at h1
 simp only [DataW.lit.injEq,Lit.int.injEq,true_and] at h1
 rw [←h1];exact hz
end
end Dem
end
section
open Go Dem Go.Proofs
namespace Dem
theorem fcM {t:Th} (ht:TT t) (k:Nat) {f N:Nat} {fn:Func} {c:Code} {args:List AV} {aG:List ax} {res:fm} (hf:Tryz.prog.funcs[f]?=some fn) (hb:fn.body=some c)
 (hname:(fn.name== "runtime.NumGoroutine")=false) (hN:fn.ntmps=N) {rs:List ResultVar} (EI:fn.results.toList=rs) (hlen:Nat.ble args.length N=true)
 {i0 i1 i2 i3 B B2 m d1 d2 d3 d4 d5 d6 d7 d8 d9 q ty tz:Nat} {t':TypeId} {kv:AV} {o1 o2 o3 o4 o5 o6 o7 o8 o9:Oper} {Yo:Code} {post:List Code}
 (hc:(flat c).drop k=.region i0 ⟨[o1,o2]⟩ false::.block B (.loop (.seq (.region i1 ⟨[o3,o4]⟩ false) (.seq (.cond (.tmp d4) .skip (.exit B)) (.block B2 (.seq (.region i2 ⟨[o5,o6,o7]⟩ false) (.seq (.region i3 ⟨[o8,o9]⟩ false) (.cond (.tmp d9) Yo .skip)))))))::post)
 (hd:d1≠q∧d2≠q∧d3≠q∧d4≠q∧d5≠q∧d6≠q∧d7≠q∧d8≠q∧d9≠q) (hNd:d1<N∧d2<N∧d3<N∧d4<N∧d5<N∧d6<N∧d7<N∧d8<N∧d9<N) (hr:d3≠d2∧d4≠d2∧d5≠d2∧d6≠d2∧d7≠d2∧d8≠d2∧d9≠d2)
 (h1:o1.op=.move (.tmp m)∧o1.dst=some d1∧o1.guard=none) (h2:o2.op=.range ty (.tmp d1)∧o2.dst=some d2∧o2.guard=none) (h3:o3.op=.next (.tmp d2) false∧o3.dst=some d3∧o3.guard=none) (h4:o4.op=.extract (.tmp d3) 0∧o4.dst=some d4∧o4.guard=none)
 (h5:o5.op=.entry (.tmp d2)∧o5.dst=some d5∧o5.guard=none) (h6:o6.op=.extract (.tmp d5) 1∧o6.dst=some d6∧o6.guard=none) (h7:o7.op=.assign (.tmp d6)∧o7.dst=some d7∧o7.guard=none) (h8:o8.op=.move (.tmp d7)∧o8.dst=some d8∧o8.guard=none)
 (h9:o9.op=.binOp .neq tz (.tmp d8) (.const (.int .i64 0)) t'∧o9.dst=some d9∧o9.guard=none) (Wt:Tryz.prog.underlying ty=some (.map 23 3))
 (h:Bv t FC tT gl N 0 ((flat c).take k) (fun e s=>match e with
  |.normal=>fY q s.sl=kv∧LC s.bx (fY m s.sl) (Bv t FC tT gl N 0 post (jE t tT rs 0 res aG) ⟨[(q,kv)],s.bx⟩) (rI t FC tT gl N 0 Yo (fun e s=>match e with|.ret=>jE t tT rs 0 res aG .ret s|_=>False) ⟨[(q,kv)],s.bx⟩)
  |e=>jE t tT rs 0 res aG e s) ⟨gA 0 args,[]⟩):FC f args [] res aG:=by
 subst EI
 have e:=ht.eq
 subst e
 refine rZ KA nS hf hb hname hN hlen (List.take_append_drop k (flat c)).symm (fun s=>fY q s.sl=kv∧LC s.bx (fY m s.sl) _ _) (fun X β0 w0 β w s a ex hF hR=>?_) h
 rw [hc]
 obtain ⟨hq,b,l,es,g1,g2,g3,g4,g5,g6⟩:=hR
 refine U0 hd hNd hr h1 h2 h3 h4 h5 h6 h7 h8 h9 Wt ex hF hq ⟨b,l,es,g1,g2,g3,g4,fun hg w' a' oU Tt=>?_,fun hg w' a' oU Tt=>?_⟩
 ·exact fM KA nS (Nat.le_refl _) post _ β w' ⟨[(q,kv)],s.bx⟩ a' oU Tt (g5 hg)
 refine wp_mono (fh KA nS (Nat.le_refl _) Yo _ β w' ⟨[(q,kv)],s.bx⟩ a' oU Tt (g6 hg)) ?_
 intro e a w hl
 cases e<;>simp only [ee] at hl
 ·obtain ⟨_,_,_,_,h⟩:=hl;exact h.elim
 ·obtain ⟨_,_,_,_,h⟩:=hl;exact h.elim
 ·exact ⟨rfl,hl⟩
 obtain ⟨_,_,_,_,_,_,_,_,_,h⟩:=hl;exact h.elim
end Dem
end
section
open Go Dem Go.Proofs
namespace Dem
variable {t:Th}
theorem En (j:Int):∀(l:List gz),(wY (l.map gz.cells) (.int .u64 j)=none∧fk l j=0)∨(wY (l.map gz.cells) (.int .u64 j)=some [.int .i64 (fk l j)]∧j∈l.map gz.bu∧∃m∈l,fk l j=m.cnt)
 |[]=>.inl ⟨rfl,rfl⟩
 |m::l=>by
  simp only [List.map_cons,gz.cells,wY,qf]
  by_cases h:j=m.bu
  ·subst h
   have e:fk (m::l) m.bu=m.cnt:=by simp [fk]
   rw [e];exact .inr ⟨by simp,by simp,m,by simp,rfl⟩
  have h2:¬m.bu=j:=fun e=>h e.symm
  have e:fk (m::l) j=fk l j:=by simp [fk,h2]
  rw [e]
  simp only [h,decide_false]
  rcases En j l with ⟨a,b⟩|⟨a,b,m',c,d⟩
  ·exact .inl ⟨by simpa using a,b⟩
  exact .inr ⟨by simpa using a,by simp [b],m',by simp [c],d⟩
theorem Ji {u:List (List D)} {l:List gz} (hu:u=l.map gz.cells) {j:Int} {c:Prop} {o:Option (List D)} {K:Option (List D)→Prop} (hc:c) (ho:o=wY u (.int .u64 j)) (h0:fk l j=0→K none) (h1:∀x,x=fk l j→j∈l.map gz.bu→(∃m∈l,x=m.cnt)→K (some [.int .i64 x])):JK true c o K:=by
 subst hu
 rcases En j l with ⟨a,b⟩|⟨a,b,d⟩
 ·exact ⟨none,fun _=>⟨hc,ho.trans a⟩,h0 b⟩
 exact ⟨_,fun _=>⟨hc,ho.trans a⟩,h1 _ rfl b d⟩
theorem wQ {u:List (List D)} {l:List gz} (hu:u=l.map gz.cells):∀r∈u,rowIs (.int .u64) 1 r:=by
 subst hu;intro r hr;obtain ⟨m,_,rfl⟩:=List.mem_map.1 hr;exact ⟨_,_,rfl,rfl,rfl⟩
def wR (m:List gz) (j:Jb):List gz:=if j.runs then eR m j.id j.x.count else m
theorem uP {l:List Jb} {k:Nat} {x:Jb} (h:l[k]?=some x):jj (l.take (k+1))=wR (jj (l.take k)) x:=by
 unfold jj;rw [eU h,List.foldl_append];rfl
structure LD (l:List Jb) (w:List gz):Prop where
 nodup:(w.map gz.bu).Nodup
 bu:∀m∈w,∃j∈l,m.bu=j.id
 cnt:∀m∈w,m.cnt<9223372036854775808
 len:w.length≤l.length
theorem p8 {l:List gz} {j c:Int} {m:gz} (h:m∈eR l j c):m=⟨j,c⟩∨m∈l:=by
 induction l with
 |nil=>simp [eR] at h;exact .inl h
 |cons x l ih=>
  unfold eR at h
  split at h
  ·rcases List.mem_cons.1 h with h|h
   ·exact .inl h
   exact .inr (by simp [h])
  rcases List.mem_cons.1 h with h|h
  ·exact .inr (by simp [h])
  rcases ih h with h|h
  ·exact .inl h
  exact .inr (by simp [h])
theorem LF (l:List gz) (j c:Int):(eR l j c).length≤l.length+1:=by
 have:=congrArg List.length (kS l j c)
 rw [lgM] at this
 rw [this];split<;>simp
theorem Jj (L:List Jb) (hc:∀x∈L,x.x.count<9223372036854775808):∀k≤L.length,LD L (jj (L.take k))∧(jj (L.take k)).length≤k
 |0,_=>⟨⟨by simp [jj],by simp [jj],by simp [jj],by simp [jj]⟩,by simp [jj]⟩
 |k+1,hk=>by
  obtain ⟨⟨a1,a2,a3,a4⟩,a5⟩:=Jj L hc k (by omega)
  obtain ⟨x,hx⟩:∃x,L[k]?=some x:=⟨_,List.getElem?_eq_getElem (by omega)⟩
  have og:=List.mem_of_getElem? hx
  rw [uP hx]
  unfold wR
  split
  ·have:=LF (jj (L.take k)) x.id x.x.count
   refine ⟨⟨pY a1 _ _,fun m hm=>?_,fun m hm=>?_,by omega⟩,by omega⟩
   ·rcases p8 hm with rfl|hm
    ·exact ⟨x,og,rfl⟩
    exact a2 m hm
   rcases p8 hm with rfl|hm
   ·exact hc x og
   exact a3 m hm
  exact ⟨⟨a1,a2,a3,a4⟩,by omega⟩
theorem Sf {L:List Jb} {w W:List gz} (h:w.map gz.bu=W.map gz.bu) (hW:LD L W) (hid:∀x∈L,0≤x.id∧x.id<18446744073709551616) (hl:L.length<1000000):Sb w where
 nodup:=by rw [h];exact hW.nodup
 bu:=fun m hm=>by
  have:m.bu∈W.map gz.bu:=by rw [←h];exact List.mem_map_of_mem hm
  obtain ⟨m',hm',e⟩:=List.mem_map.1 this
  obtain ⟨j,hj,e2⟩:=hW.bu m' hm'
  rw [←e,e2];exact hid j hj
 len:=by have:=congrArg List.length h;simp at this;have:=hW.len;omega
theorem OS (ht:TT t) (rd nx ef af:Int) {nl:List Node} {pl:List Place} {tl:List aR} {jl:List Jb} {ql:List bX} {el al:List bU} {ns ps ts js qs es cY:List (List D)} (gX:ns=nl.map Node.cells) (hps:ps=pl.map Place.cells) (hts:ts=tl.map aR.cells) (gi:js=jl.map Jb.cells) (fq:qs=ql.map bX.cells) (aF:es=el.map bU.cells) (has:cY=al.map bU.cells) (hid:∀x∈jl,(0≤x.id∧x.id<18446744073709551616)∧x.x.count<9223372036854775808) (hjl:jl.length<1000000) (nQ:pl.length<1000000):
 FC 44 [.agg [az rd,az nx,SL ns,SL ps,SL ts,SL js,SL qs,az ef,SL es,az af,SL cY]] [] (.ret (bY (t _ fun _=>lZ ⟨rd,nx,⟨nl,pl⟩,tl,jl,ql,⟨ef,el⟩,⟨af,al⟩⟩))) []:=by
 refine fcM ht 6 Tryz.func44 (c:=_) rfl rfl (N:=74) rfl (rs:=_) rfl rfl (q:=2) (kv:=.d (.bool false)) rfl (by decide) (by decide) (by decide) ⟨rfl,rfl,rfl⟩ ⟨rfl,rfl,rfl⟩ ⟨rfl,rfl,rfl⟩ ⟨rfl,rfl,rfl⟩ ⟨rfl,rfl,rfl⟩ ⟨rfl,rfl,rfl⟩ ⟨rfl,rfl,rfl⟩ ⟨rfl,rfl,rfl⟩ ⟨rfl,rfl,rfl⟩ Tryz.underlying183 ?_
 cbv
 have fj:ns.length=nl.length:=by rw [gX,lgM]
 have fE:ps.length=pl.length:=by rw [hps,lgM]
 have fZ:ts.length=tl.length:=by rw [hts,lgM]
 have dy:js.length=jl.length:=by rw [gi,lgM]
 have dM:qs.length=ql.length:=by rw [fq,lgM]
 have ar:es.length=el.length:=by rw [aF,lgM]
 have dU:cY.length=al.length:=by rw [has,lgM]
 obtain ⟨J0,eg⟩:∃J0:Nat→Int×List (List D)→Prop,∀n i u,J0 n (i,u)↔(∃(k:Nat),i=k∧k+n=jl.length∧u=(jj (jl.take k)).map gz.cells):=⟨fun n v=>match v with|(i,u)=>(∃(k:Nat),i=k∧k+n=jl.length∧u=(jj (jl.take k)).map gz.cells),fun _ _ _=>Iff.rfl⟩
 refine aZ ⟨[1,2,3,15,16,17],[],[]⟩ (σ:=Int×List (List D)) (fun v=>[(17,.d (.int .i64 (t _ fun _=>v.1)))]) (fun v=>[(1,.mp false (t _ fun _=>v.2))]) J0 ?_
 cbv
 refine aA ⟨jl.length,(_,_),(eg _ _ _).2 ?_,by simp only [ht];rfl,?_⟩
 ·exact ⟨0,rfl,by simp,by simp [jj]⟩
 rintro n ⟨i,u⟩ hj
 replace hj:=(eg _ _ _).1 hj
 obtain ⟨k,rfl,q1,q6⟩:=hj
 cbv
 refine ai (fun h1=>?_) (fun h1=>?_)
 ·simp [ht,aa,dy] at h1
  cbv
  refine dg ht gi (cT:=Jb.aH t) (by (simp only [ht,aa];omega)) (by (simp only [ht,aa];omega)) (fun _=>rfl) (fun _=>(by (simp only [ht,Jb.aH];rfl))) (fun x2 iw=>?_)
  simp [ht,aa] at iw
  cbv
  refine ai (fun h3=>?_) (fun h3=>?_)
  ·cbv
   refine ⟨?_,?_⟩
   ·(simp only [ht];exact ⟨⟨rfl,rfl,wQ q6⟩,trivial⟩)
   cbv
   refine bf (_,_) (by simp only [ht];rfl) (n-1) ?_ ((eg _ _ _).2 ?_)
   ·omega
   simp only [aa]
   (exact ⟨k+1,aC (by omega),by omega,by rw [uP iw,wR,q6,BU,if_pos h3]⟩)
  cbv
  refine bf (_,_) (by simp only [ht];rfl) (n-1) ?_ ((eg _ _ _).2 ?_)
  ·omega
  simp only [aa]
  (exact ⟨k+1,aC (by omega),by omega,by rw [uP iw,wR,q6,if_neg (by simp [h3])]⟩)
 simp [ht,aa,dy] at h1
 cbv
 obtain ⟨W,hW⟩:∃W,W=jj jl:=⟨_,rfl⟩
 have hw0:jl.length≤k→jj (jl.take k)=W:=fun h=>by rw [hW,List.take_of_length_le h]
 have hWo:LD jl W:=by have:=(Jj jl (fun x hx=>(hid x hx).2) jl.length (Nat.le_refl _)).1;rw [List.take_length,←hW] at this;exact this
 obtain ⟨J4,Gh⟩:∃J4:Nat→Bool×Int×List (List D)→Prop,∀m rb i u,J4 m (rb,i,u)↔(rb=false∧∃(k:Nat) (w:List gz),i=k∧k+m=pl.length∧u=w.map gz.cells∧w.map gz.bu=W.map gz.bu∧(∀x∈w,x.cnt<9223372036854775808)∧gM jl pl W=gM jl (pl.drop k) w):=⟨fun m v=>match v with|(rb,i,u)=>(rb=false∧∃(k:Nat) (w:List gz),i=k∧k+m=pl.length∧u=w.map gz.cells∧w.map gz.bu=W.map gz.bu∧(∀x∈w,x.cnt<9223372036854775808)∧gM jl pl W=gM jl (pl.drop k) w),fun _ _ _ _=>Iff.rfl⟩
 refine aZ ⟨[1,2,3,33,34,35],[],[]⟩ (σ:=Bool×Int×List (List D)) (fun v=>[(2,.d (.bool (t _ fun _=>v.1))),(35,.d (.int .i64 (t _ fun _=>v.2.1)))]) (fun v=>[(1,.mp false (t _ fun _=>v.2.2))]) J4 ?_
 cbv
 refine aA ⟨pl.length,(_,_,_),(Gh _ _ _ _).2 ?_,by simp only [ht];rfl,?_⟩
 ·exact ⟨rfl,0,W,rfl,by simp,by rw [q6,hw0 (by omega)],rfl,hWo.cnt,rfl⟩
 rintro m ⟨rb,i,u⟩ hj
 replace hj:=(Gh _ _ _ _).1 hj
 obtain ⟨q0,k,w,rfl,q1,q6,q7,q8,q9⟩:=hj
 have MO:u.length=w.length:=by rw [q6,lgM]
 cbv
 refine ai (fun h5=>?_) (fun h5=>?_)
 ·simp [ht,aa,fE] at h5
  cbv
  refine dg ht hps (cT:=Place.aH t) (by (simp only [ht,aa];omega)) (by (simp only [ht,aa];omega)) (fun _=>rfl) (fun _=>rfl) (fun x6 Z3=>?_)
  simp [ht,aa] at Z3
  rw [bO Z3,gM] at q9
  cbv
  refine aS trivial (wN ht _ _ _ _ _ _ _ _ _ _ _ (by assumption) (by omega)) trivial rfl rfl rfl (fun r7 gL=>?_)
  simp only [ht] at gL
  rw [←gL] at q9
  cbv
  (refine Ji q6 (by simp only [ht];exact ⟨rfl,rfl,wQ q6⟩) (by simp only [ht]<;>rfl) (fun w9=>?_) (fun c9 w9 w10 w11=>?_))
  ·cbv
   iterate 6 refine gI (by simp [ht]) ?_
   refine pI (by simp [ht]) ?_
   refine ai (fun h8=>?_) (fun h8=>?_)
   ·simp [ht] at h8
    cbv
    refine an trivial trivial rfl rfl rfl ?_
    (have e:gM jl pl W=none:=(by rw [q9,if_pos (by omega)]);simp only [ht,lZ,←hW,e];done)
   simp [ht] at h8
  cbv
  iterate 6 refine gI (by simp [ht]) ?_
  refine pI (by simp [ht]) ?_
  refine ai (fun h9=>?_) (fun h9=>?_)
  ·simp [ht] at h9
   cbv
   refine an trivial trivial rfl rfl rfl ?_
   (have e:gM jl pl W=none:=(by rw [q9];split;rfl;rw [if_pos];rw [nT];rcases h9 with h9|h9;(exfalso;omega);(intro hh;simp [hh] at h9));simp only [ht,lZ,←hW,e];done)
  simp [ht] at h9
  cbv
  (refine Ji q6 (by simp only [ht];exact ⟨rfl,rfl,wQ q6⟩) (by simp only [ht]<;>rfl) (fun w9=>?_) (fun c9 w9 w10 w11=>?_))
  ·cbv
   refine ⟨?_,?_⟩
   ·(simp only [ht];exact ⟨⟨rfl,rfl,wQ q6⟩,trivial⟩)
   cbv
   refine bf (_,_,_) (by simp only [ht];rfl) (m-1) ?_ ((Gh _ _ _ _).2 ?_)
   ·omega
   simp only [aa]
   (refine ⟨q0,k+1,eR w (x6).bu (c9-1),aC (by omega),by omega,?_,?_,?_,?_⟩)
   ·(simp_all;done)
   ·(rw [kS,if_pos w10,q7];done)
   ·(intro y hy;obtain ⟨mm,NA,em⟩:=w11;have hq8:=q8 mm NA;rcases p8 hy with rfl|hy;(show c9-1<_;omega);exact q8 y hy)
   (simp_all;done)
  cbv
  refine ⟨?_,?_⟩
  ·(simp only [ht];exact ⟨⟨rfl,rfl,wQ q6⟩,trivial⟩)
  cbv
  refine bf (_,_,_) (by simp only [ht];rfl) (m-1) ?_ ((Gh _ _ _ _).2 ?_)
  ·omega
  simp only [aa]
  (refine ⟨q0,k+1,eR w (x6).bu (c9-1),aC (by omega),by omega,?_,?_,?_,?_⟩)
  ·(obtain ⟨mm,NA,em⟩:=w11;have hq8:=q8 mm NA;rw [q6,BU,wrap64 (by omega) (by omega)];done)
  ·(rw [kS,if_pos w10,q7];done)
  ·(intro y hy;obtain ⟨mm,NA,em⟩:=w11;have hq8:=q8 mm NA;rcases p8 hy with rfl|hy;(show c9-1<_;omega);exact q8 y hy)
  (rw [q9,if_neg (by omega),if_neg (by rw [nT];simp [h9.2]),w9];done)
 simp [ht,aa,fE] at h5
 cbv
 refine ⟨?_,?_⟩
 ·(simp [ht];omega)
 cbv
 (refine ⟨1,w,_,rfl,rfl,by simp only [ht];exact q6,Sf q7 hWo (fun x hx=>(hid x hx).1) hjl,fun hg=>?_,fun hg=>?_⟩)
 ·cbv
  refine an trivial trivial rfl rfl rfl ?_
  (rw [List.drop_eq_nil_of_le (by omega),gM] at q9;simp only [ht,lZ,←hW,q9,hg];done)
 cbv
 refine an trivial trivial rfl rfl rfl ?_
 (rw [List.drop_eq_nil_of_le (by omega),gM] at q9;simp only [ht,lZ,←hW,q9,hg];done)
theorem Jk (ht:TT t) (a b:Int) {l:List bX} {es:List (List D)} (aF:es=l.map bX.cells) (hl:l.length<1000000000):
 FC 162 [SL es,.agg [az a,bq b]] [] (.ret (kR (t _ fun _=>Iv (⟨a,b⟩:bX) l))) []:=by
 refine bC ht (aE:=[]) Tryz.func162 (c:=_) rfl rfl (N:=19) rfl (rs:=_) rfl (n:=0) rfl rfl ?_
 cbv
 have ar:es.length=l.length:=by rw [aF,lgM]
 obtain ⟨J0,eg⟩:∃J0:Nat→Int→Prop,∀n i,J0 n i↔(∃k:Nat,i=k∧k+n=l.length∧∀i<k,∀y,l[i]?=some y→(⟨a,b⟩:bX)≠y):=⟨fun n v=>match v with|i=>(∃k:Nat,i=k∧k+n=l.length∧∀i<k,∀y,l[i]?=some y→(⟨a,b⟩:bX)≠y),fun _ _=>Iff.rfl⟩
 refine aZ ⟨[0,3,7,8],[],[]⟩ (σ:=Int) (fun v=>[(8,.d (.int .i64 (t _ fun _=>v)))]) (fun v=>[]) J0 ?_
 cbv
 refine aA ⟨l.length,_,(eg _ _).2 ?_,by simp only [ht];rfl,?_⟩
 ·exact ⟨0,rfl,by simp,fun i hi=>by omega⟩
 rintro n i hj
 replace hj:=(eg _ _).1 hj
 obtain ⟨k,rfl,j1,j4⟩:=hj
 cbv
 refine ai (fun h1=>?_) (fun h1=>?_)
 ·simp [ht,aa,ar] at h1
  cbv
  refine bJ [false,false,false,false,false,true] (by kernel_rfl) (by kernel_rfl) ?_
  cbv
  iterate 3 refine gI (by simp) ?_
  refine dg ht aF (cT:=bX.aH t) (by (simp only [ht,aa];omega)) (by (simp only [ht,aa];omega)) (fun _=>rfl) (fun _=>rfl) (fun x2 iw=>?_)
  simp [ht,aa] at iw
  cbv
  refine gI (by simp) ?_
  refine ai (fun h3=>?_) (fun h3=>?_)
  ·simp [ht] at h3
   cbv
   refine an trivial trivial rfl rfl rfl ?_
   (simp only [ht];rw [Fy iw (by rw [Lx];simp_all) j4];done)
  simp [ht] at h3
  cbv
  refine bf _ (by simp only [ht];rfl) (n-1) ?_ ((eg _ _).2 ?_)
  ·omega
  simp only [aa]
  exact ⟨k+1,aC (by omega),by omega,yb j4 iw (by rw [ne_eq,Lx];simp_all)⟩
 simp [ht,aa,ar] at h1
 cbv
 refine an trivial trivial rfl rfl rfl ?_
 (simp only [ht];rw [Fz (by omega) j4];done)
theorem OU (ht:TT t) (a b:Int) {l:List bX} {es:List (List D)} (aF:es=l.map bX.cells) (hl:l.length<1000000000):
 FC 109 [SL es,.agg [az a,bq b]] [] (.ret (bY (t _ fun _=>l.contains ⟨a,b⟩))) []:=by
 refine bC ht (aE:=[]) Tryz.func109 (c:=_) rfl rfl (N:=9) rfl (rs:=_) rfl (n:=0) rfl rfl ?_
 cbv
 have ar:es.length=l.length:=by rw [aF,lgM]
 refine ay trivial (Jk ht _ _ (by assumption) (by assumption)) trivial rfl rfl (fun r0 bE=>?_)
 simp only [ht] at bE
 cbv
 refine an trivial trivial rfl rfl rfl ?_
 (simp [ht,bE,BO];done)
def lp (l:List Jb) (k:Nat):Option Int:=match k with
 |0=>none
 |k+1=>(l[k]?).map (·.id)
theorem U1 {s:cH} {l:List Jb} {k:Nat} {y:Jb} (hy:0<k→l[k-1]?=some y) (j:Jb):VX s (lp l k) j=
 (if ((((decide (j.id<1)||decide (s.next≤j.id))||(decide (0<k)&&decide (j.id≤y.id)))||!decide (cR j.x=0))||!gV s.tree j.x.path)=true then false else
  if j.runs then decide (1≤j.left)&&decide (j.left≤j.x.dS) else decide (j.left=0)&&s.queue.contains ⟨j.id,j.x.prio⟩):=by
 unfold VX
 cases k with
 |zero=>
  simp only [lp]
  by_cases a:j.id<1
  ·simp [a]
  by_cases b:s.next≤j.id
  ·simp [a,b]
  by_cases c:cR j.x=0
  ·cases d:gV s.tree j.x.path<;>simp [a,b,c]
  simp [a,b,c]
 |succ k=>
  have hy:=hy (by omega)
  simp only [Nat.add_sub_cancel] at hy
  simp only [lp,hy,Option.map_some]
  by_cases a:j.id<1
  ·simp [a]
  by_cases b:s.next≤j.id
  ·simp [a,b]
  by_cases e:j.id≤y.id
  ·simp [a,b,e]
  by_cases c:cR j.x=0
  ·cases d:gV s.tree j.x.path<;>simp [a,b,c,e]
  simp [a,b,c,e]
theorem XP (ht:TT t) (rd nx ef af:Int) {nl:List Node} {pl:List Place} {tl:List aR} {jl:List Jb} {ql:List bX} {el al:List bU} {ns ps ts js qs es cY:List (List D)} (gX:ns=nl.map Node.cells) (hps:ps=pl.map Place.cells) (hts:ts=tl.map aR.cells) (gi:js=jl.map Jb.cells) (fq:qs=ql.map bX.cells) (aF:es=el.map bU.cells) (has:cY=al.map bU.cells) {z:Int} (k:Nat) (hz:z=k) (hk:k<jl.length) (ji ja jb jc jd jn jp jt jf:Int) (jq:aD) (jr:Bool) {jB:List Term} {tn:List (List D)} (m8:tn=jB.map Term.cells) (hx:(⟨jq,⟨ja,jb,jc,jd⟩,jn,jp,jt,jB⟩:Ask).sm) (htl:tl.length<100000) (hjl:jl.length<1000000) (V3:ql.length<1000000):
 FC 42 [.agg [az rd,az nx,SL ns,SL ps,SL ts,SL js,SL qs,az ef,SL es,az af,SL cY],bq z,.agg [az ji,ST jq,az ja,az jb,az jc,az jd,bq jn,bq jp,bq jt,SL tn,BL jr,bq jf]] [] (.ret (bY (t _ fun _=>VX ⟨rd,nx,⟨nl,pl⟩,tl,jl,ql,⟨ef,el⟩,⟨af,al⟩⟩ (lp jl k) ⟨ji,⟨jq,⟨ja,jb,jc,jd⟩,jn,jp,jt,jB⟩,jr,jf⟩))) []:=by
 subst hz
 obtain ⟨h1,h2,h3,h4⟩:=id hx
 simp only at h1 h2 h3 h4
 obtain ⟨y,hy⟩:∃y,0<k→jl[k-1]?=some y:=⟨jl.getD (k-1) Jb.zero,fun _=>by rw [List.getD_eq_getElem?_getD,List.getElem?_eq_getElem (by omega)];rfl⟩
 rw [U1 hy]
 refine bC ht (aE:=[]) Tryz.func42 (c:=_) rfl rfl (N:=79) rfl (rs:=_) rfl (n:=0) rfl rfl ?_
 cbv
 have fj:ns.length=nl.length:=by rw [gX,lgM]
 have fE:ps.length=pl.length:=by rw [hps,lgM]
 have fZ:ts.length=tl.length:=by rw [hts,lgM]
 have dy:js.length=jl.length:=by rw [gi,lgM]
 have dM:qs.length=ql.length:=by rw [fq,lgM]
 have ar:es.length=el.length:=by rw [aF,lgM]
 have dU:cY.length=al.length:=by rw [has,lgM]
 have tq:tn.length=jB.length:=by rw [m8,lgM]
 refine bJ [true,true,true,true,false,false,false,false,false,true,true,true,true,true,true,false,false,false,false,false,false,false,false,false,false,true,true,true,true,true,true,true,true,true,true,false,false,false,false,false,false,true,true,true] (by kernel_rfl) (by kernel_rfl) ?_
 cbv
 iterate 6 refine gI (by simp [ht]) ?_
 refine pI (by simp [ht]) ?_
 iterate 10 refine gI (by simp [ht]) ?_
 (refine HY ht gi (cT:=Jb.aH t) (k-1) (fun g=>by simp [ht] at g ⊢;simp [g]) (fun g=>by simp [ht] at g;simp only [ht];exact ⟨vX (by omega) (by omega),by omega⟩) (fun _=>rfl) (fun _=>by simp only [ht,Jb.aH];rfl) (fun y9 my=>?_);simp [ht] at my)
 cbv
 iterate 3 refine gI (by simp [ht]) ?_
 refine gI (by simp [ht,ak];intros;simp_all) ?_
 refine pI (by simp [ht]) ?_
 iterate 2 refine gI (by simp [ht]) ?_
 refine aM (fun g0=>⟨by simp [ht] at g0 ⊢;exact g0,trivial,oO ht _ _ _ _ _ _ _ _ (by assumption) (by assumption)⟩) rfl rfl (fun r1 cX=>?_)
 simp only [ht] at cX
 cbv
 refine gI (by simp [ht]) ?_
 refine pI (by simp [ht];omega) ?_
 iterate 6 refine gI (by simp [ht]) ?_
 refine aM (fun g2=>⟨by simp [ht] at g2 ⊢;exact g2,trivial,yp ht _ (by assumption) (by omega) (by assumption)⟩) rfl rfl (fun r3 gH=>?_)
 simp only [ht] at gH
 cbv
 refine gI (by simp [ht]) ?_
 refine pI (by simp [ht];omega) ?_
 refine ai (fun h4=>?_) (fun h4=>?_)
 ·simp [ht] at h4
  cbv
  refine an trivial trivial rfl rfl rfl ?_
  (simp only [ht];grind)
 simp [ht] at h4
 cbv
 refine ai (fun h5=>?_) (fun h5=>?_)
 ·cbv
  iterate 6 refine gI (by simp [ht]) ?_
  refine pI (by simp [ht]) ?_
  refine an trivial trivial rfl rfl rfl ?_
  (simp only [ht];grind)
 cbv
 iterate 9 refine gI (by simp [ht]) ?_
 refine aM (fun g6=>⟨by simp [ht] at g6 ⊢;exact g6,trivial,OU ht _ _ (by assumption) (by omega)⟩) rfl rfl (fun r7 gL=>?_)
 simp only [ht] at gL
 cbv
 refine pI (by simp [ht]) ?_
 refine an trivial trivial rfl rfl rfl ?_
 (simp only [ht];grind)
theorem OV {l:List Jb} {k:Nat} {x:Jb} (h:l[k]?=some x):gW (l.drop k)=(if x.runs then 0 else 1)+gW (l.drop (k+1)):=by
 rw [bO h]
 unfold gW
 cases hx:x.runs<;>simp [hx];omega
theorem Sg (ht:TT t) (rd nx ef af:Int) {nl:List Node} {pl:List Place} {tl:List aR} {jl:List Jb} {ql:List bX} {el al:List bU} {ns ps ts js qs es cY:List (List D)} (gX:ns=nl.map Node.cells) (hps:ps=pl.map Place.cells) (hts:ts=tl.map aR.cells) (gi:js=jl.map Jb.cells) (fq:qs=ql.map bX.cells) (aF:es=el.map bU.cells) (has:cY=al.map bU.cells) (hjl:jl.length<1000000):
 FC 43 [.agg [az rd,az nx,SL ns,SL ps,SL ts,SL js,SL qs,az ef,SL es,az af,SL cY]] [] (.ret (kR (t _ fun _=>(gW jl:Int)))) []:=by
 refine bC ht (aE:=[]) Tryz.func43 (c:=_) rfl rfl (N:=21) rfl (rs:=_) rfl (n:=0) rfl rfl ?_
 cbv
 have fj:ns.length=nl.length:=by rw [gX,lgM]
 have fE:ps.length=pl.length:=by rw [hps,lgM]
 have fZ:ts.length=tl.length:=by rw [hts,lgM]
 have dy:js.length=jl.length:=by rw [gi,lgM]
 have dM:qs.length=ql.length:=by rw [fq,lgM]
 have ar:es.length=el.length:=by rw [aF,lgM]
 have dU:cY.length=al.length:=by rw [has,lgM]
 obtain ⟨J0,eg⟩:∃J0:Nat→Int×Int→Prop,∀n c i,J0 n (c,i)↔(∃k w:Nat,i=k∧c=w∧k+n=jl.length∧w≤k∧gW jl=w+gW (jl.drop k)):=⟨fun n v=>match v with|(c,i)=>(∃k w:Nat,i=k∧c=w∧k+n=jl.length∧w≤k∧gW jl=w+gW (jl.drop k)),fun _ _ _=>Iff.rfl⟩
 refine aZ ⟨[3,8,9,10],[],[]⟩ (σ:=Int×Int) (fun v=>[(3,.d (.int .i64 (t _ fun _=>v.1))),(10,.d (.int .i64 (t _ fun _=>v.2)))]) (fun v=>[]) J0 ?_
 cbv
 refine aA ⟨jl.length,(_,_),(eg _ _ _).2 ?_,by simp only [ht];rfl,?_⟩
 ·exact ⟨0,0,rfl,rfl,by simp,by omega,by simp⟩
 rintro n ⟨c,i⟩ hj
 replace hj:=(eg _ _ _).1 hj
 obtain ⟨k,w,rfl,rfl,j1,j2,j4⟩:=hj
 cbv
 refine ai (fun h1=>?_) (fun h1=>?_)
 ·simp [ht,aa,dy] at h1
  cbv
  refine dg ht gi (cT:=Jb.aH t) (by (simp only [ht,aa];omega)) (by (simp only [ht,aa];omega)) (fun _=>rfl) (fun _=>(by (simp only [ht,Jb.aH];rfl))) (fun x2 iw=>?_)
  simp [ht,aa] at iw
  rw [OV iw] at j4
  cbv
  refine ai (fun h3=>?_) (fun h3=>?_)
  ·simp [ht] at h3
   cbv
   refine bf (_,_) (by simp only [ht];rfl) (n-1) ?_ ((eg _ _ _).2 ?_)
   ·omega
   simp only [aa]
   (exact ⟨k+1,w+1,aC (by omega),aC (by omega),by omega,by omega,by rw [j4];simp [*];omega⟩)
  simp [ht] at h3
  cbv
  refine bf (_,_) (by simp only [ht];rfl) (n-1) ?_ ((eg _ _ _).2 ?_)
  ·omega
  simp only [aa]
  (exact ⟨k+1,w,aC (by omega),rfl,by omega,by omega,by rw [j4];simp [*]⟩)
 simp [ht,aa,dy] at h1
 cbv
 refine an trivial trivial rfl rfl rfl ?_
 (rw [List.drop_eq_nil_of_le (by omega)] at j4;simp only [ht];rw [j4];simp [gW];done)
theorem Sh (ht:TT t) (rd nx ef af:Int) {nl:List Node} {pl:List Place} {tl:List aR} {jl:List Jb} {ql:List bX} {el al:List bU} {ns ps ts js qs es cY:List (List D)} (gX:ns=nl.map Node.cells) (hps:ps=pl.map Place.cells) (hts:ts=tl.map aR.cells) (gi:js=jl.map Jb.cells) (fq:qs=ql.map bX.cells) (aF:es=el.map bU.cells) (has:cY=al.map bU.cells) (p:aD) (a b c d e f g h:Int) (hjl:jl.length<1000000) (fR:∀x∈jl,x.x.path.length<1000000000000∧x.x.fQ.u'):
 FC 47 [.agg [az rd,az nx,SL ns,SL ps,SL ts,SL js,SL qs,az ef,SL es,az af,SL cY],.agg [ST p,az a,az b,az c,az d,az e,az f,az g,az h]] [] (.ret (bY (t _ fun _=>qu ⟨rd,nx,⟨nl,pl⟩,tl,jl,ql,⟨ef,el⟩,⟨af,al⟩⟩ ⟨p,⟨a,b,c,d⟩,⟨e,f,g,h⟩⟩))) []:=by
 refine bC ht (aE:=[]) Tryz.func47 (c:=_) rfl rfl (N:=61) rfl (rs:=_) rfl (n:=0) rfl rfl ?_
 cbv
 have fj:ns.length=nl.length:=by rw [gX,lgM]
 have fE:ps.length=pl.length:=by rw [hps,lgM]
 have fZ:ts.length=tl.length:=by rw [hts,lgM]
 have dy:js.length=jl.length:=by rw [gi,lgM]
 have dM:qs.length=ql.length:=by rw [fq,lgM]
 have ar:es.length=el.length:=by rw [aF,lgM]
 have dU:cY.length=al.length:=by rw [has,lgM]
 obtain ⟨J0,eg⟩:∃J0:Nat→Int×Int×Int×Int×Int→Prop,∀n i a' b' c' d',J0 n (i,a',b',c',d')↔(∃k:Nat,i=k∧k+n=jl.length∧nI p jl bz.zero=nI p (jl.drop k) ⟨a',b',c',d'⟩):=⟨fun n v=>match v with|(i,a',b',c',d')=>(∃k:Nat,i=k∧k+n=jl.length∧nI p jl bz.zero=nI p (jl.drop k) ⟨a',b',c',d'⟩),fun _ _ _ _ _ _=>Iff.rfl⟩
 refine aZ ⟨[3,5,14,15,16],[],[]⟩ (σ:=Int×Int×Int×Int×Int) (fun v=>[(16,.d (.int .i64 (t _ fun _=>v.1)))]) (fun v=>[(1,.var [.d (.int .u64 (t _ fun _=>v.2.1)),.d (.int .u64 (t _ fun _=>v.2.2.1)),.d (.int .u64 (t _ fun _=>v.2.2.2.1)),.d (.int .u64 (t _ fun _=>v.2.2.2.2))])]) J0 ?_
 cbv
 refine aA ⟨jl.length,(_,_,_,_,_),(eg _ _ _ _ _ _).2 ?_,by simp only [ht];rfl,?_⟩
 ·exact ⟨0,rfl,by simp,rfl⟩
 rintro n ⟨i,a',b',c',d'⟩ hj
 replace hj:=(eg _ _ _ _ _ _).1 hj
 obtain ⟨k,rfl,j1,j4⟩:=hj
 cbv
 refine ai (fun h1=>?_) (fun h1=>?_)
 ·simp [ht,aa,dy] at h1
  cbv
  refine dg ht gi (cT:=Jb.aH t) (by (simp only [ht,aa];omega)) (by (simp only [ht,aa];omega)) (fun _=>rfl) (fun _=>(by (simp only [ht,Jb.aH];rfl))) (fun x2 iw=>?_)
  simp [ht,aa] at iw
  rw [bO iw,nI] at j4
  have sx2:=fR _ (List.mem_of_getElem? iw)
  cbv
  iterate 9 refine gI (by simp [ht]) ?_
  refine aM (fun g3=>⟨by simp [ht] at g3 ⊢;exact g3,trivial,BP ht _ _ (by (simp [*];done))⟩) rfl rfl (fun r4 dO=>?_)
  simp only [ht] at dO
  rw [←dO] at j4
  cbv
  refine gI (by simp [ht]) ?_
  refine gI (by simp [ht,ak];intros;simp_all) ?_
  refine pI (by simp [ht]) ?_
  refine ai (fun h5=>?_) (fun h5=>?_)
  ·simp [ht] at h5
   cbv
   refine bf (_,_,_,_,_) (by simp only [ht];rfl) (n-1) ?_ ((eg _ _ _ _ _ _).2 ?_)
   ·omega
   simp only [aa]
   (refine ⟨k+1,aC (by omega),by omega,?_⟩;rw [j4];grind)
  simp [ht] at h5
  cbv
  (obtain ⟨⟨⟨v1,v2,v3,v4⟩,vk⟩,hv⟩:∃r,r=cW x2.x:=⟨_,rfl⟩;refine ay trivial (tj ht x2.x.path x2.x.fQ.a x2.x.fQ.b x2.x.fQ.c x2.x.fQ.d x2.x.count x2.x.prio x2.x.dS (sl:=x2.x.b9) _ (fR _ (List.mem_of_getElem? iw)).2) trivial rfl rfl (fun r9 dN=>?_);simp only [ht] at dN;replace dN:=dN.trans hv.symm;subst dN;rw [←hv] at j4;simp only at j4)
  cbv
  refine ay trivial (FW ht _ _ _ _ _ _ _ _) trivial rfl rfl (fun r6 gv=>?_)
  simp only [ht] at gv
  rw [←gv] at j4
  cbv
  iterate 2 refine gI (by simp [ht]) ?_
  refine pI (by simp [ht]) ?_
  refine ai (fun h7=>?_) (fun h7=>?_)
  ·simp [ht] at h7
   cbv
   refine an trivial trivial rfl rfl rfl ?_
   (have e:nI p jl bz.zero=none:=(by rw [j4];grind);simp [ht,qu,e];done)
  simp [ht] at h7
  cbv
  refine bf (_,_,_,_,_) (by simp only [ht];rfl) (n-1) ?_ ((eg _ _ _ _ _ _).2 ?_)
  ·omega
  simp only [aa]
  (refine ⟨k+1,aC (by omega),by omega,?_⟩;show _=nI p (jl.drop (k+1)) (r6.1);rw [j4];grind)
 simp [ht,aa,dy] at h1
 cbv
 refine an trivial trivial rfl rfl rfl ?_
 (rw [List.drop_eq_nil_of_le (by omega),nI] at j4;simp only [ht,qu,j4,nT,Bool.decide_and];simp;done)
theorem OW (ht:TT t) (rd nx ef af:Int) (ns ps ts js qs es' cY:List (List D)) {l:List (aR)} {es:List (List D)} (aF:es=l.map aR.cells) (f:Nat) (p:aR→Bool) (hl:l.length<9223372036854775807)
 (hf:∀x∈l,FC f [.agg [ST x.path,az x.dc.a,az x.dc.b,az x.dc.c,az x.dc.d,az x.used.a,az x.used.b,az x.used.c,az x.used.d],.ptr 0 0] [.var [az rd,az nx,SL ns,SL ps,SL ts,SL js,SL qs,az ef,SL es',az af,SL cY]] (.ret (BL (p x))) [.var [az rd,az nx,SL ns,SL ps,SL ts,SL js,SL qs,az ef,SL es',az af,SL cY]]) {r:Int} (hr:r=idxOf p l):FC 90 [SL es,.fn f [.ptr 0 0]] [.var [az rd,az nx,SL ns,SL ps,SL ts,SL js,SL qs,az ef,SL es',az af,SL cY]] (.ret (bq r)) [.var [az rd,az nx,SL ns,SL ps,SL ts,SL js,SL qs,az ef,SL es',az af,SL cY]]:=by
 have hel:es.length=l.length:=by rw [aF,lgM]
 obtain ⟨J,hJ⟩:∃J:Nat→Nat→Prop,∀n v,J n v↔(v+n=l.length∧∀i<v,∀x,l[i]?=some x→p x=false):=⟨fun n v=>v+n=l.length∧∀i<v,∀x,l[i]?=some x→p x=false,fun _ _=>Iff.rfl⟩
 refine bC ht (aE:=[.var [az rd,az nx,SL ns,SL ps,SL ts,SL js,SL qs,az ef,SL es',az af,SL cY]]) Tryz.func90 (c:=_) rfl rfl (N:=19) rfl (rs:=_) rfl (n:=1) rfl rfl ?_
 cbv
 refine aZ ⟨[0,1,7,8],[],[]⟩ (σ:=Nat) (fun k=>[(8,bq (t _ fun _=>(k:Int)))]) (fun _=>[]) J ?_
 cbv
 refine aA ⟨l.length,0,(hJ _ _).2 ⟨by omega,by intro i hi;simp at hi⟩,by simp only [ht];rfl,?_⟩
 rintro n k hj
 obtain ⟨h2,h3⟩:=(hJ _ _).1 hj
 clear hj
 cbv
 refine ai (fun h=>?_) (fun h=>?_)
 ·simp only [ht,aa,decide_eq_true_eq] at h
  have hk:k<l.length:=by omega
  obtain ⟨x,hx⟩:∃x,l[k]?=some x:=⟨l[k],by simp⟩
  have og:x∈l:=List.mem_of_getElem? hx
  have gY:=hf x og
  obtain ⟨px,hpx⟩:∃b,b=p x:=⟨_,rfl⟩
  rw [←hpx] at gY
  obtain ⟨nm,⟨a,b,c,d⟩,⟨e,g,u,v⟩⟩:=x
  cbv
  refine gS [.str nm,.int .u64 a,.int .u64 b,.int .u64 c,.int .u64 d,.int .u64 e,.int .u64 g,.int .u64 u,.int .u64 v] ?_ ?_ ?_
  ·simp only [ht,aa];refine ⟨by omega,h,?_⟩;rw [aF];intro r hr;obtain ⟨y,_,rfl⟩:=List.mem_map.1 hr;rfl
  ·simp [ht,aa,aF,hx]
  cbv
  refine dn trivial gY ?_
  cbv
  refine ai (fun hb=>?_) (fun hb=>?_)
  ·cbv
   refine an trivial trivial rfl rfl rfl ?_
   have e:=cN hx (hpx▸hb) h3
   simp only [ht,aa,hr,idxOf,e]
  cbv
  refine aA ⟨n-1,k+1,⟨by omega,(hJ _ _).2 ⟨by omega,?_⟩⟩,?_⟩
  ·intro i hi y hy
   by_cases hik:i<k
   ·exact h3 i hik y hy
   have:i=k:=by omega
   subst this;rw [hx] at hy;cases hy;rw [←hpx];exact hb
  simp only [ht,aa,aC (show k<9223372036854775807 by omega)];rfl
 simp only [ht,aa,decide_eq_false_iff_not] at h
 have hk:¬k<l.length:=by omega
 clear h
 cbv
 refine an trivial trivial rfl rfl rfl ?_
 rw [hr,idxOf,cS]
 intro i y hy
 have:i<l.length:=by
  rcases Nat.lt_or_ge i l.length with h'|h';· exact h'
  simp [List.getElem?_eq_none h'] at hy
 exact h3 i (by omega) y hy
theorem OX (ht:TT t) (rd nx ef af:Int) (ns ps ts js qs es' cY:List (List D)) {l:List (aR)} {es:List (List D)} (aF:es=l.map aR.cells) (f:Nat) (p:aR→Bool) (hl:l.length<9223372036854775807)
 (hf:∀x∈l,FC f [.agg [ST x.path,az x.dc.a,az x.dc.b,az x.dc.c,az x.dc.d,az x.used.a,az x.used.b,az x.used.c,az x.used.d],.ptr 0 0] [.var [az rd,az nx,SL ns,SL ps,SL ts,SL js,SL qs,az ef,SL es',az af,SL cY]] (.ret (BL (p x))) [.var [az rd,az nx,SL ns,SL ps,SL ts,SL js,SL qs,az ef,SL es',az af,SL cY]]) {r:Bool} (hr:r=l.any p):FC 45 [SL es,.fn f [.ptr 0 0]] [.var [az rd,az nx,SL ns,SL ps,SL ts,SL js,SL qs,az ef,SL es',az af,SL cY]] (.ret (BL r)) [.var [az rd,az nx,SL ns,SL ps,SL ts,SL js,SL qs,az ef,SL es',az af,SL cY]]:=by
 obtain ⟨k,hk⟩:∃k,k=idxOf p l:=⟨_,rfl⟩
 refine bC ht (aE:=[.var [az rd,az nx,SL ns,SL ps,SL ts,SL js,SL qs,az ef,SL es',az af,SL cY]]) Tryz.func45 (c:=_) rfl rfl (N:=9) rfl (rs:=_) rfl (n:=1) rfl rfl ?_
 cbv
 refine dn trivial (OW ht rd nx ef af ns ps ts js qs es' cY aF f p hl hf hk) ?_
 cbv
 refine an trivial trivial rfl rfl rfl ?_
 simp only [ht,hr,eT,hk]
theorem LG (ht:TT t) (rd nx ef af:Int) {nl:List Node} {pl:List Place} {tl:List aR} {jl:List Jb} {ql:List bX} {el al:List bU} {ns ps ts js qs es cY:List (List D)} (gX:ns=nl.map Node.cells) (hps:ps=pl.map Place.cells) (hts:ts=tl.map aR.cells) (gi:js=jl.map Jb.cells) (fq:qs=ql.map bX.cells) (aF:es=el.map bU.cells) (has:cY=al.map bU.cells) (p:aD) (a b c d e f g h:Int) (hjl:jl.length<1000000) (fR:∀x∈jl,x.x.path.length<1000000000000∧x.x.fQ.u') {r:Bool} (hr:r=!qu ⟨rd,nx,⟨nl,pl⟩,tl,jl,ql,⟨ef,el⟩,⟨af,al⟩⟩ ⟨p,⟨a,b,c,d⟩,⟨e,f,g,h⟩⟩):
 FC 46 [.agg [ST p,az a,az b,az c,az d,az e,az f,az g,az h],.ptr 0 0] [.var [az rd,az nx,SL ns,SL ps,SL ts,SL js,SL qs,az ef,SL es,az af,SL cY]] (.ret (BL r)) [.var [az rd,az nx,SL ns,SL ps,SL ts,SL js,SL qs,az ef,SL es,az af,SL cY]]:=by
 refine bC ht (aE:=[.var [az rd,az nx,SL ns,SL ps,SL ts,SL js,SL qs,az ef,SL es,az af,SL cY]]) Tryz.func46 (c:=_) rfl rfl (N:=8) rfl (rs:=_) rfl (n:=1) rfl rfl ?_
 cbv
 have fj:ns.length=nl.length:=by rw [gX,lgM]
 have fE:ps.length=pl.length:=by rw [hps,lgM]
 have fZ:ts.length=tl.length:=by rw [hts,lgM]
 have dy:js.length=jl.length:=by rw [gi,lgM]
 have dM:qs.length=ql.length:=by rw [fq,lgM]
 have ar:es.length=el.length:=by rw [aF,lgM]
 have dU:cY.length=al.length:=by rw [has,lgM]
 refine ay trivial (Sh ht _ _ _ _ (by assumption) (by assumption) (by assumption) (by assumption) (by assumption) (by assumption) (by assumption) _ _ _ _ _ _ _ _ _ (by assumption) (by assumption)) trivial rfl rfl (fun r0 bE=>?_)
 simp only [ht] at bE
 cbv
 refine an trivial trivial rfl rfl rfl ?_
 (simp [*];done)
theorem OY (ht:TT t) (rd nx ef af:Int) {nl:List Node} {pl:List Place} {tl:List aR} {jl:List Jb} {ql:List bX} {el al:List bU} {ns ps ts js qs es cY:List (List D)} (gX:ns=nl.map Node.cells) (hps:ps=pl.map Place.cells) (hts:ts=tl.map aR.cells) (gi:js=jl.map Jb.cells) (fq:qs=ql.map bX.cells) (aF:es=el.map bU.cells) (has:cY=al.map bU.cells) (htl:tl.length<100000) (hjl:jl.length<1000000) (fR:∀x∈jl,x.x.path.length<1000000000000∧x.x.fQ.u') {r:Bool} (hr:r=tl.any fun e=>!qu ⟨rd,nx,⟨nl,pl⟩,tl,jl,ql,⟨ef,el⟩,⟨af,al⟩⟩ e):
 FC 45 [SL ts,.fn 46 [.ptr 0 0]] [.var [az rd,az nx,SL ns,SL ps,SL ts,SL js,SL qs,az ef,SL es,az af,SL cY]] (.ret (BL r)) [.var [az rd,az nx,SL ns,SL ps,SL ts,SL js,SL qs,az ef,SL es,az af,SL cY]]:=
 OX ht rd nx ef af ns ps ts js qs es cY hts 46 (fun e=>!qu ⟨rd,nx,⟨nl,pl⟩,tl,jl,ql,⟨ef,el⟩,⟨af,al⟩⟩ e) (by omega) (fun x _=>LG ht rd nx ef af gX hps hts gi fq aF has x.path x.dc.a x.dc.b x.dc.c x.dc.d x.used.a x.used.b x.used.c x.used.d hjl fR rfl) hr
structure cH.sm (s:cH):Prop where
 nodes:s.aW.nodes.length<1000000∧∀x∈s.aW.nodes,x.sm
 places:s.aW.places.length<1000000
 tree:s.tree.length<100000∧∀x∈s.tree,x.path.length<1000000000000
 aI:s.aI.length<1000000∧∀x∈s.aI,x.x.sm∧(0≤x.id∧x.id<18446744073709551616)∧x.x.count<9223372036854775808
 queue:s.queue.length<1000000
 notes:s.ev.l.length<1000000∧s.au.l.length<1000000
theorem LH {s:cH} {k:Nat} {x:Jb} (hx:s.aI[k]?=some x):mZ s (lp s.aI k) (s.aI.drop k)=(VX s (lp s.aI k) x&&mZ s (lp s.aI (k+1)) (s.aI.drop (k+1))):=by
 rw [bO hx,mZ]
 have:lp s.aI (k+1)=some x.id:=by simp [lp,hx]
 rw [this]
theorem XQ {s:cH} (h:((((nU s.aW=false∨gU s.tree=false)∨nX s.queue=false)∨(32:Int)<(s.aI.length:Int))∨s.next<1)∨(32:Int)<max (s.ev.l.length:Int) (s.au.l.length:Int)):gq s=false:=by
 unfold gq
 rcases h with ((((h|h)|h)|h)|h)|h
 ·rw [h];rfl
 ·rw [h];split<;>rfl
 ·rw [h];split;rfl;split<;>rfl
 ·rw [if_pos (show 32<s.aI.length by omega)];split;rfl;split;rfl;split<;>rfl
 ·rw [if_pos h];split;rfl;split;rfl;split;rfl;split<;>rfl
 rw [if_pos (show 32<max s.ev.l.length s.au.l.length by omega)];split;rfl;split;rfl;split;rfl;split;rfl;split<;>rfl
theorem XR {s:cH} (h:mZ s none s.aI=false):gq s=false:=by
 unfold gq
 rw [h];split;rfl;split;rfl;split;rfl;split;rfl;split;rfl;split<;>rfl
theorem XS {a b c:Bool}:(bif (bif a then b else false) then c else false)=(a&&b&&c):=by cases a<;>cases b<;>rfl
theorem XT {a b:Nat}:decide ((a:Int)=(b:Int))=decide (a=b):=by rw [decide_eq_decide];omega
theorem U2 {s:cH} (h:((((nU s.aW=true∧gU s.tree=true)∧nX s.queue=true)∧(s.aI.length:Int)≤(32:Int))∧1≤s.next)∧max (s.ev.l.length:Int) (s.au.l.length:Int)≤(32:Int)) (hj:mZ s none s.aI=true):
 gq s=(decide (gW s.aI=s.queue.length)&&lZ s&&!(s.tree.any fun e=>!qu s e)):=by
 obtain ⟨⟨⟨⟨⟨h1,h2⟩,h3⟩,h4⟩,h5⟩,h6⟩:=h
 unfold gq
 rw [h1,h2,h3,hj]
 simp only [Bool.not_true,Bool.false_eq_true,if_false]
 rw [if_neg (by omega),if_neg (by omega),if_neg (by omega)]
theorem p9 (ht:TT t) (rd nx ef af:Int) {nl:List Node} {pl:List Place} {tl:List aR} {jl:List Jb} {ql:List bX} {el al:List bU} {ns ps ts js qs es cY:List (List D)} (gX:ns=nl.map Node.cells) (hps:ps=pl.map Place.cells) (hts:ts=tl.map aR.cells) (gi:js=jl.map Jb.cells) (fq:qs=ql.map bX.cells) (aF:es=el.map bU.cells) (has:cY=al.map bU.cells) (hs:(⟨rd,nx,⟨nl,pl⟩,tl,jl,ql,⟨ef,el⟩,⟨af,al⟩⟩:cH).sm):
 FC 14 [.agg [az rd,az nx,SL ns,SL ps,SL ts,SL js,SL qs,az ef,SL es,az af,SL cY]] [] (.ret (bY (t _ fun _=>gq ⟨rd,nx,⟨nl,pl⟩,tl,jl,ql,⟨ef,el⟩,⟨af,al⟩⟩))) []:=by
 obtain ⟨⟨s1,s2⟩,s3,⟨s4,s5⟩,⟨s6,s7⟩,s8,s9,Z4⟩:=id hs
 simp only at s1 s2 s3 s4 s5 s6 s7 s8 s9 Z4
 have s11:∀x∈jl,x.x.path.length<1000000000000∧x.x.fQ.u':=fun x hx=>⟨(s7 x hx).1.1,(s7 x hx).1.2.1⟩
 have s12:∀x∈jl,(0≤x.id∧x.id<18446744073709551616)∧x.x.count<9223372036854775808:=fun x hx=>⟨(s7 x hx).2.1,(s7 x hx).2.2⟩
 refine bC ht (aE:=[]) Tryz.func14 (c:=_) rfl rfl (N:=78) rfl (rs:=_) rfl (n:=0) rfl rfl ?_
 cbv
 have fj:ns.length=nl.length:=by rw [gX,lgM]
 have fE:ps.length=pl.length:=by rw [hps,lgM]
 have fZ:ts.length=tl.length:=by rw [hts,lgM]
 have dy:js.length=jl.length:=by rw [gi,lgM]
 have dM:qs.length=ql.length:=by rw [fq,lgM]
 have ar:es.length=el.length:=by rw [aF,lgM]
 have dU:cY.length=al.length:=by rw [has,lgM]
 refine ay trivial (D2 ht (by assumption) (by assumption) (by omega) (by omega) (by assumption)) trivial rfl rfl (fun r0 bE=>?_)
 simp only [ht] at bE
 cbv
 iterate 2 refine gI (by simp [ht]) ?_
 refine aM (fun g1=>⟨by simp [ht] at g1 ⊢;exact g1,trivial,Ej ht (by assumption) (by assumption) (by assumption)⟩) rfl rfl (fun r2 cP=>?_)
 simp only [ht] at cP
 cbv
 refine gI (by simp [ht]) ?_
 refine pI (by simp [ht]) ?_
 iterate 2 refine gI (by simp [ht]) ?_
 refine aM (fun g3=>⟨by simp [ht] at g3 ⊢;exact g3,trivial,OP ht (by assumption) (by assumption)⟩) rfl rfl (fun r4 dO=>?_)
 simp only [ht] at dO
 cbv
 refine gI (by simp [ht]) ?_
 refine pI (by simp [ht]) ?_
 iterate 4 refine gI (by simp [ht]) ?_
 refine pI (by simp [ht]) ?_
 iterate 3 refine gI (by simp [ht]) ?_
 refine pI (by simp [ht]) ?_
 iterate 10 refine gI (by simp [ht]) ?_
 refine pI (by simp [ht]) ?_
 refine ai (fun h5=>?_) (fun h5=>?_)
 ·simp [ht,aa,dy,ar,dU] at h5
  cbv
  refine an trivial trivial rfl rfl rfl ?_
  (simp only [ht];rw [XQ (by simp only [←bE,←cP,←dO];exact h5)];done)
 simp [ht,aa,dy,ar,dU] at h5
 cbv
 obtain ⟨J6,Jl⟩:∃J6:Nat→Int→Prop,∀n i,J6 n i↔(∃k:Nat,i=k∧k+n=jl.length∧mZ ⟨rd,nx,⟨nl,pl⟩,tl,jl,ql,⟨ef,el⟩,⟨af,al⟩⟩ none jl=mZ ⟨rd,nx,⟨nl,pl⟩,tl,jl,ql,⟨ef,el⟩,⟨af,al⟩⟩ (lp jl k) (jl.drop k)):=⟨fun n v=>match v with|i=>(∃k:Nat,i=k∧k+n=jl.length∧mZ ⟨rd,nx,⟨nl,pl⟩,tl,jl,ql,⟨ef,el⟩,⟨af,al⟩⟩ none jl=mZ ⟨rd,nx,⟨nl,pl⟩,tl,jl,ql,⟨ef,el⟩,⟨af,al⟩⟩ (lp jl k) (jl.drop k)),fun _ _=>Iff.rfl⟩
 refine aZ ⟨[1,3,48,49,50],[],[]⟩ (σ:=Int) (fun v=>[(50,.d (.int .i64 (t _ fun _=>v)))]) (fun v=>[]) J6 ?_
 cbv
 refine aA ⟨jl.length,_,(Jl _ _).2 ?_,by simp only [ht];rfl,?_⟩
 ·exact ⟨0,rfl,by simp,rfl⟩
 rintro n i hj
 replace hj:=(Jl _ _).1 hj
 obtain ⟨k,rfl,j1,j4⟩:=hj
 cbv
 refine ai (fun h7=>?_) (fun h7=>?_)
 ·simp [ht,aa,dy] at h7
  cbv
  refine dg ht gi (cT:=Jb.aH t) (by (simp only [ht,aa];omega)) (by (simp only [ht,aa];omega)) (fun _=>rfl) (fun _=>(by (simp only [ht,Jb.aH];rfl))) (fun x8 mx8=>?_)
  simp [ht,aa] at mx8
  have j5:=LH (s:=⟨rd,nx,⟨nl,pl⟩,tl,jl,ql,⟨ef,el⟩,⟨af,al⟩⟩) mx8
  simp only at j5
  rw [j5] at j4
  have sx8:=(s7 _ (List.mem_of_getElem? mx8)).1
  cbv
  refine ay trivial (XP ht _ _ _ _ (by assumption) (by assumption) (by assumption) (by assumption) (by assumption) (by assumption) (by assumption) _ (by (simp only [ht];rfl)) (by assumption) _ _ _ _ _ _ _ _ _ _ _ (jH ht rfl) (by assumption) (by assumption) (by assumption) (by assumption)) trivial rfl rfl (fun r9 dN=>?_)
  simp only [ht] at dN
  (have e9:VX ⟨rd,nx,⟨nl,pl⟩,tl,jl,ql,⟨ef,el⟩,⟨af,al⟩⟩ (lp jl k) x8=r9:=(dN).symm;rw [e9] at j4)
  cbv
  refine ai (fun h10=>?_) (fun h10=>?_)
  ·simp [ht] at h10
   cbv
   refine an trivial trivial rfl rfl rfl ?_
   (simp only [ht];rw [XR (by rw [j4,h10];rfl)];done)
  simp [ht] at h10
  cbv
  refine bf _ (by simp only [ht];rfl) (n-1) ?_ ((Jl _ _).2 ?_)
  ·omega
  simp only [aa]
  exact ⟨k+1,aC (by omega),by omega,by rw [j4,h10];rfl⟩
 simp [ht,aa,dy] at h7
 cbv
 refine bJ [false,false,false,false,false,true,true,true,true,true,true,false,false,false,true,true,true,true] (by kernel_rfl) (by kernel_rfl) ?_
 cbv
 refine gI (by simp) ?_
 refine .inl ?_
 refine aM (fun g11=>⟨trivial,trivial,Sg ht _ _ _ _ (by assumption) (by assumption) (by assumption) (by assumption) (by assumption) (by assumption) (by assumption) (by assumption)⟩) rfl rfl (fun Xw oN=>?_)
 simp only [ht] at oN
 cbv
 iterate 3 refine gI (by simp) ?_
 refine gI (by simp [ht]) ?_
 refine aM (fun g13=>⟨by simp [ht] at g13 ⊢;exact g13,trivial,OS ht _ _ _ _ (by assumption) (by assumption) (by assumption) (by assumption) (by assumption) (by assumption) (by assumption) (by assumption) (by assumption) (by assumption)⟩) rfl rfl (fun r14 wK=>?_)
 simp only [ht] at wK
 cbv
 refine pI (by simp [ht]) ?_
 iterate 3 refine gI (by simp [ht]) ?_
 (obtain ⟨r19,Z5⟩:∃r,r=tl.any (fun e=>!qu ⟨rd,nx,⟨nl,pl⟩,tl,jl,ql,⟨ef,el⟩,⟨af,al⟩⟩ e):=⟨_,rfl⟩;refine TL [true,false] [1] (fun g=>⟨⟨g,g,trivial⟩,trivial,OY ht rd nx ef af gX hps hts gi fq aF has s4 s6 s11 Z5⟩) rfl rfl rfl (.inl rfl) rfl rfl rfl rfl ?_)
 cbv
 refine gI (by simp [ht]) ?_
 refine pI (by simp [ht]) ?_
 refine an trivial trivial rfl rfl rfl ?_
 (rw [List.drop_eq_nil_of_le (by omega),mZ] at j4;simp only [ht];rw [U2 (by simp only [←bE,←cP,←dO];exact h5) j4];simp only [oN,wK,Z5,dM,XS,XT];done)
theorem Si (ht:TT t) (rd nx ef af p:Int) (ns ps ts js qs es cY:List (List D)) (ok:Bool) (s:aD):FDR 77 [.ptr 0 0,.ptr 1 0] [.var [az rd,az nx,SL ns,SL ps,SL ts,SL js,SL qs,az ef,SL es,az af,SL cY],.var [BL ok],.var [ST s,bq p]] (.ret (.dF [])) [.var [az rd,az nx,SL ns,SL ps,SL ts,SL js,SL qs,az ef,SL es,az af,SL cY],.var [BL ok],.var [ST s,bq p]]:=by
 refine ZK ht (aE:=[.var [az rd,az nx,SL ns,SL ps,SL ts,SL js,SL qs,az ef,SL es,az af,SL cY],.var [BL ok],.var [ST s,bq p]]) Tryz.func77 (c:=_) rfl rfl (N:=11) rfl (rs:=_) rfl (n:=3) rfl rfl rfl ?_
 cbv
 refine qj rfl ?_
 cbv
 exact an trivial trivial rfl rfl rfl rfl
theorem U3 (ht:TT t) (s:aD) {p1 p2 p3 p4 p5 p6 p7 c e:Int} (rd nx ef af:Int) {nl:List Node} {pl:List Place} {tl:List aR} {jl:List Jb} {ql:List bX} {el al:List bU} {ns ps ts js qs es cY:List (List D)} (gX:ns=nl.map Node.cells) (hps:ps=pl.map Place.cells) (hts:ts=tl.map aR.cells) (gi:js=jl.map Jb.cells) (fq:qs=ql.map bX.cells) (aF:es=el.map bU.cells) (has:cY=al.map bU.cells) (hs:s.length<9223372036854775000) (hq:ql=[]) (he:e=s.length)
 (g1:bD s 0=⟨rd,p1,true⟩) (g2:bD s p1=⟨nx,p2,true⟩) (g3:Ib s p2=⟨⟨nl,pl⟩,p3,true⟩) (l3:p3≤s.length) (g4:BJ s p3=⟨tl,p4,true⟩) (l4:p4≤s.length)
 (g5:bD s p4=⟨c,p5,true⟩) (g6:kB s c.toNat [] p5=some (jl,p6)) (g7:lm s p6=some (⟨ef,el⟩,p7)) (g8:lm s p7=some (⟨af,al⟩,e))
 (fR:(⟨rd,nx,⟨nl,pl⟩,tl,jl,ql,⟨ef,el⟩,⟨af,al⟩⟩:cH).sm) (hr:gq ⟨rd,nx,⟨nl,pl⟩,tl,jl,ql,⟨ef,el⟩,⟨af,al⟩⟩=true):
 FC 25 [ST s] [] (.ret (.dF [.agg [az rd,az nx,SL ns,SL ps,SL ts,SL js,SL qs,az ef,SL es,az af,SL cY],BL true])) []:=by
 have h6:=fR.aI
 have h7:=fR.notes
 simp only at h6 h7
 refine ZJ ht (aE:=[]) Tryz.func25 (c:=_) rfl rfl (N:=25) rfl (rs:=_) rfl (n:=0) rfl rfl rfl ?_
 cbv
 have fj:ns.length=nl.length:=by rw [gX,lgM]
 have fE:ps.length=pl.length:=by rw [hps,lgM]
 have fZ:ts.length=tl.length:=by rw [hts,lgM]
 have dy:js.length=jl.length:=by rw [gi,lgM]
 have dM:qs.length=ql.length:=by rw [fq,lgM]
 have ar:es.length=el.length:=by rw [aF,lgM]
 have dU:cY.length=al.length:=by rw [has,lgM]
 (refine cE [2] trivial rfl rfl (OJ ht s rd nx ef af gX hps hts gi fq aF has hs (by decide) hq g1 g2 g3 l3 g4 l4 g5 g6 h6.1 (fun j hj=>(h6.2 j hj).1) g7 h7.1 g8 h7.2) (bK ?_))
 cbv
 refine gI (by simp [ht]) ?_
 refine aM (fun g0=>⟨by simp [ht] at g0 ⊢;exact g0,trivial,p9 ht _ _ _ _ (by assumption) (by assumption) (by assumption) (by assumption) (by assumption) (by assumption) (by assumption) (by assumption)⟩) rfl rfl (fun r1 cX=>?_)
 simp only [ht] at cX
 (rw [hr] at cX;subst cX)
 cbv
 refine gI (by simp [ht]) ?_
 refine pI (by simp [ht]) ?_
 refine ai (fun h2=>?_) (fun h2=>?_)
 ·simp [ht,aa] at h2
  contradiction
 simp [ht,aa] at h2
 cbv
 (refine KF (Si ht _ _ _ _ _ _ _ _ _ _ _ _ _ _) ?_)
 cbv
 refine an trivial trivial rfl rfl rfl ?_
 rfl
end Dem
end
