/- Parts of a proof, joined. -/
import Derived.Test.YtjnbpclolnmimaaGreatDoorK22
import Derived.Maps.RangeWalk
set_option linter.all false
set_option maxRecDepth 100000
set_option maxHeartbeats 4000000
section
open Go Dem Go.Proofs Go.Maps
namespace Dem
def BQ (v:Value):Option (DataW Unit×List MemPlace):=match v with
 |.int q n=>some (.lit (.int q n),[])
 |_=>none
abbrev xo:Int→Value:=Value.int .u64
theorem vW {x y:Int} (h:xo x=xo y):x=y:=by injection h
theorem NY {x:Int} (h0:0≤x) (h1:x<18446744073709551616):keyOf Tryz.prog 23 (xo x)=some (.int .u64 x):=
 keyOf_int_mk Tryz.underlying23 (by simp [Lit.wf,IntKind.min,IntKind.max,IntKind.signed,IntKind.bits];omega)
theorem Iy {w:World} {ok:Nat→Prop}:∀(l:List gi) (ms:List MapEntry),be w ok false (l.map gi.cells) ms→ms.map (fun e=>(e.key,e.val))=l.map (fun m=>(xo m.bB,Value.int .i64 m.cnt))
 |[],ms,h=>by simp only [List.map_nil,be] at h;subst h;rfl
 |m::l,ms,h=>by
  simp only [List.map_cons,be] at h
  obtain ⟨e,r,rfl,h1,h2⟩:=h
  simp only [gi.cells,gM,aH,b9] at h1
  obtain ⟨h1,cs,h3,_,v,r',h5,h6,h7⟩:=h1
  subst h7 h6
  rw [List.map_cons,List.map_cons,Iy l r h2]
  subst h5
  rw [h1,h3];rfl
structure Ra (l:List gi):Prop where
 nodup:(l.map gi.bB).Nodup
 bB:∀m∈l,0≤m.bB∧m.bB<18446744073709551616
 len:l.length≤1000000
theorem Rb {w:World} {ok:Nat→Prop} {l:List gi} {ms:Array MapEntry} {clock b:Nat} (hh:w.heap[b]?=some (.map ms clock)) (hs:mj ms clock) (hr:be w ok false (l.map gi.cells) ms.toList) (hl:Ra l):
 ∃D0:DataW Unit,w.ownsMap Tryz.prog 23 BQ b ms.size D0∧(∀x,has D0 (.int .u64 x)=true↔∃m∈l,m.bB=x)∧∀m∈l,∀z,D0.atKey (.int .u64 m.bB) z=.lit (.int .i64 m.cnt):=by
 have hk:=Iy l ms.toList hr
 have hsz:ms.size=l.length:=by have:=congrArg List.length hk;simpa using this
 have hread:∀x∈ms.toList,∃m∈l,x.key=xo m.bB∧x.val=.int .i64 m.cnt∧WideElems.rd Tryz.prog 23 BQ x=some (.int .u64 m.bB,.lit (.int .i64 m.cnt)):=by
  intro x hx
  have:(x.key,x.val)∈ms.toList.map (fun e=>(e.key,e.val)):=List.mem_map.2 ⟨x,hx,rfl⟩
  rw [hk] at this
  obtain ⟨m,hm,e⟩:=List.mem_map.1 this
  simp only [Prod.mk.injEq] at e
  refine ⟨m,hm,e.1.symm,e.2.symm,?_⟩
  unfold WideElems.rd
  rw [←e.1,←e.2,NY (hl.bB m hm).1 (hl.bB m hm).2]
  rfl
 have hmem:∀m∈l,∃x∈ms.toList,x.key=xo m.bB∧x.val=.int .i64 m.cnt:=by
  intro m hm
  have:(xo m.bB,Value.int .i64 m.cnt)∈l.map (fun m=>(xo m.bB,Value.int .i64 m.cnt)):=List.mem_map.2 ⟨m,hm,rfl⟩
  rw [←hk] at this
  obtain ⟨x,hx,e⟩:=List.mem_map.1 this
  simp only [Prod.mk.injEq] at e
  exact ⟨x,hx,e.1,e.2⟩
 have F:WideElems.Fit Tryz.prog 23 BQ ms clock:=by
  refine ⟨?_,⟨?_,hs.2,?_⟩,?_⟩
  ·rw [hsz];exact Nat.le_trans hl.len (by decide)
  ·intro x hx
   have:=hs.1
   rw [Array.all_eq_true_iff_forall_mem] at this
   simpa using this x (by simpa using hx)
  ·have e1:ms.toList.map (·.key)=(l.map gi.bB).map xo:=by
    have:ms.toList.map (·.key)=(ms.toList.map (fun e=>(e.key,e.val))).map Prod.fst:=by rw [List.map_map];rfl
    rw [this,hk];simp
   rw [e1]
   exact List.pairwise_map.2 (hl.nodup.imp (fun h e=>h (vW e)))
  intro x hx
  obtain ⟨m,_,_,_,h⟩:=hread x hx
  exact ⟨_,h⟩
 refine ⟨_,⟨ms,clock,hh,F,Nat.le_refl _,rfl⟩,?_,?_⟩
 ·intro x
  rw [has_eq,List.any_eq_true]
  have hp:=WideShapes.sorted_perm (ms.toList.map (WideElems.rg Tryz.prog 23 BQ))
  constructor
  ·rintro ⟨p,MG,Ls⟩
   obtain ⟨e,he,rfl⟩:=List.mem_map.1 (hp.mem_iff.1 MG)
   obtain ⟨m,hm,_,_,h⟩:=hread e he
   rw [WideElems.rg_of h] at Ls
   exact ⟨m,hm,by simpa [Lit.sameKey] using Ls⟩
  rintro ⟨m,hm,rfl⟩
  obtain ⟨e,he,h1,h2⟩:=hmem m hm
  obtain ⟨m',hm',h3,h4,h⟩:=hread e he
  have:m'.bB=m.bB:=vW (h3.symm.trans h1)
  refine ⟨_,hp.mem_iff.2 (List.mem_map.2 ⟨e,he,rfl⟩),?_⟩
  rw [WideElems.rg_of h,this];simp [Lit.sameKey]
 intro m hm z
 obtain ⟨e,he,h1,h2⟩:=hmem m hm
 obtain ⟨m',hm',h3,h4,h⟩:=hread e he
 have e1:m'.bB=m.bB:=vW (h3.symm.trans h1)
 have e2:m'.cnt=m.cnt:=by rw [h4] at h2;injection h2
 have hris:=fit_rising (int_keyed Tryz.underlying23) F
 have:=(WideShapes.atKey_sorted (ms.toList.map (WideElems.rg Tryz.prog 23 BQ)) hris (.int .u64 m.bB) trv).2 (WideElems.rg Tryz.prog 23 BQ e) (List.mem_map.2 ⟨e,he,rfl⟩) (by rw [WideElems.rg_of h,e1]) z
 rw [this,WideElems.rg_of h,e2]
theorem xu {β:Nat→Nat} {bx:List ar} {w w':World} {row:Option Nat} (hg:w.grownBy w' row) (hr:∀j,row=some j→w.heap.size≤j):Ext β bx w β bx w':=
 have hb:∀k,k<w.heap.size→w'.heap[k]?=w.heap[k]?:=fun k hk=>hg.block k hk (fun e=>by have:=hr k e.symm;omega)
 ⟨hg.os,hg.tape,hg.output,hg.size,fun k hk _=>hb k hk,fun k c e f hk=>⟨c,by rw [hb k (eG hk)];exact hk,rfl⟩,fun i hi=>⟨rfl,hi⟩,fun i b h1 h2=>.inr ⟨i,b,h1,h2,rfl⟩⟩
theorem ke {P:Program} {ops:Array Oper} {Q:Exit→Act→World→Prop} {rest:List Oper} {o:Oper} {a:Act} {w:World} {v:Value} (hg:o.guard=none) (hv:execOp a.eval o=pure (.value v)) (h:wpList P ops Q rest (a.put o.dst v) w):wpList P ops Q (o::rest) a w:=
 wpList_plain hg fun K hK=>by unfold Oper.wp;rw [hv];exact hK _ _ h
theorem BR {P:Program} {ops:Array Oper} {Q:Exit→Act→World→Prop} {rest:List Oper} {o:Oper} {a:Act} {w:World} {v:Value} (hg:o.guard=none) (hv:(execOp a.eval o).run P w=.ok (.value v) w) (h:wpList P ops Q rest (a.put o.dst v) w):wpList P ops Q (o::rest) a w:=
 wpList_plain hg fun K hK=>by unfold Oper.wp;rw [hv];exact hK _ _ h
theorem TL {P:Program} {w:World} {t:TypeId} {k:IntKind} {x y:Int} {ρ:Operand→Value} {o:Oper} {a b:Operand} {t':TypeId} (ho:o.op=.binOp .neq t a b t') (ha:ρ a=.int k x) (hb:ρ b=.int k y):(execOp ρ o).run P w=.ok (.value (.bool (!decide (x=y)))) w:=by
 obtain ⟨u,h1,h2⟩:=FR (P:=P) (w:=w) (fun _=>True) (op:=.neq) (k:=k) (x:=x) (y:=y) (c:=True) (d:=.bool (!decide (x=y))) rfl trv t
 simp only [aH] at h2
 subst h2
 unfold execOp
 simp only [ho,ha,hb]
 simp [h1,eqGuard,Result.andThen]
theorem rF {ρ:Operand→Value} {o:Oper} {x:Operand} {i:Nat} {vs:Array Value} {v:Value} (ho:o.op=.extract x i) (hx:ρ x=.tuple vs) (hv:vs[i]?=some v):execOp ρ o=pure (.value v):=by
 unfold execOp
 simp only [ho,Instr.extract,hx,hv]
 rfl
theorem eF {a:Act} {N d:Nat} {v:Value} (hs:a.tmps.size=N) (hd:d<N) (u:Nat):(a.put (some d) v).eval (.tmp u)=if u=d then v else a.eval (.tmp u):=LF a d v (by rw [hs];exact hd) u
structure Wn (N q d2:Nat) (v0 vr:Value) (a:Act):Prop where
 defers:a.defers=[]
 size:a.tmps.size=N
 q:a.eval (.tmp q)=v0
 r:a.eval (.tmp d2)=vr
theorem Wn.put {N q d2:Nat} {v0 vr:Value} {a:Act} (h:Wn N q d2 v0 vr a) {d:Nat} (h1:d≠q) (h2:d≠d2) (hN:d<N) (v:Value):Wn N q d2 v0 vr (a.put (some d) v):=
 ⟨h.defers,by rw [←h.size];simp [Act.put],by rw [eF h.size hN,if_neg (fun e=>h1 e.symm)];exact h.q,by rw [eF h.size hN,if_neg (fun e=>h2 e.symm)];exact h.r⟩
theorem Wn.fr {G:Nat→Option (List D)} {N q d2:Nat} {v0 vr:Value} {a:Act} (h:Wn N q d2 v0 vr a) {β:Nat→Nat} {X:Nat→Prop} {bx:List ar} {w w':World} {row:Option Nat} {kv:AV} (hg:w.grownBy w' row) (hr:∀j,row=some j→w.heap.size≤j) (cx:cr G β bx w X) (hk:ah β bx w (aY β bx w X) kv v0):
 Fr G N [] β w' X ⟨[(q,kv)],bx⟩ a:=by
 refine ⟨cx.step (xu hg hr) (fun i b hb=>.inl ⟨hb,fun hl=>hg.block _ ((cx.box i b hb).eH hl) (fun e=>by have:=hr _ e.symm;have:=(cx.box i b hb).eH hl;omega)⟩) cx.inj,h.defers,h.size,fun t=>?_⟩
 by_cases e:t=q
 ·subst e
  have:fP t [(t,kv)]=kv:=by simp only [fP];rw [show Nat.beq t t=true by simp];rfl
  rw [this]
  have hv:a.tmps.getD t undef=v0:=h.q
  rw [hv];exact ah.mono ((xu hg hr).dN X) _ _ hk
 have:fP t [(q,kv)]=.any:=by simp only [fP];rw [Vg e];rfl
 rw [this];simp [ah]
structure K0 (bx:List ar) (m:AV) (good bad:Prop):Prop where
 ok:∃(b:Nat) (l:List gi) (es:List (List D)),m=.zB b∧bx[b]?=some (.mp false es)∧es=l.map gi.cells∧Ra l∧((l.all fun x=>decide (x.cnt=0))=true→good)∧((l.all fun x=>decide (x.cnt=0))=false→bad)
section
variable {N:Nat} {X:Nat→Prop} {β0:Nat→Nat} {aB:List ar} {w0:World}
theorem TM {Q:Ex→St→Prop} {i0 i1 i2 i3 B B2 m d1 d2 d3 d4 d5 d6 d7 d8 d9 q ty tz:Nat} {t':TypeId} {kv:AV} {o1 o2 o3 o4 o5 o6 o7 o8 o9:Oper} {Xe:Code} {post:List Code}
 (hd:d1≠q∧d2≠q∧d3≠q∧d4≠q∧d5≠q∧d6≠q∧d7≠q∧d8≠q∧d9≠q) (hN:d1<N∧d2<N∧d3<N∧d4<N∧d5<N∧d6<N∧d7<N∧d8<N∧d9<N) (hr:d3≠d2∧d4≠d2∧d5≠d2∧d6≠d2∧d7≠d2∧d8≠d2∧d9≠d2)
 (h1:o1.op=.move (.tmp m)∧o1.dst=some d1∧o1.guard=none) (h2:o2.op=.range ty (.tmp d1)∧o2.dst=some d2∧o2.guard=none) (h3:o3.op=.next (.tmp d2) false∧o3.dst=some d3∧o3.guard=none) (h4:o4.op=.extract (.tmp d3) 0∧o4.dst=some d4∧o4.guard=none)
 (h5:o5.op=.entry (.tmp d2)∧o5.dst=some d5∧o5.guard=none) (h6:o6.op=.extract (.tmp d5) 1∧o6.dst=some d6∧o6.guard=none) (h7:o7.op=.assign (.tmp d6)∧o7.dst=some d7∧o7.guard=none) (h8:o8.op=.move (.tmp d7)∧o8.dst=some d8∧o8.guard=none)
 (h9:o9.op=.binOp .neq tz (.tmp d8) (.const (.int .i64 0)) t'∧o9.dst=some d9∧o9.guard=none) (Vi:Tryz.prog.underlying ty=some (.map 23 3))
 {β:Nat→Nat} {w:World} {s:St} {a:Act} (ex:Ext β0 aB w0 β s.bx w) (hF:Fr gl N [] β w X s a) (hq:fP q s.sl=kv)
 (h:K0 s.bx (fP m s.sl) (∀(w':World) (a':Act),Ext β0 aB w0 β s.bx w'→Fr gl N [] β w' X ⟨[(q,kv)],s.bx⟩ a'→p9 Tryz.prog post (dY gl N [] X β0 aB w0 Q) a' w')
  (∀(w':World) (a':Act),Ext β0 aB w0 β s.bx w'→Fr gl N [] β w' X ⟨[(q,kv)],s.bx⟩ a'→Xe.wp Tryz.prog (fun e a w=>e=.ret∧dY gl N [] X β0 aB w0 Q .ret a w) a' w')):
 p9 Tryz.prog (.region i0 ⟨[o1,o2]⟩ false::.block B (.loop (.seq (.region i1 ⟨[o3,o4]⟩ false) (.seq (.cond (.tmp d4) .skip (.exit B)) (.block B2 (.seq (.region i2 ⟨[o5,o6,o7]⟩ false) (.seq (.region i3 ⟨[o8,o9]⟩ false) (.cond (.tmp d9) Xe .skip)))))))::post) (dY gl N [] X β0 aB w0 Q) a w:=by
 obtain ⟨b,l,es,hm,hb,rfl,hl,YK,aa3⟩:=h
 obtain ⟨q1,q2,q3,q4,q5,q6,q7,q8,q9⟩:=hd
 obtain ⟨n1,n2,n3,n4,n5,n6,n7,n8,n9⟩:=hN
 obtain ⟨r3,r4,r5,r6,r7,r8,r9⟩:=hr
 have hma:a.eval (.tmp m)=.map (some (β b)):=by
  have:=hF.wF m
  rw [hm] at this
  simp only [ah] at this
  exact this.1
 obtain ⟨ms,clock,g1,g2,g3⟩:=hF.cx.box b _ hb
 obtain ⟨D0,ho,YL,SJ⟩:=Rb g1 g2 g3 hl
 refine wp_region_list ?_
 refine ke h1.2.2 (v:=.map (some (β b))) (by unfold execOp;simp only [h1.1,hma]) ?_
 rw [h1.2.1]
 refine wpList_range_own _ h2.2.2 (.tmp d1) ty h2.1 23 3 (int_keyed Tryz.underlying23) Vi BQ (β b) ms.size D0 (by rw [eF hF.size n1];simp) ho ?_
 intro w1 YM Rc XA
 rw [h2.2.1]
 refine wpList_nil ?_
 obtain ⟨r,Zc⟩:∃r,r=w.heap.size:=⟨_,rfl⟩
 rw [←Zc] at YM ⊢
 have Rd:(a.put (some d1) (Value.map (some (β b)))).tmps.size=N:=by rw [←hF.size];simp [Act.put]
 have hA:Wn N q d2 (a.eval (.tmp q)) (.pointer (some ⟨r,0,none⟩)) ((a.put (some d1) (Value.map (some (β b)))).put (some d2) (.pointer (some ⟨r,0,none⟩))):=
  ⟨hF.defers,by rw [←Rd];simp [Act.put],by rw [eF Rd n2,if_neg (fun e=>q2 e.symm),eF hF.size n1,if_neg (fun e=>q1 e.symm)],by rw [eF Rd n2];simp⟩
 have hkv:ah β s.bx w (aY β s.bx w X) kv (a.eval (.tmp q)):=by rw [←hq];exact hF.wF q
 generalize (a.put (some d1) (Value.map (some (β b)))).put (some d2) (.pointer (some ⟨r,0,none⟩))=a1 at hA ⊢
 show (Code.block B _).wp Tryz.prog _ a1 w1
 refine wp_block ?_
 have hro:∀j,some r=some j→w.heap.size≤j:=fun j e=>by cases e;omega
 refine wp_loop_ghost (fun n a' w'=>Wn N q d2 (a.eval (.tmp q)) (.pointer (some ⟨r,0,none⟩)) a'∧w.grownBy w' (some r)∧∃left,w'.ranges Tryz.prog 23 BQ (β b) r ms.size D0 left n∧(∀x,left (.int .u64 x)=true→∃m∈l,m.bB=x)∧∀m∈l,left (.int .u64 m.bB)=false→m.cnt=0)
  (Maps.size D0) ⟨hA,⟨Rc.os,Rc.tape,Rc.output,Rc.size,fun k hk _=>Rc.block k hk (by simp)⟩,has D0,YM,fun x h=>(YL x).1 h,fun m hm h=>by rw [(YL m.bB).2 ⟨m,hm,rfl⟩] at h;cases h⟩ ?_
 rintro n a2 w2 ⟨YN,Wo,left,aa4,hl1,oP⟩
 refine wp_seq (wp_region_list ?_)
 have exw:∀{w3:World},w.grownBy w3 (some r)→Ext β0 aB w0 β s.bx w3:=fun {w3} g=>ex.trans (xu g hro)
 refine wpList_next_ranges w2 h3.2.2 (.tmp d2) h3.1 23 (int_keyed Tryz.underlying23) BQ xo (fun x:IntKind×Int=>.int x.1 x.2) (fun key kl hk=>by obtain ⟨x,hx,_⟩:=Maps.keyOf_int_inv Tryz.underlying23 hk;exact ⟨x,hx⟩)
  (fun v y hv=>by cases v<;>simp [BQ] at hv;exact ⟨(_,_),rfl⟩) (β b) r ms.size D0 left n YN.r aa4 ?_ ?_
 ·intro hc0 hl0
  rw [h3.2.1]
  have YO:=YN.put q3 r3 n3 (.tuple #[.bool false])
  refine ke h4.2.2 (v:=.bool false) (rF h4.1 (by rw [eF YN.size n3];simp;rfl) (by rfl)) ?_
  rw [h4.2.1]
  refine wpList_nil ?_
  have YP:=YO.put q4 r4 n4 (.bool false)
  simp only [Exit.then]
  refine wp_seq (wp_cond_split (t:=false) (by rw [eF YO.size n4];simp) (fun h=>by cases h) (fun _=>wp_exit ?_))
  simp only [Exit.then,Exit.inBlock,if_true]
  have:(l.all fun x=>decide (x.cnt=0))=true:=by
   rw [List.all_eq_true];intro x hx;simpa using oP x hx (hl0 _)
  exact YK this w2 _ (exw Wo) (YP.fr Wo hro hF.cx hkv)
 intro x c kl y w3 n3' hkey hlk hv aa5 aa6 hlt aa7 adR hen
 obtain ⟨x',e1,rfl,_⟩:=Maps.keyOf_int_inv Tryz.underlying23 hkey
 obtain rfl:x=x':=vW e1
 obtain ⟨k,cv⟩:=c
 simp only [BQ,osI] at hv
 subst hv
 obtain ⟨mm,MM,rfl⟩:=hl1 x hlk
 have hc:=(aa5 .nil).symm.trans (SJ mm MM .nil)
 simp only [DataW.lit.injEq,Lit.int.injEq] at hc
 obtain ⟨rfl,rfl⟩:=hc
 have Wp:w.grownBy w3 (some r):=Wo.andThen aa7 (fun j e=>.inr e)
 rw [h3.2.1]
 have YO:=YN.put q3 r3 n3 (.tuple #[.bool true,xo mm.bB,.int .i64 mm.cnt])
 refine ke h4.2.2 (v:=.bool true) (rF h4.1 (by rw [eF YN.size n3];simp;rfl) (by rfl)) ?_
 rw [h4.2.1]
 refine wpList_nil ?_
 have YP:=YO.put q4 r4 n4 (.bool true)
 simp only [Exit.then]
 refine wp_seq (wp_cond_split (t:=true) (by rw [eF YO.size n4];simp) (fun _=>wp_skip ?_) (fun h=>by cases h))
 simp only [Exit.then]
 refine wp_block (wp_seq (wp_region_list ?_))
 refine BR h5.2.2 (v:=.tuple #[xo mm.bB,.int .i64 mm.cnt]) (by unfold execOp;simp only [h5.1,YP.r];simp [hen,Result.andThen]) ?_
 rw [h5.2.1]
 have hA5:=YP.put q5 r5 n5 (.tuple #[xo mm.bB,.int .i64 mm.cnt])
 refine ke h6.2.2 (v:=.int .i64 mm.cnt) (rF h6.1 (by rw [eF YP.size n5];simp;rfl) (by rfl)) ?_
 rw [h6.2.1]
 have hA6:=hA5.put q6 r6 n6 (.int .i64 mm.cnt)
 refine ke h7.2.2 (v:=.int .i64 mm.cnt) (by unfold execOp;simp only [h7.1,eF hA5.size n6,if_true]) ?_
 rw [h7.2.1]
 have hA7:=hA6.put q7 r7 n7 (.int .i64 mm.cnt)
 refine wpList_nil ?_
 simp only [Exit.then]
 refine wp_seq (wp_region_list ?_)
 refine ke h8.2.2 (v:=.int .i64 mm.cnt) (by unfold execOp;simp only [h8.1,eF hA6.size n7,if_true]) ?_
 rw [h8.2.1]
 have hA8:=hA7.put q8 r8 n8 (.int .i64 mm.cnt)
 refine BR h9.2.2 (v:=.bool (!decide (mm.cnt=0))) (TL h9.1 (by rw [eF hA7.size n8];simp) rfl) ?_
 rw [h9.2.1]
 have hA9:=hA8.put q9 r9 n9 (.bool (!decide (mm.cnt=0)))
 refine wpList_nil ?_
 simp only [Exit.then]
 refine wp_cond_split (t:=!decide (mm.cnt=0)) (by rw [eF hA8.size n9];simp) (fun h=>?_) (fun h=>wp_skip ?_)
 ·have:(l.all fun x=>decide (x.cnt=0))=false:=by
   rw [List.all_eq_false];exact ⟨mm,MM,by simpa using h⟩
  refine wp_mono (aa3 this w3 _ (exw Wp) (hA9.fr Wp hro hF.cx hkv)) ?_
  rintro e a9 w9 ⟨rfl,hl⟩
  exact hl
 have hz:mm.cnt=0:=by simpa using h
 simp only [Exit.inBlock,Exit.then]
 refine ⟨n3',hlt,hA9,Wp,_,aa6,?_,?_⟩
 ·intro x hx
  simp only [Bool.and_eq_true] at hx
  exact hl1 x hx.1
 intro m hm hx
 simp only [Bool.and_eq_false_iff] at hx
 rcases hx with hx|hx
 ·exact oP m hm hx
 have hj:m.bB=mm.bB:=by simpa [Lit.sameKey] using hx
 have h1:=SJ m hm .nil
 rw [hj,SJ mm MM .nil] at h1
 simp only [DataW.lit.injEq,Lit.int.injEq,true_and] at h1
 rw [←h1];exact hz
end
end Dem
end
section
open Go Dem Go.Proofs
namespace Dem
theorem fcM {t:Th} (ht:TT t) (k:Nat) {f N:Nat} {fn:Func} {c:Code} {args:List AV} {aF:List ar} {res:ff} (hf:Tryz.prog.funcs[f]?=some fn) (hb:fn.body=some c)
 (hname:(fn.name== "runtime.NumGoroutine")=false) (hN:fn.ntmps=N) {rs:List ResultVar} (D9:fn.results.toList=rs) (hlen:Nat.ble args.length N=true)
 {i0 i1 i2 i3 B B2 m d1 d2 d3 d4 d5 d6 d7 d8 d9 q ty tz:Nat} {t':TypeId} {kv:AV} {o1 o2 o3 o4 o5 o6 o7 o8 o9:Oper} {Xe:Code} {post:List Code}
 (hc:(flat c).drop k=.region i0 ⟨[o1,o2]⟩ false::.block B (.loop (.seq (.region i1 ⟨[o3,o4]⟩ false) (.seq (.cond (.tmp d4) .skip (.exit B)) (.block B2 (.seq (.region i2 ⟨[o5,o6,o7]⟩ false) (.seq (.region i3 ⟨[o8,o9]⟩ false) (.cond (.tmp d9) Xe .skip)))))))::post)
 (hd:d1≠q∧d2≠q∧d3≠q∧d4≠q∧d5≠q∧d6≠q∧d7≠q∧d8≠q∧d9≠q) (hNd:d1<N∧d2<N∧d3<N∧d4<N∧d5<N∧d6<N∧d7<N∧d8<N∧d9<N) (hr:d3≠d2∧d4≠d2∧d5≠d2∧d6≠d2∧d7≠d2∧d8≠d2∧d9≠d2)
 (h1:o1.op=.move (.tmp m)∧o1.dst=some d1∧o1.guard=none) (h2:o2.op=.range ty (.tmp d1)∧o2.dst=some d2∧o2.guard=none) (h3:o3.op=.next (.tmp d2) false∧o3.dst=some d3∧o3.guard=none) (h4:o4.op=.extract (.tmp d3) 0∧o4.dst=some d4∧o4.guard=none)
 (h5:o5.op=.entry (.tmp d2)∧o5.dst=some d5∧o5.guard=none) (h6:o6.op=.extract (.tmp d5) 1∧o6.dst=some d6∧o6.guard=none) (h7:o7.op=.assign (.tmp d6)∧o7.dst=some d7∧o7.guard=none) (h8:o8.op=.move (.tmp d7)∧o8.dst=some d8∧o8.guard=none)
 (h9:o9.op=.binOp .neq tz (.tmp d8) (.const (.int .i64 0)) t'∧o9.dst=some d9∧o9.guard=none) (Vi:Tryz.prog.underlying ty=some (.map 23 3))
 (h:AS t FC tT gl N 0 ((flat c).take k) (fun e s=>match e with
  |.normal=>fP q s.sl=kv∧K0 s.bx (fP m s.sl) (AS t FC tT gl N 0 post (jB t tT rs 0 res aF) ⟨[(q,kv)],s.bx⟩) (qP t FC tT gl N 0 Xe (fun e s=>match e with|.ret=>jB t tT rs 0 res aF .ret s|_=>False) ⟨[(q,kv)],s.bx⟩)
  |e=>jB t tT rs 0 res aF e s) ⟨gm 0 args,[]⟩):FC f args [] res aF:=by
 subst D9
 have e:=ht.eq
 subst e
 refine rD JF nF hf hb hname hN hlen (List.take_append_drop k (flat c)).symm (fun s=>fP q s.sl=kv∧K0 s.bx (fP m s.sl) _ _) (fun X β0 w0 β w s a ex hF hR=>?_) h
 rw [hc]
 obtain ⟨hq,b,l,es,g1,g2,g3,g4,g5,g6⟩:=hR
 refine TM hd hNd hr h1 h2 h3 h4 h5 h6 h7 h8 h9 Vi ex hF hq ⟨b,l,es,g1,g2,g3,g4,fun hg w' a' oD Sq=>?_,fun hg w' a' oD Sq=>?_⟩
 ·exact fI JF nF (Nat.le_refl _) post _ β w' ⟨[(q,kv)],s.bx⟩ a' oD Sq (g5 hg)
 refine wp_mono (eY JF nF (Nat.le_refl _) Xe _ β w' ⟨[(q,kv)],s.bx⟩ a' oD Sq (g6 hg)) ?_
 intro e a w hl
 cases e<;>simp only [dY] at hl
 ·obtain ⟨_,_,_,_,h⟩:=hl;exact h.elim
 ·obtain ⟨_,_,_,_,h⟩:=hl;exact h.elim
 ·exact ⟨rfl,hl⟩
 obtain ⟨_,_,_,_,_,_,_,_,_,h⟩:=hl;exact h.elim
end Dem
end
section
open Go Dem Go.Proofs
namespace Dem
variable {t:Th}
theorem DO (j:Int):∀(l:List gi),(wi (l.map gi.cells) (.int .u64 j)=none∧eZ l j=0)∨(wi (l.map gi.cells) (.int .u64 j)=some [.int .i64 (eZ l j)]∧j∈l.map gi.bB∧∃m∈l,eZ l j=m.cnt)
 |[]=>.inl ⟨rfl,rfl⟩
 |m::l=>by
  simp only [List.map_cons,gi.cells,wi,pM]
  by_cases h:j=m.bB
  ·subst h
   have e:eZ (m::l) m.bB=m.cnt:=by simp [eZ]
   rw [e];exact .inr ⟨by simp,by simp,m,by simp,rfl⟩
  have h2:¬m.bB=j:=fun e=>h e.symm
  have e:eZ (m::l) j=eZ l j:=by simp [eZ,h2]
  rw [e]
  simp only [h,decide_false]
  rcases DO j l with ⟨a,b⟩|⟨a,b,m',c,d⟩
  ·exact .inl ⟨by simpa using a,b⟩
  exact .inr ⟨by simpa using a,by simp [b],m',by simp [c],d⟩
theorem Iz {u:List (List D)} {l:List gi} (hu:u=l.map gi.cells) {j:Int} {c:Prop} {o:Option (List D)} {K:Option (List D)→Prop} (hc:c) (ho:o=wi u (.int .u64 j)) (h0:eZ l j=0→K none) (h1:∀x,x=eZ l j→j∈l.map gi.bB→(∃m∈l,x=m.cnt)→K (some [.int .i64 x])):IY true c o K:=by
 subst hu
 rcases DO j l with ⟨a,b⟩|⟨a,b,d⟩
 ·exact ⟨none,fun _=>⟨hc,ho.trans a⟩,h0 b⟩
 exact ⟨_,fun _=>⟨hc,ho.trans a⟩,h1 _ rfl b d⟩
theorem vX {u:List (List D)} {l:List gi} (hu:u=l.map gi.cells):∀r∈u,rowIs (.int .u64) 1 r:=by
 subst hu;intro r hr;obtain ⟨m,_,rfl⟩:=List.mem_map.1 hr;exact ⟨_,_,rfl,rfl,rfl⟩
def vY (m:List gi) (j:Jb):List gi:=if j.runs then eM m j.id j.x.count else m
theorem uv {l:List Jb} {k:Nat} {x:Jb} (h:l[k]?=some x):iY (l.take (k+1))=vY (iY (l.take k)) x:=by
 unfold iY;rw [lZ h,List.foldl_append];rfl
structure K1 (l:List Jb) (w:List gi):Prop where
 nodup:(w.map gi.bB).Nodup
 bB:∀m∈w,∃j∈l,m.bB=j.id
 cnt:∀m∈w,m.cnt<9223372036854775808
 len:w.length≤l.length
theorem pH {l:List gi} {j c:Int} {m:gi} (h:m∈eM l j c):m=⟨j,c⟩∨m∈l:=by
 induction l with
 |nil=>simp [eM] at h;exact .inl h
 |cons x l ih=>
  unfold eM at h
  split at h
  ·rcases List.mem_cons.1 h with h|h
   ·exact .inl h
   exact .inr (by simp [h])
  rcases List.mem_cons.1 h with h|h
  ·exact .inr (by simp [h])
  rcases ih h with h|h
  ·exact .inl h
  exact .inr (by simp [h])
theorem K2 (l:List gi) (j c:Int):(eM l j c).length≤l.length+1:=by
 have:=congrArg List.length (kL l j c)
 rw [lgM] at this
 rw [this];split<;>simp
theorem IA (L:List Jb) (hc:∀x∈L,x.x.count<9223372036854775808):∀k≤L.length,K1 L (iY (L.take k))∧(iY (L.take k)).length≤k
 |0,_=>⟨⟨by simp [iY],by simp [iY],by simp [iY],by simp [iY]⟩,by simp [iY]⟩
 |k+1,hk=>by
  obtain ⟨⟨a1,a2,a3,a4⟩,a5⟩:=IA L hc k (by omega)
  obtain ⟨x,hx⟩:∃x,L[k]?=some x:=⟨_,List.getElem?_eq_getElem (by omega)⟩
  have nO:=List.mem_of_getElem? hx
  rw [uv hx]
  unfold vY
  split
  ·have:=K2 (iY (L.take k)) x.id x.x.count
   refine ⟨⟨pn a1 _ _,fun m hm=>?_,fun m hm=>?_,by omega⟩,by omega⟩
   ·rcases pH hm with rfl|hm
    ·exact ⟨x,nO,rfl⟩
    exact a2 m hm
   rcases pH hm with rfl|hm
   ·exact hc x nO
   exact a3 m hm
  exact ⟨⟨a1,a2,a3,a4⟩,by omega⟩
theorem Re {L:List Jb} {w W:List gi} (h:w.map gi.bB=W.map gi.bB) (hW:K1 L W) (hid:∀x∈L,0≤x.id∧x.id<18446744073709551616) (hl:L.length<1000000):Ra w where
 nodup:=by rw [h];exact hW.nodup
 bB:=fun m hm=>by
  have:m.bB∈W.map gi.bB:=by rw [←h];exact List.mem_map_of_mem hm
  obtain ⟨m',hm',e⟩:=List.mem_map.1 this
  obtain ⟨j,hj,e2⟩:=hW.bB m' hm'
  rw [←e,e2];exact hid j hj
 len:=by have:=congrArg List.length h;simp at this;have:=hW.len;omega
theorem NZ (ht:TT t) (rd nx ef af:Int) {nl:List Node} {pl:List Place} {tl:List aQ} {jl:List Jb} {ql:List bZ} {el al:List cF} {ns ps ts js qs es dm:List (List D)} (gR:ns=nl.map Node.cells) (hps:ps=pl.map Place.cells) (hts:ts=tl.map aQ.cells) (fU:js=jl.map Jb.cells) (fG:qs=ql.map bZ.cells) (aD:es=el.map cF.cells) (has:dm=al.map cF.cells) (hid:∀x∈jl,(0≤x.id∧x.id<18446744073709551616)∧x.x.count<9223372036854775808) (hjl:jl.length<1000000) (pO:pl.length<1000000):
 FC 44 [.agg [ax rd,ax nx,SL ns,SL ps,SL ts,SL js,SL qs,ax ef,SL es,ax af,SL dm]] [] (.ret (cu (t _ fun _=>lF ⟨rd,nx,⟨nl,pl⟩,tl,jl,ql,⟨ef,el⟩,⟨af,al⟩⟩))) []:=by
 refine fcM ht 6 Tryz.func44 rfl rfl (N:=74) rfl rfl rfl (q:=2) (kv:=.d (.bool false)) rfl (by decide) (by decide) (by decide) ⟨rfl,rfl,rfl⟩ ⟨rfl,rfl,rfl⟩ ⟨rfl,rfl,rfl⟩ ⟨rfl,rfl,rfl⟩ ⟨rfl,rfl,rfl⟩ ⟨rfl,rfl,rfl⟩ ⟨rfl,rfl,rfl⟩ ⟨rfl,rfl,rfl⟩ ⟨rfl,rfl,rfl⟩ Tryz.underlying183 ?_
 cbv
 have fc:ns.length=nl.length:=by rw [gR,lgM]
 have fA:ps.length=pl.length:=by rw [hps,lgM]
 have fT:ts.length=tl.length:=by rw [hts,lgM]
 have dj:js.length=jl.length:=by rw [fU,lgM]
 have dL:qs.length=ql.length:=by rw [fG,lgM]
 have av:es.length=el.length:=by rw [aD,lgM]
 have dP:dm.length=al.length:=by rw [has,lgM]
 obtain ⟨J0,ee⟩:∃J0:Nat→Int×List (List D)→Prop,∀n i u,J0 n (i,u)↔(∃(k:Nat),i=k∧k+n=jl.length∧u=(iY (jl.take k)).map gi.cells):=⟨fun n v=>match v with|(i,u)=>(∃(k:Nat),i=k∧k+n=jl.length∧u=(iY (jl.take k)).map gi.cells),fun _ _ _=>Iff.rfl⟩
 refine bg ⟨[1,2,3,15,16,17],[],[]⟩ (σ:=Int×List (List D)) (fun v=>[(17,.d (.int .i64 (t _ fun _=>v.1)))]) (fun v=>[(1,.mp false (t _ fun _=>v.2))]) J0 ?_
 cbv
 refine aC ⟨jl.length,(_,_),(ee _ _ _).2 ?_,by simp only [ht];rfl,?_⟩
 ·exact ⟨0,rfl,by simp,by simp [iY]⟩
 rintro n ⟨i,u⟩ hj
 replace hj:=(ee _ _ _).1 hj
 obtain ⟨k,rfl,q1,q6⟩:=hj
 cbv
 refine ai (fun h1=>?_) (fun h1=>?_)
 ·simp [ht,aa,dj] at h1
  cbv
  refine dS ht fU (cT:=Jb.aK t) (by (simp only [ht,aa];omega)) (by (simp only [ht,aa];omega)) (fun _=>rfl) (fun _=>(by (simp only [ht,Jb.aK];rfl))) (fun x2 iC=>?_)
  simp [ht,aa] at iC
  cbv
  refine ai (fun h3=>?_) (fun h3=>?_)
  ·cbv
   refine ⟨?_,?_⟩
   ·(simp only [ht];exact ⟨⟨rfl,rfl,vX q6⟩,trv⟩)
   cbv
   refine bu (_,_) (by simp only [ht];rfl) (n-1) ?_ ((ee _ _ _).2 ?_)
   ·omega
   simp only [aa]
   (exact ⟨k+1,aE (by omega),by omega,by rw [uv iC,vY,q6,Bc,if_pos h3]⟩)
  cbv
  refine bu (_,_) (by simp only [ht];rfl) (n-1) ?_ ((ee _ _ _).2 ?_)
  ·omega
  simp only [aa]
  (exact ⟨k+1,aE (by omega),by omega,by rw [uv iC,vY,q6,if_neg (by simp [h3])]⟩)
 simp [ht,aa,dj] at h1
 cbv
 obtain ⟨W,hW⟩:∃W,W=iY jl:=⟨_,rfl⟩
 have hw0:jl.length≤k→iY (jl.take k)=W:=fun h=>by rw [hW,List.take_of_length_le h]
 have hWo:K1 jl W:=by have:=(IA jl (fun x hx=>(hid x hx).2) jl.length (Nat.le_refl _)).1;rw [List.take_length,←hW] at this;exact this
 obtain ⟨J4,FB⟩:∃J4:Nat→Bool×Int×List (List D)→Prop,∀m rb i u,J4 m (rb,i,u)↔(rb=false∧∃(k:Nat) (w:List gi),i=k∧k+m=pl.length∧u=w.map gi.cells∧w.map gi.bB=W.map gi.bB∧(∀x∈w,x.cnt<9223372036854775808)∧gG jl pl W=gG jl (pl.drop k) w):=⟨fun m v=>match v with|(rb,i,u)=>(rb=false∧∃(k:Nat) (w:List gi),i=k∧k+m=pl.length∧u=w.map gi.cells∧w.map gi.bB=W.map gi.bB∧(∀x∈w,x.cnt<9223372036854775808)∧gG jl pl W=gG jl (pl.drop k) w),fun _ _ _ _=>Iff.rfl⟩
 refine bg ⟨[1,2,3,33,34,35],[],[]⟩ (σ:=Bool×Int×List (List D)) (fun v=>[(2,.d (.bool (t _ fun _=>v.1))),(35,.d (.int .i64 (t _ fun _=>v.2.1)))]) (fun v=>[(1,.mp false (t _ fun _=>v.2.2))]) J4 ?_
 cbv
 refine aC ⟨pl.length,(_,_,_),(FB _ _ _ _).2 ?_,by simp only [ht];rfl,?_⟩
 ·exact ⟨rfl,0,W,rfl,by simp,by rw [q6,hw0 (by omega)],rfl,hWo.cnt,rfl⟩
 rintro m ⟨rb,i,u⟩ hj
 replace hj:=(FB _ _ _ _).1 hj
 obtain ⟨q0,k,w,rfl,q1,q6,q7,q8,q9⟩:=hj
 have Mb:u.length=w.length:=by rw [q6,lgM]
 cbv
 refine ai (fun h5=>?_) (fun h5=>?_)
 ·simp [ht,aa,fA] at h5
  cbv
  refine dS ht hps (cT:=Place.aK t) (by (simp only [ht,aa];omega)) (by (simp only [ht,aa];omega)) (fun _=>rfl) (fun _=>rfl) (fun x6 mx6=>?_)
  simp [ht,aa] at mx6
  rw [bV mx6,gG] at q9
  cbv
  refine aU trv (rB ht _ _ _ _ _ _ _ _ _ _ _ ‹_› (by omega)) trv rfl rfl rfl (fun r7 gE=>?_)
  simp only [ht] at gE
  rw [←gE] at q9
  cbv
  (refine Iz q6 (by simp only [ht];exact ⟨rfl,rfl,vX q6⟩) (by simp only [ht]<;>rfl) (fun w9=>?_) (fun c9 w9 Zw Zx=>?_))
  ·cbv
   iterate 6 refine gI (by simp [ht]) ?_
   refine pI (by simp [ht]) ?_
   refine ai (fun h8=>?_) (fun h8=>?_)
   ·simp [ht] at h8
    cbv
    refine ak trv trv rfl rfl rfl ?_
    (have e:gG jl pl W=none:=(by rw [q9,if_pos (by omega)]);simp only [ht,lF,←hW,e];done)
   simp [ht] at h8
  cbv
  iterate 6 refine gI (by simp [ht]) ?_
  refine pI (by simp [ht]) ?_
  refine ai (fun h9=>?_) (fun h9=>?_)
  ·simp [ht] at h9
   cbv
   refine ak trv trv rfl rfl rfl ?_
   (have e:gG jl pl W=none:=(by rw [q9];split;rfl;rw [if_pos];rw [nG];rcases h9 with h9|h9;(exfalso;omega);(intro hh;simp [hh] at h9));simp only [ht,lF,←hW,e];done)
  simp [ht] at h9
  cbv
  (refine Iz q6 (by simp only [ht];exact ⟨rfl,rfl,vX q6⟩) (by simp only [ht]<;>rfl) (fun w9=>?_) (fun c9 w9 Zw Zx=>?_))
  ·cbv
   refine ⟨?_,?_⟩
   ·(simp only [ht];exact ⟨⟨rfl,rfl,vX q6⟩,trv⟩)
   cbv
   refine bu (_,_,_) (by simp only [ht];rfl) (m-1) ?_ ((FB _ _ _ _).2 ?_)
   ·omega
   simp only [aa]
   (refine ⟨q0,k+1,eM w (x6).bB (c9-1),aE (by omega),by omega,?_,?_,?_,?_⟩)
   ·(simp_all;done)
   ·(rw [kL,if_pos Zw,q7];done)
   ·(intro y hy;obtain ⟨mm,MM,em⟩:=Zx;have hq8:=q8 mm MM;rcases pH hy with rfl|hy;(show c9-1<_;omega);exact q8 y hy)
   (simp_all;done)
  cbv
  refine ⟨?_,?_⟩
  ·(simp only [ht];exact ⟨⟨rfl,rfl,vX q6⟩,trv⟩)
  cbv
  refine bu (_,_,_) (by simp only [ht];rfl) (m-1) ?_ ((FB _ _ _ _).2 ?_)
  ·omega
  simp only [aa]
  (refine ⟨q0,k+1,eM w (x6).bB (c9-1),aE (by omega),by omega,?_,?_,?_,?_⟩)
  ·(obtain ⟨mm,MM,em⟩:=Zx;have hq8:=q8 mm MM;rw [q6,Bc,wrap64 (by omega) (by omega)];done)
  ·(rw [kL,if_pos Zw,q7];done)
  ·(intro y hy;obtain ⟨mm,MM,em⟩:=Zx;have hq8:=q8 mm MM;rcases pH hy with rfl|hy;(show c9-1<_;omega);exact q8 y hy)
  (rw [q9,if_neg (by omega),if_neg (by rw [nG];simp [h9.2]),w9];done)
 simp [ht,aa,fA] at h5
 cbv
 refine ⟨?_,?_⟩
 ·(simp [ht];omega)
 cbv
 (refine ⟨1,w,_,rfl,rfl,by simp only [ht];exact q6,Re q7 hWo (fun x hx=>(hid x hx).1) hjl,fun hg=>?_,fun hg=>?_⟩)
 ·cbv
  refine ak trv trv rfl rfl rfl ?_
  (rw [List.drop_eq_nil_of_le (by omega),gG] at q9;simp only [ht,lF,←hW,q9,hg];done)
 cbv
 refine ak trv trv rfl rfl rfl ?_
 (rw [List.drop_eq_nil_of_le (by omega),gG] at q9;simp only [ht,lF,←hW,q9,hg];done)
theorem IB (ht:TT t) (a b:Int) {l:List bZ} {es:List (List D)} (aD:es=l.map bZ.cells) (hl:l.length<1000000000):
 FC 162 [SL es,.agg [ax a,bc b]] [] (.ret (mR (t _ fun _=>H9 (⟨a,b⟩:bZ) l))) []:=by
 refine bA ht (aB:=[]) Tryz.func162 rfl rfl (N:=19) rfl rfl (n:=0) rfl rfl ?_
 cbv
 have av:es.length=l.length:=by rw [aD,lgM]
 obtain ⟨J0,ee⟩:∃J0:Nat→Int→Prop,∀n i,J0 n i↔(∃k:Nat,i=k∧k+n=l.length∧∀i<k,∀y,l[i]?=some y→(⟨a,b⟩:bZ)≠y):=⟨fun n v=>match v with|i=>(∃k:Nat,i=k∧k+n=l.length∧∀i<k,∀y,l[i]?=some y→(⟨a,b⟩:bZ)≠y),fun _ _=>Iff.rfl⟩
 refine bg ⟨[0,3,7,8],[],[]⟩ (σ:=Int) (fun v=>[(8,.d (.int .i64 (t _ fun _=>v)))]) (fun v=>[]) J0 ?_
 cbv
 refine aC ⟨l.length,_,(ee _ _).2 ?_,by simp only [ht];rfl,?_⟩
 ·exact ⟨0,rfl,by simp,fun i hi=>by omega⟩
 rintro n i hj
 replace hj:=(ee _ _).1 hj
 obtain ⟨k,rfl,j1,j4⟩:=hj
 cbv
 refine ai (fun h1=>?_) (fun h1=>?_)
 ·simp [ht,aa,av] at h1
  cbv
  refine bS [false,false,false,false,false,true] (by kernel_rfl) (by kernel_rfl) ?_
  cbv
  iterate 3 refine gI (by simp) ?_
  refine dS ht aD (cT:=bZ.aK t) (by (simp only [ht,aa];omega)) (by (simp only [ht,aa];omega)) (fun _=>rfl) (fun _=>rfl) (fun x2 iC=>?_)
  simp [ht,aa] at iC
  cbv
  refine gI (by simp) ?_
  refine ai (fun h3=>?_) (fun h3=>?_)
  ·simp [ht] at h3
   cbv
   refine ak trv trv rfl rfl rfl ?_
   (simp only [ht];rw [EZ iC (by rw [KU];simp_all) j4];done)
  simp [ht] at h3
  cbv
  refine bu _ (by simp only [ht];rfl) (n-1) ?_ ((ee _ _).2 ?_)
  ·omega
  simp only [aa]
  exact ⟨k+1,aE (by omega),by omega,w8 j4 iC (by rw [ne_eq,KU];simp_all)⟩
 simp [ht,aa,av] at h1
 cbv
 refine ak trv trv rfl rfl rfl ?_
 (simp only [ht];rw [E0 (by omega) j4];done)
theorem N0 (ht:TT t) (a b:Int) {l:List bZ} {es:List (List D)} (aD:es=l.map bZ.cells) (hl:l.length<1000000000):
 FC 109 [SL es,.agg [ax a,bc b]] [] (.ret (cu (t _ fun _=>l.contains ⟨a,b⟩))) []:=by
 refine bA ht (aB:=[]) Tryz.func109 rfl rfl (N:=9) rfl rfl (n:=0) rfl rfl ?_
 cbv
 have av:es.length=l.length:=by rw [aD,lgM]
 refine ay trv (IB ht _ _ ‹_› ‹_›) trv rfl rfl (fun r0 bF=>?_)
 simp only [ht] at bF
 cbv
 refine ak trv trv rfl rfl rfl ?_
 (simp [ht,bF,BD];done)
def kV (l:List Jb) (k:Nat):Option Int:=match k with
 |0=>none
 |k+1=>(l[k]?).map (·.id)
theorem TN {s:cJ} {l:List Jb} {k:Nat} {y:Jb} (hy:0<k→l[k-1]?=some y) (j:Jb):UN s (kV l k) j=
 (if ((((decide (j.id<1)||decide (s.next≤j.id))||(decide (0<k)&&decide (j.id≤y.id)))||!decide (cI j.x=0))||!gz s.tree j.x.path)=true then false else
  if j.runs then decide (1≤j.left)&&decide (j.left≤j.x.dO) else decide (j.left=0)&&s.queue.contains ⟨j.id,j.x.prio⟩):=by
 unfold UN
 cases k with
 |zero=>
  simp only [kV]
  by_cases a:j.id<1
  ·simp [a]
  by_cases b:s.next≤j.id
  ·simp [a,b]
  by_cases c:cI j.x=0
  ·cases d:gz s.tree j.x.path<;>simp [a,b,c]
  simp [a,b,c]
 |succ k=>
  have hy:=hy (by omega)
  simp only [Nat.add_sub_cancel] at hy
  simp only [kV,hy,Option.map_some]
  by_cases a:j.id<1
  ·simp [a]
  by_cases b:s.next≤j.id
  ·simp [a,b]
  by_cases e:j.id≤y.id
  ·simp [a,b,e]
  by_cases c:cI j.x=0
  ·cases d:gz s.tree j.x.path<;>simp [a,b,c,e]
  simp [a,b,c,e]
theorem Wq (ht:TT t) (rd nx ef af:Int) {nl:List Node} {pl:List Place} {tl:List aQ} {jl:List Jb} {ql:List bZ} {el al:List cF} {ns ps ts js qs es dm:List (List D)} (gR:ns=nl.map Node.cells) (hps:ps=pl.map Place.cells) (hts:ts=tl.map aQ.cells) (fU:js=jl.map Jb.cells) (fG:qs=ql.map bZ.cells) (aD:es=el.map cF.cells) (has:dm=al.map cF.cells) {z:Int} (k:Nat) (hz:z=k) (hk:k<jl.length) (ji ja jb jc jd jn jp jt jf:Int) (jq:aA) (jr:Bool) {gL:List Term} {pW:List (List D)} (jw:pW=gL.map Term.cells) (hx:(⟨jq,⟨ja,jb,jc,jd⟩,jn,jp,jt,gL⟩:Ask).sm) (htl:tl.length<100000) (hjl:jl.length<1000000) (UU:ql.length<1000000):
 FC 42 [.agg [ax rd,ax nx,SL ns,SL ps,SL ts,SL js,SL qs,ax ef,SL es,ax af,SL dm],bc z,.agg [ax ji,ST jq,ax ja,ax jb,ax jc,ax jd,bc jn,bc jp,bc jt,SL pW,BL jr,bc jf]] [] (.ret (cu (t _ fun _=>UN ⟨rd,nx,⟨nl,pl⟩,tl,jl,ql,⟨ef,el⟩,⟨af,al⟩⟩ (kV jl k) ⟨ji,⟨jq,⟨ja,jb,jc,jd⟩,jn,jp,jt,gL⟩,jr,jf⟩))) []:=by
 subst hz
 obtain ⟨h1,h2,h3,h4⟩:=id hx
 simp only at h1 h2 h3 h4
 obtain ⟨y,hy⟩:∃y,0<k→jl[k-1]?=some y:=⟨jl.getD (k-1) Jb.zero,fun _=>by rw [List.getD_eq_getElem?_getD,List.getElem?_eq_getElem (by omega)];rfl⟩
 rw [TN hy]
 refine bA ht (aB:=[]) Tryz.func42 rfl rfl (N:=79) rfl rfl (n:=0) rfl rfl ?_
 cbv
 have fc:ns.length=nl.length:=by rw [gR,lgM]
 have fA:ps.length=pl.length:=by rw [hps,lgM]
 have fT:ts.length=tl.length:=by rw [hts,lgM]
 have dj:js.length=jl.length:=by rw [fU,lgM]
 have dL:qs.length=ql.length:=by rw [fG,lgM]
 have av:es.length=el.length:=by rw [aD,lgM]
 have dP:dm.length=al.length:=by rw [has,lgM]
 have pG:pW.length=gL.length:=by rw [jw,lgM]
 refine bS [true,true,true,true,false,false,false,false,false,true,true,true,true,true,true,false,false,false,false,false,false,false,false,false,false,true,true,true,true,true,true,true,true,true,true,false,false,false,false,false,false,true,true,true] (by kernel_rfl) (by kernel_rfl) ?_
 cbv
 iterate 6 refine gI (by simp [ht]) ?_
 refine pI (by simp [ht]) ?_
 iterate 10 refine gI (by simp [ht]) ?_
 (refine Hh ht fU (cT:=Jb.aK t) (k-1) (fun g=>by simp [ht] at g ⊢;simp [g]) (fun g=>by simp [ht] at g;simp only [ht];exact ⟨vv (by omega) (by omega),by omega⟩) (fun _=>rfl) (fun _=>by simp only [ht,Jb.aK];rfl) (fun y9 my=>?_);simp [ht] at my)
 cbv
 iterate 3 refine gI (by simp [ht]) ?_
 refine gI (by simp [ht,bq];intros;simp_all) ?_
 refine pI (by simp [ht]) ?_
 iterate 2 refine gI (by simp [ht]) ?_
 refine aJ (fun g0=>⟨by simp [ht] at g0 ⊢;exact g0,trv,j9 ht _ _ _ _ _ _ _ _ ‹_› ‹_›⟩) rfl rfl (fun r1 eb=>?_)
 simp only [ht] at eb
 cbv
 refine gI (by simp [ht]) ?_
 refine pI (by simp [ht];omega) ?_
 iterate 6 refine gI (by simp [ht]) ?_
 refine aJ (fun g2=>⟨by simp [ht] at g2 ⊢;exact g2,trv,xe ht _ ‹_› (by omega) ‹_›⟩) rfl rfl (fun r3 gQ=>?_)
 simp only [ht] at gQ
 cbv
 refine gI (by simp [ht]) ?_
 refine pI (by simp [ht];omega) ?_
 refine ai (fun h4=>?_) (fun h4=>?_)
 ·simp [ht] at h4
  cbv
  refine ak trv trv rfl rfl rfl ?_
  (simp only [ht];grind)
 simp [ht] at h4
 cbv
 refine ai (fun h5=>?_) (fun h5=>?_)
 ·cbv
  iterate 6 refine gI (by simp [ht]) ?_
  refine pI (by simp [ht]) ?_
  refine ak trv trv rfl rfl rfl ?_
  (simp only [ht];grind)
 cbv
 iterate 9 refine gI (by simp [ht]) ?_
 refine aJ (fun g6=>⟨by simp [ht] at g6 ⊢;exact g6,trv,N0 ht _ _ ‹_› (by omega)⟩) rfl rfl (fun r7 gE=>?_)
 simp only [ht] at gE
 cbv
 refine pI (by simp [ht]) ?_
 refine ak trv trv rfl rfl rfl ?_
 (simp only [ht];grind)
theorem N1 {l:List Jb} {k:Nat} {x:Jb} (h:l[k]?=some x):gA (l.drop k)=(if x.runs then 0 else 1)+gA (l.drop (k+1)):=by
 rw [bV h]
 unfold gA
 cases hx:x.runs<;>simp [hx];omega
theorem Rf (ht:TT t) (rd nx ef af:Int) {nl:List Node} {pl:List Place} {tl:List aQ} {jl:List Jb} {ql:List bZ} {el al:List cF} {ns ps ts js qs es dm:List (List D)} (gR:ns=nl.map Node.cells) (hps:ps=pl.map Place.cells) (hts:ts=tl.map aQ.cells) (fU:js=jl.map Jb.cells) (fG:qs=ql.map bZ.cells) (aD:es=el.map cF.cells) (has:dm=al.map cF.cells) (hjl:jl.length<1000000):
 FC 43 [.agg [ax rd,ax nx,SL ns,SL ps,SL ts,SL js,SL qs,ax ef,SL es,ax af,SL dm]] [] (.ret (mR (t _ fun _=>(gA jl:Int)))) []:=by
 refine bA ht (aB:=[]) Tryz.func43 rfl rfl (N:=21) rfl rfl (n:=0) rfl rfl ?_
 cbv
 have fc:ns.length=nl.length:=by rw [gR,lgM]
 have fA:ps.length=pl.length:=by rw [hps,lgM]
 have fT:ts.length=tl.length:=by rw [hts,lgM]
 have dj:js.length=jl.length:=by rw [fU,lgM]
 have dL:qs.length=ql.length:=by rw [fG,lgM]
 have av:es.length=el.length:=by rw [aD,lgM]
 have dP:dm.length=al.length:=by rw [has,lgM]
 obtain ⟨J0,ee⟩:∃J0:Nat→Int×Int→Prop,∀n c i,J0 n (c,i)↔(∃k w:Nat,i=k∧c=w∧k+n=jl.length∧w≤k∧gA jl=w+gA (jl.drop k)):=⟨fun n v=>match v with|(c,i)=>(∃k w:Nat,i=k∧c=w∧k+n=jl.length∧w≤k∧gA jl=w+gA (jl.drop k)),fun _ _ _=>Iff.rfl⟩
 refine bg ⟨[3,8,9,10],[],[]⟩ (σ:=Int×Int) (fun v=>[(3,.d (.int .i64 (t _ fun _=>v.1))),(10,.d (.int .i64 (t _ fun _=>v.2)))]) (fun v=>[]) J0 ?_
 cbv
 refine aC ⟨jl.length,(_,_),(ee _ _ _).2 ?_,by simp only [ht];rfl,?_⟩
 ·exact ⟨0,0,rfl,rfl,by simp,by omega,by simp⟩
 rintro n ⟨c,i⟩ hj
 replace hj:=(ee _ _ _).1 hj
 obtain ⟨k,w,rfl,rfl,j1,j2,j4⟩:=hj
 cbv
 refine ai (fun h1=>?_) (fun h1=>?_)
 ·simp [ht,aa,dj] at h1
  cbv
  refine dS ht fU (cT:=Jb.aK t) (by (simp only [ht,aa];omega)) (by (simp only [ht,aa];omega)) (fun _=>rfl) (fun _=>(by (simp only [ht,Jb.aK];rfl))) (fun x2 iC=>?_)
  simp [ht,aa] at iC
  rw [N1 iC] at j4
  cbv
  refine ai (fun h3=>?_) (fun h3=>?_)
  ·simp [ht] at h3
   cbv
   refine bu (_,_) (by simp only [ht];rfl) (n-1) ?_ ((ee _ _ _).2 ?_)
   ·omega
   simp only [aa]
   (exact ⟨k+1,w+1,aE (by omega),aE (by omega),by omega,by omega,by rw [j4];simp [*];omega⟩)
  simp [ht] at h3
  cbv
  refine bu (_,_) (by simp only [ht];rfl) (n-1) ?_ ((ee _ _ _).2 ?_)
  ·omega
  simp only [aa]
  (exact ⟨k+1,w,aE (by omega),rfl,by omega,by omega,by rw [j4];simp [*]⟩)
 simp [ht,aa,dj] at h1
 cbv
 refine ak trv trv rfl rfl rfl ?_
 (rw [List.drop_eq_nil_of_le (by omega)] at j4;simp only [ht];rw [j4];simp [gA];done)
theorem Rg (ht:TT t) (rd nx ef af:Int) {nl:List Node} {pl:List Place} {tl:List aQ} {jl:List Jb} {ql:List bZ} {el al:List cF} {ns ps ts js qs es dm:List (List D)} (gR:ns=nl.map Node.cells) (hps:ps=pl.map Place.cells) (hts:ts=tl.map aQ.cells) (fU:js=jl.map Jb.cells) (fG:qs=ql.map bZ.cells) (aD:es=el.map cF.cells) (has:dm=al.map cF.cells) (p:aA) (a b c d e f g h:Int) (hjl:jl.length<1000000) (gD:∀x∈jl,x.x.path.length<1000000000000∧x.x.fZ.u'):
 FC 47 [.agg [ax rd,ax nx,SL ns,SL ps,SL ts,SL js,SL qs,ax ef,SL es,ax af,SL dm],.agg [ST p,ax a,ax b,ax c,ax d,ax e,ax f,ax g,ax h]] [] (.ret (cu (t _ fun _=>pU ⟨rd,nx,⟨nl,pl⟩,tl,jl,ql,⟨ef,el⟩,⟨af,al⟩⟩ ⟨p,⟨a,b,c,d⟩,⟨e,f,g,h⟩⟩))) []:=by
 refine bA ht (aB:=[]) Tryz.func47 rfl rfl (N:=61) rfl rfl (n:=0) rfl rfl ?_
 cbv
 have fc:ns.length=nl.length:=by rw [gR,lgM]
 have fA:ps.length=pl.length:=by rw [hps,lgM]
 have fT:ts.length=tl.length:=by rw [hts,lgM]
 have dj:js.length=jl.length:=by rw [fU,lgM]
 have dL:qs.length=ql.length:=by rw [fG,lgM]
 have av:es.length=el.length:=by rw [aD,lgM]
 have dP:dm.length=al.length:=by rw [has,lgM]
 obtain ⟨J0,ee⟩:∃J0:Nat→Int×Int×Int×Int×Int→Prop,∀n i a' b' c' d',J0 n (i,a',b',c',d')↔(∃k:Nat,i=k∧k+n=jl.length∧nt p jl bz.zero=nt p (jl.drop k) ⟨a',b',c',d'⟩):=⟨fun n v=>match v with|(i,a',b',c',d')=>(∃k:Nat,i=k∧k+n=jl.length∧nt p jl bz.zero=nt p (jl.drop k) ⟨a',b',c',d'⟩),fun _ _ _ _ _ _=>Iff.rfl⟩
 refine bg ⟨[3,5,14,15,16],[],[]⟩ (σ:=Int×Int×Int×Int×Int) (fun v=>[(16,.d (.int .i64 (t _ fun _=>v.1)))]) (fun v=>[(1,.var [.d (.int .u64 (t _ fun _=>v.2.1)),.d (.int .u64 (t _ fun _=>v.2.2.1)),.d (.int .u64 (t _ fun _=>v.2.2.2.1)),.d (.int .u64 (t _ fun _=>v.2.2.2.2))])]) J0 ?_
 cbv
 refine aC ⟨jl.length,(_,_,_,_,_),(ee _ _ _ _ _ _).2 ?_,by simp only [ht];rfl,?_⟩
 ·exact ⟨0,rfl,by simp,rfl⟩
 rintro n ⟨i,a',b',c',d'⟩ hj
 replace hj:=(ee _ _ _ _ _ _).1 hj
 obtain ⟨k,rfl,j1,j4⟩:=hj
 cbv
 refine ai (fun h1=>?_) (fun h1=>?_)
 ·simp [ht,aa,dj] at h1
  cbv
  refine dS ht fU (cT:=Jb.aK t) (by (simp only [ht,aa];omega)) (by (simp only [ht,aa];omega)) (fun _=>rfl) (fun _=>(by (simp only [ht,Jb.aK];rfl))) (fun x2 iC=>?_)
  simp [ht,aa] at iC
  rw [bV iC,nt] at j4
  have sx2:=gD _ (List.mem_of_getElem? iC)
  cbv
  iterate 9 refine gI (by simp [ht]) ?_
  refine aJ (fun g3=>⟨by simp [ht] at g3 ⊢;exact g3,trv,BE ht _ _ (by (simp [*];done))⟩) rfl rfl (fun r4 dV=>?_)
  simp only [ht] at dV
  rw [←dV] at j4
  cbv
  refine gI (by simp [ht]) ?_
  refine gI (by simp [ht,bq];intros;simp_all) ?_
  refine pI (by simp [ht]) ?_
  refine ai (fun h5=>?_) (fun h5=>?_)
  ·simp [ht] at h5
   cbv
   refine bu (_,_,_,_,_) (by simp only [ht];rfl) (n-1) ?_ ((ee _ _ _ _ _ _).2 ?_)
   ·omega
   simp only [aa]
   (refine ⟨k+1,aE (by omega),by omega,?_⟩;rw [j4];grind)
  simp [ht] at h5
  cbv
  (obtain ⟨⟨⟨v1,v2,v3,v4⟩,vk⟩,hv⟩:∃r,r=dG x2.x:=⟨_,rfl⟩;refine ay trv (sB ht x2.x.path x2.x.fZ.a x2.x.fZ.b x2.x.fZ.c x2.x.fZ.d x2.x.count x2.x.prio x2.x.dO (sl:=x2.x.bX) _ (gD _ (List.mem_of_getElem? iC)).2) trv rfl rfl (fun r9 dz=>?_);simp only [ht] at dz;replace dz:=dz.trans hv.symm;subst dz;rw [←hv] at j4;simp only at j4)
  cbv
  refine ay trv (Mh ht _ _ _ _ _ _ _ _) trv rfl rfl (fun r6 gk=>?_)
  simp only [ht] at gk
  rw [←gk] at j4
  cbv
  iterate 2 refine gI (by simp [ht]) ?_
  refine pI (by simp [ht]) ?_
  refine ai (fun h7=>?_) (fun h7=>?_)
  ·simp [ht] at h7
   cbv
   refine ak trv trv rfl rfl rfl ?_
   (have e:nt p jl bz.zero=none:=(by rw [j4];grind);simp [ht,pU,e];done)
  simp [ht] at h7
  cbv
  refine bu (_,_,_,_,_) (by simp only [ht];rfl) (n-1) ?_ ((ee _ _ _ _ _ _).2 ?_)
  ·omega
  simp only [aa]
  (refine ⟨k+1,aE (by omega),by omega,?_⟩;show _=nt p (jl.drop (k+1)) (r6.1);rw [j4];grind)
 simp [ht,aa,dj] at h1
 cbv
 refine ak trv trv rfl rfl rfl ?_
 (rw [List.drop_eq_nil_of_le (by omega),nt] at j4;simp only [ht,pU,j4,nG,Bool.decide_and];simp;done)
theorem N2 (ht:TT t) (p:aA) (a b c d e f g h:Int) {l:List aQ} {es:List (List D)} (aD:es=l.map aQ.cells) (hl:l.length<100000) (gD:∀x∈l,x.path.length<1000000000000):
 FC 106 [SL es,.agg [ST p,ax a,ax b,ax c,ax d,ax e,ax f,ax g,ax h]] [] (.ret (cu (t _ fun _=>kT l ⟨p,⟨a,b,c,d⟩,⟨e,f,g,h⟩⟩))) []:=by
 refine bA ht (aB:=[]) Tryz.func106 rfl rfl (N:=49) rfl rfl (n:=0) rfl rfl ?_
 cbv
 have av:es.length=l.length:=by rw [aD,lgM]
 obtain ⟨J0,ee⟩:∃J0:Nat→Int×Int×Int×Int×Int→Prop,∀n i s1 s2 s3 s4,J0 n (i,s1,s2,s3,s4)↔(∃k:Nat,i=k∧k+n=l.length∧pT p l bz.zero=pT p (l.drop k) ⟨s1,s2,s3,s4⟩):=⟨fun n v=>match v with|(i,s1,s2,s3,s4)=>(∃k:Nat,i=k∧k+n=l.length∧pT p l bz.zero=pT p (l.drop k) ⟨s1,s2,s3,s4⟩),fun _ _ _ _ _ _=>Iff.rfl⟩
 refine bg ⟨[3,5,10,11,12],[],[]⟩ (σ:=Int×Int×Int×Int×Int) (fun v=>[(12,.d (.int .i64 (t _ fun _=>v.1)))]) (fun v=>[(1,.var [.d (.int .u64 (t _ fun _=>v.2.1)),.d (.int .u64 (t _ fun _=>v.2.2.1)),.d (.int .u64 (t _ fun _=>v.2.2.2.1)),.d (.int .u64 (t _ fun _=>v.2.2.2.2))])]) J0 ?_
 cbv
 refine aC ⟨l.length,(_,_,_,_,_),(ee _ _ _ _ _ _).2 ?_,by simp only [ht];rfl,?_⟩
 ·exact ⟨0,rfl,by simp,rfl⟩
 rintro n ⟨i,s1,s2,s3,s4⟩ hj
 replace hj:=(ee _ _ _ _ _ _).1 hj
 obtain ⟨k,rfl,j1,j4⟩:=hj
 cbv
 refine ai (fun h1=>?_) (fun h1=>?_)
 ·simp [ht,aa,av] at h1
  cbv
  refine dS ht aD (cT:=aQ.aK t) (by (simp only [ht,aa];omega)) (by (simp only [ht,aa];omega)) (fun _=>rfl) (fun _=>rfl) (fun x2 iC=>?_)
  simp [ht,aa] at iC
  obtain ⟨pp,IW⟩:∃pp,pp=parent (x2).path:=⟨_,rfl⟩
  obtain ⟨⟨⟨w1,w2,w3,w4⟩,wk⟩,hW⟩:∃r,r=iA ⟨s1,s2,s3,s4⟩ (x2).used:=⟨_,rfl⟩
  rw [bV iC,pT,←IW,←hW] at j4
  have sx2:=gD _ (List.mem_of_getElem? iC)
  cbv
  refine bS [true,true,true,true,false,false,false,false,false,true,true] (by kernel_rfl) (by kernel_rfl) ?_
  cbv
  iterate 2 refine gI (by simp [ht]) ?_
  refine aJ (fun g3=>⟨by simp [ht] at g3 ⊢;exact g3,trv,sA ht _ ‹_›⟩) rfl rfl (fun r4 dV=>?_)
  simp only [ht] at dV
  rw [←IW] at dV
  subst r4
  cbv
  iterate 3 refine gI (by simp [ht]) ?_
  refine pI (by simp [ht]) ?_
  refine ai (fun h5=>?_) (fun h5=>?_)
  ·simp [ht] at h5
   cbv
   refine bu (_,_,_,_,_) (by simp only [ht];rfl) (n-1) ?_ ((ee _ _ _ _ _ _).2 ?_)
   ·omega
   simp only [aa]
   (refine ⟨k+1,aE (by omega),by omega,?_⟩;rw [j4];clear j4 ee;rcases h5 with h5|h5<;>simp [h5];done)
  simp [ht] at h5
  cbv
  refine ay trv (Mh ht _ _ _ _ _ _ _ _) trv rfl rfl (fun r6 gk=>?_)
  simp only [ht] at gk
  replace gk:=gk.trans (show _=((⟨w1,w2,w3,w4⟩,wk):bz×Bool) from hW.symm)
  subst r6
  cbv
  refine ai (fun h7=>?_) (fun h7=>?_)
  ·simp [ht] at h7
   cbv
   refine ak trv trv rfl rfl rfl ?_
   (simp only [ht,kT];rw [j4];simp_all;done)
  simp [ht] at h7
  cbv
  refine bu (_,_,_,_,_) (by simp only [ht];rfl) (n-1) ?_ ((ee _ _ _ _ _ _).2 ?_)
  ·omega
  simp only [aa]
  (refine ⟨k+1,aE (by omega),by omega,?_⟩;simp only at j4;rw [j4];simp_all;done)
 simp [ht,aa,av] at h1
 cbv
 refine ay trv (ot ht _ _ _ _ _ _ _ _) trv rfl rfl (fun r8 sO=>?_)
 simp only [ht] at sO
 cbv
 iterate 3 refine gI (by simp) ?_
 refine aJ (fun g9=>⟨by simp at g9 ⊢;exact g9,trv,ot ht _ _ _ _ _ _ _ _⟩) rfl rfl (fun Zo BG=>?_)
 simp only [ht] at BG
 cbv
 refine pI (by simp) ?_
 refine ak trv trv rfl rfl rfl ?_
 (rw [List.drop_eq_nil_of_le (by omega),pT] at j4;simp [kT, *];done)
theorem Rh (ht:TT t) (x:aQ) {l:List aQ} {es:List (List D)} (aD:es=l.map aQ.cells) (hl:l.length<100000) (gD:∀x∈l,x.path.length<1000000000000) {r:Bool} (hr:r=!kT l x):
 FC 105 [.agg [ST x.path,ax x.c6.a,ax x.c6.b,ax x.c6.c,ax x.c6.d,ax x.used.a,ax x.used.b,ax x.used.c,ax x.used.d],.ptr 0 0] [.var [SL es]] (.ret (BL r)) [.var [SL es]]:=by
 obtain ⟨nm,⟨a,b,c,d⟩,⟨e,g,u,v⟩⟩:=x
 refine bA ht (aB:=[.var [SL es]]) Tryz.func105 rfl rfl (N:=8) rfl rfl (n:=1) rfl rfl ?_
 cbv
 have av:es.length=l.length:=by rw [aD,lgM]
 refine ay trv (N2 ht _ _ _ _ _ _ _ _ _ ‹_› ‹_› ‹_›) trv rfl rfl (fun r0 bF=>?_)
 simp only [ht] at bF
 cbv
 refine ak trv trv rfl rfl rfl ?_
 (simp [*];done)
theorem N3 (ht:TT t) (ts:List (List D)) {l:List (aQ)} {es:List (List D)} (aD:es=l.map aQ.cells) (f:Nat) (p:aQ→Bool) (hl:l.length<9223372036854775807)
 (hf:∀x∈l,FC f [.agg [ST x.path,ax x.c6.a,ax x.c6.b,ax x.c6.c,ax x.c6.d,ax x.used.a,ax x.used.b,ax x.used.c,ax x.used.d],.ptr 0 0] [.var [SL ts]] (.ret (BL (p x))) [.var [SL ts]]) {r:Int} (hr:r=idxOf p l):FC 90 [SL es,.fn f [.ptr 0 0]] [.var [SL ts]] (.ret (bc r)) [.var [SL ts]]:=by
 have hel:es.length=l.length:=by rw [aD,lgM]
 obtain ⟨J,hJ⟩:∃J:Nat→Nat→Prop,∀n v,J n v↔(v+n=l.length∧∀i<v,∀x,l[i]?=some x→p x=false):=⟨fun n v=>v+n=l.length∧∀i<v,∀x,l[i]?=some x→p x=false,fun _ _=>Iff.rfl⟩
 refine bA ht (aB:=[.var [SL ts]]) Tryz.func90 rfl rfl (N:=19) rfl rfl (n:=1) rfl rfl ?_
 cbv
 refine bg ⟨[0,1,7,8],[],[]⟩ (σ:=Nat) (fun k=>[(8,bc (t _ fun _=>(k:Int)))]) (fun _=>[]) J ?_
 cbv
 refine aC ⟨l.length,0,(hJ _ _).2 ⟨by omega,by intro i hi;simp at hi⟩,by simp only [ht];rfl,?_⟩
 rintro n k hj
 obtain ⟨h2,h3⟩:=(hJ _ _).1 hj
 clear hj
 cbv
 refine ai (fun h=>?_) (fun h=>?_)
 ·simp only [ht,aa,decide_eq_true_eq] at h
  have hk:k<l.length:=by omega
  obtain ⟨x,hx⟩:∃x,l[k]?=some x:=⟨l[k],by simp⟩
  have nO:x∈l:=List.mem_of_getElem? hx
  have gS:=hf x nO
  obtain ⟨px,hpx⟩:∃b,b=p x:=⟨_,rfl⟩
  rw [←hpx] at gS
  obtain ⟨nm,⟨a,b,c,d⟩,⟨e,g,u,v⟩⟩:=x
  cbv
  refine iq [.str nm,.int .u64 a,.int .u64 b,.int .u64 c,.int .u64 d,.int .u64 e,.int .u64 g,.int .u64 u,.int .u64 v] ?_ ?_ ?_
  ·simp only [ht,aa];refine ⟨by omega,h,?_⟩;rw [aD];intro r hr;obtain ⟨y,_,rfl⟩:=List.mem_map.1 hr;rfl
  ·simp [ht,aa,aD,hx]
  cbv
  refine de trv gS ?_
  cbv
  refine ai (fun hb=>?_) (fun hb=>?_)
  ·cbv
   refine ak trv trv rfl rfl rfl ?_
   have e:=cO hx (hpx▸hb) h3
   simp only [ht,aa,hr,idxOf,e]
  cbv
  refine aC ⟨n-1,k+1,⟨by omega,(hJ _ _).2 ⟨by omega,?_⟩⟩,?_⟩
  ·intro i hi y hy
   by_cases hik:i<k
   ·exact h3 i hik y hy
   have:i=k:=by omega
   subst this;rw [hx] at hy;cases hy;rw [←hpx];exact hb
  simp only [ht,aa,aE (show k<9223372036854775807 by omega)];rfl
 simp only [ht,aa,decide_eq_false_iff_not] at h
 have hk:¬k<l.length:=by omega
 clear h
 cbv
 refine ak trv trv rfl rfl rfl ?_
 rw [hr,idxOf,cR]
 intro i y hy
 have:i<l.length:=by
  rcases Nat.lt_or_ge i l.length with h'|h';· exact h'
  simp [List.getElem?_eq_none h'] at hy
 exact h3 i (by omega) y hy
theorem N4 (ht:TT t) (ts:List (List D)) {l:List (aQ)} {es:List (List D)} (aD:es=l.map aQ.cells) (f:Nat) (p:aQ→Bool) (hl:l.length<9223372036854775807)
 (hf:∀x∈l,FC f [.agg [ST x.path,ax x.c6.a,ax x.c6.b,ax x.c6.c,ax x.c6.d,ax x.used.a,ax x.used.b,ax x.used.c,ax x.used.d],.ptr 0 0] [.var [SL ts]] (.ret (BL (p x))) [.var [SL ts]]) {r:Bool} (hr:r=l.any p):FC 45 [SL es,.fn f [.ptr 0 0]] [.var [SL ts]] (.ret (BL r)) [.var [SL ts]]:=by
 obtain ⟨k,hk⟩:∃k,k=idxOf p l:=⟨_,rfl⟩
 refine bA ht (aB:=[.var [SL ts]]) Tryz.func45 rfl rfl (N:=9) rfl rfl (n:=1) rfl rfl ?_
 cbv
 refine de trv (N3 ht ts aD f p hl hf hk) ?_
 cbv
 refine ak trv trv rfl rfl rfl ?_
 simp only [ht,hr,eP,hk]
theorem N5 (ht:TT t) {l:List aQ} {es:List (List D)} (aD:es=l.map aQ.cells) (hl:l.length<100000) (gD:∀x∈l,x.path.length<1000000000000) {r:Bool} (hr:r=l.any (fun e=>!kT l e)):
 FC 45 [SL es,.fn 105 [.ptr 0 0]] [.var [SL es]] (.ret (BL r)) [.var [SL es]]:=
 N4 ht es aD 105 (fun e=>!kT l e) (by omega) (fun x _=>Rh ht x aD hl gD rfl) hr
def oA (l:List aQ) (k:Nat):Option aA:=match k with
 |0=>none
 |k+1=>(l[k]?).map (·.path)
def N6 (all:List aQ) (q:aA) (e:aQ):Bool:=!sle e.path q&&named e.path&&!decide (bM all (parent e.path)<0)
theorem IC {all l:List aQ} {k:Nat} {x:aQ} (hx:all[k]?=some x):eJ all (oA all k) (x::l)=((decide (k=0)||match all[k-1]? with|none=>true|some y=>N6 all y.path x)&&eJ all (oA all (k+1)) l):=by
 cases k with
 |zero=>simp [oA,eJ,hx]
 |succ k=>
  have hk:k<all.length:=by have:=(List.getElem?_eq_some_iff.1 hx).1;omega
  simp only [oA,hx,List.getElem?_eq_getElem hk,Option.map_some,eJ,N6]
  simp [List.getElem?_eq_getElem hk]
theorem N7 {l:List aQ} (h:l.length<1∨16<l.length∨∃x,l[0]?=some x∧x.path≠[]):gP l=false:=by
 unfold gP
 rcases h with h|h|⟨x,h,h2⟩
 ·rw [if_pos h]
 ·rw [if_neg (by omega),if_pos h]
 by_cases a:l.length<1
 ·rw [if_pos a]
 by_cases b:16<l.length
 ·rw [if_neg a,if_pos b]
 rw [if_neg a,if_neg b,if_pos (by simpa [List.getD_eq_getElem?_getD,h] using h2)]
theorem K3 {l:List aQ} {x0:aQ} (hx0:0<l.length→l[0]?=some x0) (h0:((l.length:Int)<1∨16<(l.length:Int))∨¬x0.path=[]):gP l=false:=by
 refine N7 ?_
 by_cases a:l.length<1
 ·exact .inl a
 rcases h0 with (h|h)|h
 ·omega
 ·exact .inr (.inl (by omega))
 exact .inr (.inr ⟨x0,hx0 (by omega),h⟩)
theorem yP {l:List aQ} {x0:aQ} (hx0:0<l.length→l[0]?=some x0) (h0:(1≤(l.length:Int)∧(l.length:Int)≤16)∧x0.path=[]):gP l=(eJ l none l&&!(l.any fun e=>!kT l e)):=by
 unfold gP
 rw [if_neg (by omega),if_neg (by omega),if_neg (by have:=hx0 (by omega);simp [List.getD_eq_getElem?_getD,this,h0.2])]
theorem ID {l:List aQ} {x0 x y:aQ} {k:Nat} {r5 rest:Bool} {r7:aA} {r9:Int} (hx0:0<l.length→l[0]?=some x0) (h0:(1≤(l.length:Int)∧(l.length:Int)≤16)∧x0.path=[])
 (j4:eJ l none l=((decide (k=0)||match l[k-1]? with|none=>true|some y=>N6 l y.path x)&&rest)) (my:0<k→l[k-1]?=some y) (e5:r5=named x.path) (e7:r7=parent x.path) (e9:r9=bM l r7)
 (h:0<k∧(((Op.bytesLess x.path y.path=true∨x.path=y.path)∨r5=false)∨r9<0)):gP l=false:=by
 subst e7 e5 e9
 rw [yP hx0 h0,j4,my h.1]
 have k0:¬k=0:=by omega
 rcases h.2 with ((h1|h1)|h1)|h1<;>simp [k0,N6,sle,h1]
theorem N8 {l:List aQ} {x y:aQ} {k:Nat} {r5 rest:Bool} {r7:aA} {r9:Int}
 (my:0<k→l[k-1]?=some y) (e5:r5=named x.path) (e7:r7=parent x.path) (e9:r9=bM l r7)
 (h:0<k→((Op.bytesLess x.path y.path=false∧¬x.path=y.path)∧r5=true)∧0≤r9):((decide (k=0)||match l[k-1]? with|none=>true|some y=>N6 l y.path x)&&rest)=rest:=by
 subst e7 e5 e9
 by_cases k0:k=0
 ·simp [k0]
 have h:=h (by omega)
 rw [my (by omega)]
 have:=h.2
 simp [k0,N6,sle,h.1.1.1,h.1.1.2,h.1.2];omega
theorem DP (ht:TT t) {l:List aQ} {es:List (List D)} (aD:es=l.map aQ.cells) (hl:l.length<100000) (gD:∀x∈l,x.path.length<1000000000000):
 FC 40 [SL es] [] (.ret (cu (t _ fun _=>gP l))) []:=by
 obtain ⟨x0,hx0⟩:=elemAt l 0
 refine bA ht (aB:=[]) Tryz.func40 rfl rfl (N:=59) rfl rfl (n:=0) rfl rfl ?_
 cbv
 have av:es.length=l.length:=by rw [aD,lgM]
 iterate 3 refine gI (by simp [ht]) ?_
 refine pI (by simp [ht]) ?_
 refine gI (by simp [ht]) ?_
 (refine QK ht aD (cT:=aQ.aK t) 0 x0 (fun g=>by simp [ht,aa] at g;exact ⟨rfl,hx0 (by omega)⟩) (fun _=>rfl) (fun _=>rfl) (fun g=>by exact ⟨g,trv⟩) ?_)
 cbv
 iterate 3 refine gI (by simp [ht]) ?_
 refine pI (by simp [ht]) ?_
 refine ai (fun h0=>?_) (fun h0=>?_)
 ·simp [ht,aa,av] at h0
  cbv
  refine ak trv trv rfl rfl rfl ?_
  (simp only [ht];rw [K3 hx0 h0])
 simp [ht,aa,av] at h0
 cbv
 obtain ⟨J1,gj⟩:∃J1:Nat→Int→Prop,∀n i,J1 n i↔(∃k:Nat,i=k∧k+n=l.length∧eJ l none l=eJ l (oA l k) (l.drop k)):=⟨fun n v=>match v with|i=>(∃k:Nat,i=k∧k+n=l.length∧eJ l none l=eJ l (oA l k) (l.drop k)),fun _ _=>Iff.rfl⟩
 refine bg ⟨[1,20,21,22],[],[]⟩ (σ:=Int) (fun v=>[(22,.d (.int .i64 (t _ fun _=>v)))]) (fun v=>[]) J1 ?_
 cbv
 refine aC ⟨l.length,_,(gj _ _).2 ?_,by simp only [ht];rfl,?_⟩
 ·exact ⟨0,rfl,by simp,rfl⟩
 rintro n i hj
 replace hj:=(gj _ _).1 hj
 obtain ⟨k,rfl,j1,j4⟩:=hj
 cbv
 refine ai (fun h2=>?_) (fun h2=>?_)
 ·simp [ht,aa,av] at h2
  cbv
  refine dS ht aD (cT:=aQ.aK t) (by (simp only [ht,aa];omega)) (by (simp only [ht,aa];omega)) (fun _=>rfl) (fun _=>rfl) (fun x3 nv=>?_)
  simp [ht,aa] at nv
  rw [bV nv,IC nv] at j4
  have Zm:=gD _ (List.mem_of_getElem? nv)
  cbv
  refine bS [true,true,true,false,false,false,false,false,false,false,false,true,true,true,true,true,true,true,true,false,false,false,false,true,true,true,true] (by kernel_rfl) (by kernel_rfl) ?_
  cbv
  iterate 5 refine gI (by simp [ht]) ?_
  (refine Hh ht aD (cT:=aQ.aK t) (k-1) (fun g=>by simp [ht,aa] at g ⊢;simp [g]) (fun g=>by simp [ht,aa] at g;simp only [ht,aa];exact ⟨vv (by omega) (by omega),by omega⟩) (fun _=>rfl) (fun _=>rfl) (fun y my=>?_);simp [ht,aa] at my)
  cbv
  iterate 6 refine gI (by simp [ht]) ?_
  refine aJ (fun g4=>⟨by simp [ht] at g4 ⊢;exact g4,trv,vS ht _ ‹_›⟩) rfl rfl (fun r5 jh=>?_)
  simp only [ht] at jh
  cbv
  refine gI (by simp [ht]) ?_
  refine gI (by simp [ht,bq];intros;simp_all) ?_
  iterate 4 refine gI (by simp [ht]) ?_
  refine aJ (fun g6=>⟨by simp [ht] at g6 ⊢;exact g6,trv,sA ht _ ‹_›⟩) rfl rfl (fun r7 gE=>?_)
  simp only [ht] at gE
  cbv
  refine aJ (fun g8=>⟨by simp [ht] at g8 ⊢;exact g8,trv,jZ ht _ ‹_› (by omega)⟩) rfl rfl (fun r9 dz=>?_)
  simp only [ht] at dz
  cbv
  refine gI (by simp [ht]) ?_
  refine gI (by simp [ht,bq];intros;simp_all) ?_
  refine pI (by simp [ht]) ?_
  refine ai (fun h10=>?_) (fun h10=>?_)
  ·simp [ht,aa] at h10
   cbv
   refine ak trv trv rfl rfl rfl ?_
   (simp only [ht];rw [ID hx0 h0 j4 my jh gE dz h10])
  simp [ht,aa] at h10
  cbv
  refine bu _ (by simp only [ht];rfl) (n-1) ?_ ((gj _ _).2 ?_)
  ·omega
  simp only [aa]
  exact ⟨k+1,aE (by omega),by omega,j4.trans (N8 my jh gE dz h10)⟩
 simp [ht,aa,av] at h2
 cbv
 (obtain ⟨r9,dz⟩:∃r,r=l.any (fun e=>!kT l e):=⟨_,rfl⟩;refine cD [0] trv rfl rfl (N5 ht aD (by omega) gD dz) (bK ?_))
 cbv
 refine ak trv trv rfl rfl rfl ?_
 (rw [List.drop_eq_nil_of_le (by omega),eJ] at j4;simp only [ht,yP hx0 h0,j4,Bool.true_and,←dz];done)
end Dem
end
