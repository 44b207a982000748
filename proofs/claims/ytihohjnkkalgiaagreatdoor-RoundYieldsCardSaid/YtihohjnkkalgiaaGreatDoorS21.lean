/- Parts of a proof, joined. -/
import Derived.Test.YtihohjnkkalgiaaGreatDoorS20
set_option linter.all false
set_option maxRecDepth 100000
set_option maxHeartbeats 4000000
section
open Go Dem Go.Proofs
namespace Dem
variable {t:Th}
theorem L0 (ht:TT t) (bI:Int) {l:List Node} {ps:List Place} {es qs:List (List D)} (aE:es=l.map Node.cells) (eM:qs=ps.map Place.cells) (hl:ps.length<1000000):
 FC 108 [.agg [SL es,SL qs],aC bI] [] (.ret (qz t (t _ fun _=>qE ⟨l,ps⟩ bI))) []:=by
 simp only [ht,qz,qE];rw [←aE];exact JN ht bI eM hl rfl
theorem L2 (ht:TT t) (rd nx ef af:Int) {nl:List Node} {pl:List Place} {tl:List bg} {jl:List Jb} {ql:List cu} {el al:List ek} {ns ps ts js qs es bW:List (List D)} (fF:ns=nl.map Node.cells) (hps:ps=pl.map Place.cells) (hts:ts=tl.map bg.cells) (eW:js=jl.map Jb.cells) (eM:qs=ql.map cu.cells) (aE:es=el.map ek.cells) (has:bW=al.map ek.cells) (ji ja jb jc jd jn jp jt jf:Int) (jq:aK) (jr:Bool) {oZ:List Term} {EU:List (List D)} (yQ:EU=oZ.map Term.cells) {z:Int} {k:Nat} (hz:z=k) (hk:k<jl.length) (hjl:jl.length<1000000):
 FC 79 [.agg [aC rd,aC nx,SL ns,SL ps,SL ts,SL js,SL qs,aC ef,SL es,aC af,SL bW],bG z,.agg [aC ji,ST jq,aC ja,aC jb,aC jc,aC jd,bG jn,bG jp,bG jt,SL EU,BL jr,bG jf]] [] (.ret (dM t (t _ fun _=>C5 ⟨rd,nx,⟨nl,pl⟩,tl,jl,ql,⟨ef,el⟩,⟨af,al⟩⟩ k ⟨ji,⟨jq,⟨ja,jb,jc,jd⟩,jn,jp,jt,oZ⟩,jr,jf⟩))) []:=by
 refine bP ht (aQ:=[]) Tryz.func79 rfl rfl (N:=17) rfl rfl (n:=0) rfl rfl ?_
 cbv
 have bJ:ns.length=nl.length:=by rw [fF,lgM]
 have bQ:ps.length=pl.length:=by rw [hps,lgM]
 have bK:ts.length=tl.length:=by rw [hts,lgM]
 have bT:js.length=jl.length:=by rw [eW,lgM]
 have bq:qs.length=ql.length:=by rw [eM,lgM]
 have aD:es.length=el.length:=by rw [aE,lgM]
 have bD:bW.length=al.length:=by rw [has,lgM]
 have EV:EU.length=oZ.length:=by rw [yQ,lgM]
 refine jY trv (nt ht ‹_› ‹_›) trv rfl (.inr rfl) ?_
 cbv
 refine ⟨?_,?_⟩
 ·(simp [*];done)
 refine ⟨?_,?_⟩
 ·(simp [Jb.cells, *];done)
 cbv
 refine az trv (by simp [ht]) rfl rfl rfl ?_
 (simp [C5,Jb.cells,List.map_set,be, *];done)
theorem HP (ht:TT t) (rd nx ef af:Int) {nl:List Node} {pl:List Place} {tl:List bg} {jl:List Jb} {ql:List cu} {el al:List ek} {ns ps ts js qs es bW:List (List D)} (fF:ns=nl.map Node.cells) (hps:ps=pl.map Place.cells) (hts:ts=tl.map bg.cells) (eW:js=jl.map Jb.cells) (eM:qs=ql.map cu.cells) (aE:es=el.map ek.cells) (has:bW=al.map ek.cells) (ji ja jb jc jd jn jp jt jf:Int) (jq:aK) (jr:Bool) {oZ:List Term} {EU:List (List D)} (yQ:EU=oZ.map Term.cells) (hu:(⟨ja,jb,jc,jd⟩:bM).u') (hjq:jq.length<1000000000000) (htl:tl.length<100000) (I0:pl.length<1000000):
 FC 62 [.agg [aC rd,aC nx,SL ns,SL ps,SL ts,SL js,SL qs,aC ef,SL es,aC af,SL bW],.agg [aC ji,ST jq,aC ja,aC jb,aC jc,aC jd,bG jn,bG jp,bG jt,SL EU,BL jr,bG jf]] [] (.ret (dM t (t _ fun _=>m9 ⟨rd,nx,⟨nl,pl⟩,tl,jl,ql,⟨ef,el⟩,⟨af,al⟩⟩ ⟨ji,⟨jq,⟨ja,jb,jc,jd⟩,jn,jp,jt,oZ⟩,jr,jf⟩))) []:=by
 obtain ⟨⟨⟨v1,v2,v3,v4⟩,vk⟩,hv⟩:∃r,r=cZ ⟨jq,⟨ja,jb,jc,jd⟩,jn,jp,jt,oZ⟩:=⟨_,rfl⟩
 obtain ⟨⟨t9,e9⟩,h9⟩:∃r,r=rP tl jq ⟨v1,v2,v3,v4⟩:=⟨_,rfl⟩
 have hF:m9 ⟨rd,nx,⟨nl,pl⟩,tl,jl,ql,⟨ef,el⟩,⟨af,al⟩⟩ ⟨ji,⟨jq,⟨ja,jb,jc,jd⟩,jn,jp,jt,oZ⟩,jr,jf⟩=⟨rd,nx,qE ⟨nl,pl⟩ ji,(if vk then t9 else tl),jl,ql,⟨ef,el⟩,⟨af,al⟩⟩:=by
  simp only [m9,←hv,←h9]
 rw [hF]
 refine bP ht (aQ:=[]) Tryz.func62 rfl rfl (N:=32) rfl rfl (n:=0) rfl rfl ?_
 cbv
 have bJ:ns.length=nl.length:=by rw [fF,lgM]
 have bQ:ps.length=pl.length:=by rw [hps,lgM]
 have bK:ts.length=tl.length:=by rw [hts,lgM]
 have bT:js.length=jl.length:=by rw [eW,lgM]
 have bq:qs.length=ql.length:=by rw [eM,lgM]
 have aD:es.length=el.length:=by rw [aE,lgM]
 have bD:bW.length=al.length:=by rw [has,lgM]
 have EV:EU.length=oZ.length:=by rw [yQ,lgM]
 (refine bc trv (rU ht jq ja jb jc jd jn jp jt (sl:=oZ) EU hu) trv rfl rfl (fun r9 jU=>?_);simp only [ht] at jU;rw [←hv] at jU;subst jU)
 cbv
 refine av (fun h0=>?_) (fun h0=>?_)
 ·cbv
  refine aF trv (JX ht _ _ _ _ _ ‹_› ‹_› ‹_›) trv rfl rfl rfl (fun r1 cF=>?_)
  simp only [ht] at cF
  rw [←h9] at cF
  subst r1
  cbv
  refine aF trv (L0 ht _ ‹_› ‹_› ‹_›) trv rfl rfl rfl (fun r2 iJ=>?_)
  simp only [ht] at iJ
  cbv
  refine az trv trv rfl rfl rfl ?_
  (subst iJ;simp [*];done)
 cbv
 refine aF trv (L0 ht _ ‹_› ‹_› ‹_›) trv rfl rfl rfl (fun r3 mM=>?_)
 simp only [ht] at mM
 cbv
 refine az trv trv rfl rfl rfl ?_
 (simp [*];done)
theorem EW (ht:TT t) {es:List (List D)} {i m c:Nat} (hm:m=es.length) (hi:i<m) (hc:m≤c) (aE:∀r∈es,r.length=12) (hs:m<1000000) {r:List (List D)} (hr:r=es.take i++es.drop (i+1)):
 FC 64 [.vw 0 12 0 m c true,bG (i:Int),bG ((i+1:Nat):Int)] [.row 12 es] (.ret (SL r)) [.dead]:=by
 obtain ⟨i1,hi1⟩:∃i1,i1=i+1:=⟨_,rfl⟩
 rw [←hi1] at hr ⊢
 refine bP ht (aQ:=[.row 12 es]) Tryz.func64 rfl rfl (N:=33) rfl rfl (n:=1) rfl rfl ?_
 cbv
 obtain ⟨mi,xP⟩:∃n,n=m-i:=⟨_,rfl⟩
 obtain ⟨Ti,VK⟩:∃n,n=m-i1:=⟨_,rfl⟩
 obtain ⟨wL,JK⟩:∃n,n=c-i1:=⟨_,rfl⟩
 refine bL (.vw 0 12 i 1 mi true) [.row 12 es] ?_ ?_ rfl ?_
 ·simp [ht,ah,bS];omega
 ·simp [ht,ah,aW,xP,hi1]
 cbv
 refine pp (by simp [ht,hi1];omega) ?_
 cbv
 refine dO [false,false,false,false,false,false,true,true] (by kernel_rfl) (by kernel_rfl) ?_
 cbv
 refine gI (by simp) (gI (by simp) ?_)
 refine iq (.vw 0 12 0 i c true) (fun _=>⟨?_,?_⟩) ?_
 ·simp [ht,dS,bS];omega
 ·simp [ht,aW,aS]
 cbv
 refine gI (by simp) (gI (by simp) ?_)
 refine iq (.vw 0 12 i1 Ti wL true) (fun _=>⟨?_,?_⟩) ?_
 ·simp [ht,dS,bS];omega
 ·simp [ht,aW,aS,VK,JK]
 cbv
 obtain ⟨m1,YT⟩:∃n,n=m-1:=⟨_,rfl⟩
 obtain ⟨cm1,VL⟩:∃n,n=c-m1:=⟨_,rfl⟩
 obtain ⟨R1,QB⟩:∃R,R=wrote es i (es.drop i1):=⟨_,rfl⟩
 have tk:(es.drop i1).take Ti=es.drop i1:=List.take_of_length_le (by rw [List.length_drop];omega)
 have dl:(es.drop i1).length=Ti:=by rw [List.length_drop];omega
 have wR:R1.length=m:=by rw [QB];simp [wrote];omega
 have VM:R1.take m1=r:=by
  rw [QB,hr]
  unfold wrote
  rw [List.take_append_of_le_length (by simp;omega),List.take_of_length_le (by simp;omega)]
 refine bL (.vw 0 12 0 m1 c true) [.row 12 R1,.bw] ?_ ?_ ?_ ?_
 ·simp only [ht,tk,dl,eP,Nat.zero_add]
  exact ⟨by omega,⟨by omega,fun h=>by rw [h] at hm;simp at hm;omega⟩,by omega,fun r h=>aE r (List.mem_of_mem_drop h)⟩
 ·simp only [ht,tk,dl];rw [show i+Ti=m1 by omega]
 ·simp only [ht,tk,Nat.zero_add,QB]
 cbv
 refine bL (.vw 0 12 m1 1 cm1 true) [.row 12 R1,.bw] ?_ ?_ rfl ?_
 ·simp [ht,ah,dS,bS];omega
 ·simp [ht,ah,aW,aS,VL];omega
 cbv
 obtain ⟨R2,QC⟩:∃R,R=wrote R1 m1 (List.replicate 1 [D.int IntKind.u64 0,D.str [],D.int IntKind.u64 0,D.int IntKind.u64 0,D.int IntKind.u64 0,D.int IntKind.u64 0,D.int IntKind.i64 0,D.int IntKind.i64 0,D.int IntKind.i64 0,D.sl [],D.bool false,D.int IntKind.i64 0]):=⟨_,rfl⟩
 have Yd:R2.length=m:=by rw [QC];simp [wrote,wR];omega
 have VN:R2.take m1=r:=by
  rw [←VM,QC]
  unfold wrote
  rw [List.append_assoc,List.take_append_of_le_length (by simp [wR];omega),List.take_take,Nat.min_self]
 refine bL (.eA []) [.row 12 R2,.bw] ?_ rfl ?_ ?_
 ·simp only [ht,eP];exact ⟨by omega,fun h=>by rw [h] at wR;simp at wR;omega⟩
 ·simp only [ht,QC]
 cbv
 refine yM [true] trv ?_ rfl rfl rfl ?_
 ·simp only [ht];omega
 simp only [ht,List.drop_zero,VN]
theorem vH (ht:TT t) {l:List Jb} {i:Nat} {z z1:Int} (hz:z=i) (hz1:z1=(i:Int)+1) (hi:i<l.length) (hs:l.length<1000000):
 FC 64 [.ow 0 12 (t _ fun _=>(l.map Jb.cells).length),bG z,bG z1] [.row 12 (t _ fun _=>l.map Jb.cells)] (.ret (SL (t _ fun _=>(l.eraseIdx i).map Jb.cells))) [.dead]:=by
 simp only [ht]
 have e1:z1=((i+1:Nat):Int):=by omega
 subst hz
 rw [e1]
 refine dZ (fun c hc hc0=>EW ht (es:=l.map Jb.cells) (i:=i) rfl (by simpa using hi) hc ?_ (by simpa using hs) ?_)
 ·intro r hr;obtain ⟨y,_,rfl⟩:=List.mem_map.1 hr;rfl
 rw [List.eraseIdx_eq_take_drop_succ,List.map_append,List.map_take,List.map_drop]
end Dem
end
section
open Go
namespace Dem
section
variable {P:Program} {T:Nat→Option TI} {G:Nat→Option (List D)} {N K:Nat}
theorem Bg (hT:kD P T) (hD:p8 P T G) {f N:Nat} {fn:Func} {c:Code} {args:List AV} {aQ aU:List aA} {res:jR} (hf:P.funcs[f]?=some fn) (hb:fn.body=some c)
 (hname:(fn.name== "runtime.NumGoroutine")=false) (hN:fn.ntmps=N) (hlen:Nat.ble args.length N=true) {pre rest:List Code} (hc:flat c=pre++rest) (R:St→Prop)
 (hr:∀(X:Nat→Prop) (β0:Nat→Nat) (w0:World) (β:Nat→Nat) (w:World) (s:St) (a:Act),Ext β0 aQ w0 β s.bx w→Fr G N [] β w X s a→R s→
  tE P rest (gE G N [] X β0 aQ w0 (xT t0 T fn.results.toList aQ.length res aU)) a w)
 (h:Pv t0 (bF P G) T G N aQ.length pre (fun e s=>match e with|.normal=>R s|e=>xT t0 T fn.results.toList aQ.length res aU e s) ⟨pR 0 args,aQ⟩):bF P G f args aQ res aU:=by
 refine uI hT hf hb hname hN hlen fun β w X a hF=>wp_mono (Ef c ?_) (fun _ _ _ hl=>gE.imp (fun _ _ hq=>Ls hq) hl)
 rw [hc]
 refine xV (GO ?_ (tF (X:=X) (β0:=β) (aQ:=aQ) (w0:=w) hT hD (Nat.le_refl _) pre _ β w _ a (Ext.refl _ _ _) hF h))
 intro e a1 w1 hl
 cases e<;>simp only [gE,Exit.then] at hl ⊢
 ·obtain ⟨β1,s1,zN,Ff,hR⟩:=hl
  exact hr X β w β1 w1 s1 a1 zN Ff hR
 all_goals exact hl
structure VO (n:Nat) (K:Nat→Prop):Prop where
 ok:∀c,n≤c→(n=0→c=0)→K c
def QD (t:Th) (FC:Nat→List AV→List aA→jR→List aA→Prop) (T:Nat→Option TI) (G:Nat→Option (List D)) (N K:Nat) (post:List Code) (i:Nat) (Q:Ex→St→Prop) (s:St):Prop:=
 match gH i s.sl with
 |.ow b sz n=>VO n fun c=>Pv t FC T G N K post Q ⟨put i (.vw b sz 0 n c true) s.sl,s.bx⟩
 |_=>False
theorem HQ (hT:kD P T) (hD:p8 P T G) {aQ:List aA} (hK:aQ.length≤K) {post:List Code} {i:Nat} {Q:Ex→St→Prop} {X:Nat→Prop} {β0:Nat→Nat} {w0:World} {β:Nat→Nat} {w:World} {s:St} {a:Act} (ex:Ext β0 aQ w0 β s.bx w) (hF:Fr G N [] β w X s a)
 (h:QD t0 (bF P G) T G N K post i Q s):tE P post (gE G N [] X β0 aQ w0 Q) a w:=by
 unfold QD at h
 split at h
 case h_2=>exact h.elim
 rename_i b sz n hi
 obtain ⟨h⟩:=h
 have hx:=hF.yV i
 rw [hi] at hx
 simp only [ak] at hx
 have key:∀c,n≤c→(n=0→c=0)→ak β s.bx w (bp β s.bx w X) (.vw b sz 0 n c true) (a.tmps.getD i undef)→tE P post (gE G N [] X β0 aQ w0 Q) a w:=by
  intro c h1 h2 h3
  refine tF hT hD hK post Q β w ⟨put i (.vw b sz 0 n c true) s.sl,s.bx⟩ a ex ⟨hF.cx,hF.defers,hF.size,fun t=>?_⟩ (h c h1 h2)
  rw [oE]
  by_cases ht:t=i
  ·subst ht;rw [if_pos rfl];exact h3
  rw [if_neg ht];exact hF.yV t
 obtain ⟨hb,⟨rfl,base,e⟩|⟨h0,cap,c,e1,f',e,h1,h2,h3⟩⟩:=hx
 ·refine key 0 (Nat.le_refl _) (fun _=>rfl) ?_
  rw [e]
  simp only [ak]
  exact ⟨hb,base,0,#[],0,(0,0),rfl,Nat.le_refl _,Nat.le_refl _,fun _=>rfl,.inl rfl⟩
 refine key cap h1 (fun h=>absurd h h0) ?_
 rw [e]
 simp only [ak]
 exact ⟨hb,_,cap,c,e1,f',rfl,h1,Nat.le_refl _,fun _=>rfl,.inr ⟨by simp,h2,by simpa using h3⟩⟩
end
end Dem
end
section
open Go Dem Go.Proofs
namespace Dem
theorem fcV {t:Th} (ht:TT t) (k i:Nat) {f N:Nat} {fn:Func} {c:Code} {args:List AV} {aQ aU:List aA} {res:jR} (hf:Tryz.prog.funcs[f]?=some fn) (hb:fn.body=some c)
 (hname:(fn.name== "runtime.NumGoroutine")=false) (hN:fn.ntmps=N) {rs:List ResultVar} (RP:fn.results.toList=rs) {n:Nat} (hn:aQ.length=n) (hlen:Nat.ble args.length N=true)
 (h:Pv t FC tT gl N n ((flat c).take k) (fun e s=>match e with|.normal=>QD t FC tT gl N n ((flat c).drop k) i (xT t tT rs n res aU) s|e=>xT t tT rs n res aU e s) ⟨pR 0 args,aQ⟩):FC f args aQ res aU:=by
 subst RP;subst hn
 have e:=ht.eq
 subst e
 exact Bg Ul Jm hf hb hname hN hlen (List.take_append_drop k (flat c)).symm _ (fun X β0 w0 β w s a ex hF hR=>HQ Ul Jm (Nat.le_refl _) ex hF hR) h
end Dem
end
section
open Go Dem Go.Proofs
namespace Dem
variable {t:Th}
theorem Nx {l:List cu} {es:List (List D)} {i m:Nat} (aE:es=l.map cu.cells) (hi:i<l.length) (hm:m+1=l.length):
 wrote (wrote (List.replicate m [D.int IntKind.u64 0,D.int IntKind.i64 0]) 0 (es.take i)) i (es.drop (i+1))=(l.eraseIdx i).map cu.cells:=by
 have hl:es.length=l.length:=by rw [aE,lgM]
 simp only [wrote,List.take_zero,List.nil_append,Nat.zero_add,List.length_take,List.length_drop,List.drop_replicate,List.eraseIdx_eq_take_drop_succ,List.map_append,List.map_take,List.map_drop,←aE]
 have d1:(List.take i es).length=i:=by rw [List.length_take];omega
 have d2:List.drop (i+(es.length-(i+1))) (List.take i es++List.replicate (m-i) [D.int IntKind.u64 0,D.int IntKind.i64 0])=[]:=List.drop_eq_nil_of_le (by rw [List.length_append,d1,List.length_replicate];omega)
 rw [Nat.min_eq_left (by omega),List.take_append_of_le_length (by omega),List.take_take,Nat.min_self,d2,List.append_nil]
theorem HR (ht:TT t) (id:Int) {l:List cu} {es:List (List D)} (aE:es=l.map cu.cells) (hl:l.length<1000000):
 FC 63 [SL es,aC id] [] (.ret (X9 t (t _ fun _=>AB l id))) []:=by
 refine fcV ht 5 7 (aQ:=[]) Tryz.func63 rfl rfl (N:=32) rfl rfl (n:=0) rfl rfl ?_
 cbv
 have aD:es.length=l.length:=by rw [aE,lgM]
 refine bc trv (Dm ht _ ‹_› (by omega)) trv rfl rfl (fun r0 dj=>?_)
 simp only [ht] at dj
 have ec:=cJ dj
 clear dj
 rcases ec with ⟨e1,e2,e3⟩|⟨i,x,hi,hil,e1,e2,e3,e4⟩
 ·cbv
  refine av (fun h1=>?_) (fun h1=>?_)
  ·simp [ht] at h1
   cbv
   refine az trv trv rfl rfl rfl ?_
   (simp [AB, *];done)
  simp [ht] at h1
  omega
 obtain ⟨m,hm⟩:∃m,m+1=l.length:=⟨l.length-1,by omega⟩
 obtain ⟨i1,hi1⟩:∃n,n=i+1:=⟨_,rfl⟩
 obtain ⟨mi,xP⟩:∃n,n=m-i:=⟨_,rfl⟩
 have tr:=Nx aE hil hm
 rw [←hi1] at tr
 obtain ⟨R1,QB⟩:∃R,R=wrote (List.replicate m [D.int IntKind.u64 0,D.int IntKind.i64 0]) 0 (es.take i):=⟨_,rfl⟩
 obtain ⟨R2,QC⟩:∃R,R=wrote R1 i (es.drop i1):=⟨_,rfl⟩
 have hr:∀r∈es,r.length=2:=by rw [aE];intro r hr;obtain ⟨y,_,rfl⟩:=List.mem_map.1 hr;rfl
 have hw:IntKind.i64.wrap ((es.length:Int)-1)=(m:Int):=by rw [wrap64 (by omega) (by omega)];omega
 have hw1:IntKind.i64.wrap (r0+1)=(i1:Int):=by rw [wrap64 (by omega) (by omega)];omega
 have wR:R1.length=m:=by rw [QB];simp [wrote];omega
 have Yd:R2.length=m:=by rw [QC];simp [wrote,wR];omega
 rw [←QB,←QC] at tr
 cbv
 refine av (fun h2=>?_) (fun h2=>?_)
 ·simp [ht] at h2
  rw [hi] at h2;simp only [ah] at h2;exact absurd h2 (by omega)
 simp [ht] at h2
 cbv
 refine ⟨?_,?_⟩
 ·simp only [ah] at hw;simp only [ht,ah,hw];refine ⟨by omega,trv,?_⟩;simp only [Int.toNat_natCast];omega
 refine ⟨fun c hc hc0=>?_⟩
 cbv
 simp only [ah] at hw hi hw1 tr
 have hcm:m≤c:=by simpa only [ht,ah,hw,Int.toNat_natCast] using hc
 refine ⟨?_,?_⟩
 ·simp only [ht,bS];exact ⟨⟨h2,by omega⟩,hr⟩
 refine bL (bG (i:Int)) [.row 2 R1] ?_ ?_ ?_ ?_
 ·simp only [ht,ah,hw,hi,iD,Int.toNat_natCast,eP,List.length_take,List.length_replicate]
  refine ⟨⟨by omega,fun h=>?_⟩,fun r h=>hr r (List.mem_of_mem_take (List.mem_of_mem_take h))⟩
  have:=congrArg List.length h
  simp only [List.length_replicate,List.length_nil] at this
  omega
 ·simp only [ht,ah,hw,hi,iD,Int.toNat_natCast,List.length_take]
  rw [Nat.min_eq_left (by omega),Nat.min_eq_left (by omega)]
 ·simp only [ht,ah,hw,hi,iD,Int.toNat_natCast,List.length_take]
  rw [QB,Nat.min_eq_left (by omega),Nat.min_eq_left (by omega),List.take_take,Nat.min_self]
 cbv
 refine dO [false,false,false,false,false,false,false,true] (by kernel_rfl) (by kernel_rfl) ?_
 cbv
 refine gI (by simp) (gI (by simp) ?_)
 obtain ⟨ci,pJ⟩:∃n,n=c-i:=⟨_,rfl⟩
 refine iq (.vw 0 2 i mi ci true) (fun _=>⟨?_,?_⟩) ?_
 ·simp only [ht,ah,hw,hi,dS,bS,Int.toNat_natCast];omega
 ·simp only [ht,ah,hw,hi,aW,aS,Int.toNat_natCast,Option.getD_some,Nat.zero_add];rw [xP,pJ]
 cbv
 refine gI (by simp) (gI (by simp) (gI (by simp) (gI (fun _=>?_) ?_)))
 ·simp only [ht,ah,hw1,bS];exact ⟨⟨by omega,by omega⟩,hr⟩
 refine bL (bG (mi:Int)) [.row 2 R2,.bw] ?_ ?_ ?_ ?_
 ·simp only [ht,ah,hw1,iD,Int.toNat_natCast,eP,List.length_drop]
  refine ⟨⟨by omega,fun h=>?_⟩,fun r h=>hr r (List.mem_of_mem_drop (List.mem_of_mem_take h))⟩
  rw [h] at wR;simp only [List.length_nil] at wR;omega
 ·simp only [ht,ah,hw1,iD,Int.toNat_natCast,List.length_drop]
  rw [Nat.min_eq_right (by omega)]
 ·simp only [ht,ah,hw1,iD,Int.toNat_natCast,List.length_drop]
  rw [QC,List.take_of_length_le (by rw [List.length_drop];omega)]
 cbv
 refine az trv ?_ rfl rfl rfl ?_
 ·simp only [ht,ah,hw,Int.toNat_natCast];exact ⟨by omega,trv⟩
 simp only [ht,ah,hw,Int.toNat_natCast,AB,e3,List.drop_zero,tr]
 rw [List.take_of_length_le (by rw [←tr];omega)]
theorem EX {l:List Jb} {id r:Int} (h:r=Eu l id) {P:Jb→Prop} (hP:∀x∈l,P x):(r=-1∧l.findIdx? (fun j=>decide (j.id=id))=none)∨
 ∃(i:Nat) (xi xa xb xc xd xn xp xt xf:Int) (xq:aK) (xr:Bool) (xl:List Term),r=i∧i<l.length∧l[i]?=some ⟨xi,⟨xq,⟨xa,xb,xc,xd⟩,xn,xp,xt,xl⟩,xr,xf⟩∧l.findIdx? (fun j=>decide (j.id=id))=some i∧
  l.getD i Jb.zero=⟨xi,⟨xq,⟨xa,xb,xc,xd⟩,xn,xp,xt,xl⟩,xr,xf⟩∧P ⟨xi,⟨xq,⟨xa,xb,xc,xd⟩,xn,xp,xt,xl⟩,xr,xf⟩∧xi=id:=by
 rcases cJ h with ⟨e1,e2,_⟩|⟨i,⟨xi,⟨xq,⟨xa,xb,xc,xd⟩,xn,xp,xt,xl⟩,xr,xf⟩,e1,e2,e3,e4,e5,_⟩
 ·exact .inl ⟨e1,e2⟩
 exact .inr ⟨i,xi,xa,xb,xc,xd,xn,xp,xt,xf,xq,xr,xl,e1,e2,e3,e5,by rw [List.getD_eq_getElem?_getD,e3];rfl,hP _ (List.mem_of_getElem? e3),by simpa using e4⟩
theorem jM (s:aT) (j:Jb):m9 s j=⟨s.round,s.next,(m9 s j).aX,(m9 s j).tree,s.ap,s.queue,s.ev,s.au⟩:=rfl
theorem EY (ht:TT t) (rd nx ef af:Int) {nl:List Node} {pl:List Place} {tl:List bg} {jl:List Jb} {ql:List cu} {el al:List ek} {ns ps ts js qs es bW:List (List D)} (fF:ns=nl.map Node.cells) (hps:ps=pl.map Place.cells) (hts:ts=tl.map bg.cells) (eW:js=jl.map Jb.cells) (eM:qs=ql.map cu.cells) (aE:es=el.map ek.cells) (has:bW=al.map ek.cells) (id kd:Int) (wM:∀x∈jl,x.x.gx.u'∧x.x.path.length<1000000000000) (htl:tl.length<100000) (hjl:jl.length<1000000) (I0:pl.length<1000000) (Uy:ql.length<1000000) (hel:el.length<1000000):
 FC 39 [.agg [aC rd,aC nx,SL ns,SL ps,SL ts,SL js,SL qs,aC ef,SL es,aC af,SL bW],aC id,bG kd] [] (.ret (LV t (t _ fun _=>gC ⟨rd,nx,⟨nl,pl⟩,tl,jl,ql,⟨ef,el⟩,⟨af,al⟩⟩ id kd))) []:=by
 refine bP ht (aQ:=[]) Tryz.func39 rfl rfl (N:=49) rfl rfl (n:=0) rfl rfl ?_
 cbv
 have bJ:ns.length=nl.length:=by rw [fF,lgM]
 have bQ:ps.length=pl.length:=by rw [hps,lgM]
 have bK:ts.length=tl.length:=by rw [hts,lgM]
 have bT:js.length=jl.length:=by rw [eW,lgM]
 have bq:qs.length=ql.length:=by rw [eM,lgM]
 have aD:es.length=el.length:=by rw [aE,lgM]
 have bD:bW.length=al.length:=by rw [has,lgM]
 refine bc trv (rV ht _ _ _ _ _ _ _ _ _ _ _ ‹_› (by omega)) trv rfl rfl (fun r0 dj=>?_)
 simp only [ht] at dj
 have ec:=EX dj wM
 clear dj
 rcases ec with ⟨e1,e2⟩|⟨i,xi,xa,xb,xc,xd,xn,xp,xt,xf,xq,xr,xl,e1,e2,e3,e4,e5,⟨e6,e7⟩,e8⟩
 ·cbv
  refine av (fun h1=>?_) (fun h1=>?_)
  ·simp [ht] at h1
   cbv
   refine az trv trv rfl rfl rfl ?_
   (simp [gC, *];done)
  simp [ht] at h1
  omega
 cbv
 refine av (fun h2=>?_) (fun h2=>?_)
 ·simp [ht] at h2
  (simp only [ah] at*;omega)
 simp [ht] at h2
 cbv
 refine so ht eW (cT:=Jb.aZ t) e3 ‹_› (fun _=>rfl) (fun _=>(by (simp only [ht,Jb.aZ];rfl))) ?_
 cbv
 refine av (fun h4=>?_) (fun h4=>?_)
 ·simp [ht] at h4
  cbv
  refine az trv trv rfl rfl rfl ?_
  (simp only [ht,gC,e4,e5];simp [*];done)
 simp [ht] at h4
 cbv
 refine aF trv (HP ht _ _ _ _ ‹_› ‹_› ‹_› ‹_› ‹_› ‹_› ‹_› _ _ _ _ _ _ _ _ _ _ _ (kP ht rfl) ‹_› ‹_› ‹_› ‹_›) trv rfl rfl rfl (fun r5 zj=>?_)
 simp only [ht] at zj
 (rw [jM] at zj;generalize OW:(m9 ⟨rd,nx,⟨nl,pl⟩,tl,jl,ql,⟨ef,el⟩,⟨af,al⟩⟩ ⟨xi,⟨xq,⟨xa,xb,xc,xd⟩,xn,xp,xt,xl⟩,xr,xf⟩).aX=fp at zj;generalize hft:(m9 ⟨rd,nx,⟨nl,pl⟩,tl,jl,ql,⟨ef,el⟩,⟨af,al⟩⟩ ⟨xi,⟨xq,⟨xa,xb,xc,xd⟩,xn,xp,xt,xl⟩,xr,xf⟩).tree=ft at zj;subst r5)
 cbv
 refine aF trv (A7 ht _ _ (kP ht rfl) ‹_›) trv rfl rfl rfl (fun r6 ol=>?_)
 simp only [ht] at ol
 cbv
 refine aF trv (L2 ht _ _ _ _ (kP ht rfl) (kP ht rfl) (kP ht rfl) (kP ht rfl) (kP ht rfl) (kP ht rfl) (kP ht rfl) _ _ _ _ _ _ _ _ _ _ _ (kP ht rfl) ‹_› ‹_› ‹_›) trv rfl rfl rfl (fun r7 Dt=>?_)
 simp only [ht] at Dt
 have YU:(r7).ev.l.length<1000000:=by rw [Dt];exact hel
 cbv
 refine aF trv (oc ht _ _ _ _ _ _ (kP ht rfl) (kP ht rfl) (kP ht rfl) (kP ht rfl) (kP ht rfl) (kP ht rfl) (kP ht rfl) ‹_›) trv rfl rfl rfl (fun r8 Ww=>?_)
 simp only [ht] at Ww
 cbv
 refine az trv trv rfl rfl rfl ?_
 (simp only [ht,gC,e4,e5,Ww,Dt,ol];rw [jM,OW,hft];simp [*];done)
theorem QE (ht:TT t) (rd nx ef af:Int) {nl:List Node} {pl:List Place} {tl:List bg} {jl:List Jb} {ql:List cu} {el al:List ek} {ns ps ts js qs es bW:List (List D)} (fF:ns=nl.map Node.cells) (hps:ps=pl.map Place.cells) (hts:ts=tl.map bg.cells) (eW:js=jl.map Jb.cells) (eM:qs=ql.map cu.cells) (aE:es=el.map ek.cells) (has:bW=al.map ek.cells) (id kd:Int) (wM:∀x∈jl,x.x.gx.u'∧x.x.path.length<1000000000000) (htl:tl.length<100000) (hjl:jl.length<1000000) (I0:pl.length<1000000) (Uy:ql.length<1000000) (hel:el.length<1000000):
 FC 24 [.agg [aC rd,aC nx,SL ns,SL ps,SL ts,SL js,SL qs,aC ef,SL es,aC af,SL bW],aC id,bG kd] [] (.ret (LV t (t _ fun _=>send ⟨rd,nx,⟨nl,pl⟩,tl,jl,ql,⟨ef,el⟩,⟨af,al⟩⟩ id kd))) []:=by
 refine bP ht (aQ:=[]) Tryz.func24 rfl rfl (N:=48) rfl rfl (n:=0) rfl rfl ?_
 cbv
 have bJ:ns.length=nl.length:=by rw [fF,lgM]
 have bQ:ps.length=pl.length:=by rw [hps,lgM]
 have bK:ts.length=tl.length:=by rw [hts,lgM]
 have bT:js.length=jl.length:=by rw [eW,lgM]
 have bq:qs.length=ql.length:=by rw [eM,lgM]
 have aD:es.length=el.length:=by rw [aE,lgM]
 have bD:bW.length=al.length:=by rw [has,lgM]
 refine bc trv (rV ht _ _ _ _ _ _ _ _ _ _ _ ‹_› (by omega)) trv rfl rfl (fun r0 dj=>?_)
 simp only [ht] at dj
 have ec:=EX dj wM
 clear dj
 rcases ec with ⟨e1,e2⟩|⟨i,xi,xa,xb,xc,xd,xn,xp,xt,xf,xq,xr,xl,e1,e2,e3,e4,e5,⟨e6,e7⟩,e8⟩
 ·cbv
  refine av (fun h1=>?_) (fun h1=>?_)
  ·simp [ht] at h1
   cbv
   refine az trv trv rfl rfl rfl ?_
   (simp [send, *];done)
  simp [ht] at h1
  omega
 cbv
 refine av (fun h2=>?_) (fun h2=>?_)
 ·simp [ht] at h2
  (simp only [ah] at*;omega)
 simp [ht] at h2
 cbv
 refine so ht eW (cT:=Jb.aZ t) e3 ‹_› (fun _=>rfl) (fun _=>(by (simp only [ht,Jb.aZ];rfl))) ?_
 cbv
 refine av (fun h4=>?_) (fun h4=>?_)
 ·cbv
  refine dO [false,false,false,false,false,false,true,true] (by kernel_rfl) (by kernel_rfl) ?_
  cbv
  iterate 4 refine gI (by simp) ?_
  refine so ht eW (cT:=Jb.aZ t) e3 ‹_› (fun _=>rfl) (fun _=>(by (simp only [ht,Jb.aZ];rfl))) ?_
  cbv
  refine gI (by simp) ?_
  refine aF trv (HP ht _ _ _ _ ‹_› ‹_› ‹_› ‹_› ‹_› ‹_› ‹_› _ _ _ _ _ _ _ _ _ _ _ (kP ht rfl) ‹_› ‹_› ‹_› ‹_›) trv rfl rfl rfl (fun r6 ol=>?_)
  simp only [ht] at ol
  (rw [jM] at ol;generalize OW:(m9 ⟨rd,nx,⟨nl,pl⟩,tl,jl,ql,⟨ef,el⟩,⟨af,al⟩⟩ ⟨xi,⟨xq,⟨xa,xb,xc,xd⟩,xn,xp,xt,xl⟩,xr,xf⟩).aX=fp at ol;generalize hft:(m9 ⟨rd,nx,⟨nl,pl⟩,tl,jl,ql,⟨ef,el⟩,⟨af,al⟩⟩ ⟨xi,⟨xq,⟨xa,xb,xc,xd⟩,xn,xp,xt,xl⟩,xr,xf⟩).tree=ft at ol;subst r6)
  cbv
  refine jY trv (nt ht (kP ht rfl) ‹_›) trv rfl (.inr rfl) ?_
  cbv
  (simp only [ah] at e1;refine dP [3] trv rfl rfl (vH ht (l:=jl) (i:=i) ‹_› (by simp only [ht];rw [wrap64 (by omega) (by omega),e1]) e2 (by omega)) (cK ?_))
  cbv
  refine aF trv (oc ht _ _ _ _ _ _ (kP ht rfl) (kP ht rfl) (kP ht rfl) (kP ht rfl) (kP ht rfl) (kP ht rfl) (kP ht rfl) ‹_›) trv rfl rfl rfl (fun r7 Dt=>?_)
  simp only [ht] at Dt
  cbv
  refine az trv trv rfl rfl rfl ?_
  (subst h4;simp only [ht,send,e4,e5,Dt,if_true];rw [jM,OW,hft];done)
 cbv
 refine aF trv (HR ht _ ‹_› ‹_›) trv rfl rfl rfl (fun r8 Ww=>?_)
 simp only [ht] at Ww
 cbv
 refine jY trv (nt ht ‹_› ‹_›) trv rfl (.inr rfl) ?_
 cbv
 (simp only [ah] at e1;refine dP [2] trv rfl rfl (vH ht (l:=jl) (i:=i) ‹_› (by simp only [ht];rw [wrap64 (by omega) (by omega),e1]) e2 (by omega)) (cK ?_))
 cbv
 refine aF trv (oc ht _ _ _ _ _ _ ‹_› ‹_› ‹_› (kP ht rfl) (kP ht rfl) ‹_› ‹_› ‹_›) trv rfl rfl rfl (fun r9 jU=>?_)
 simp only [ht] at jU
 cbv
 refine az trv trv rfl rfl rfl ?_
 (simp only [ht,send,e4,e5];simp [*];done)
structure aT.sm (s:aT):Prop where
 nodes:s.aX.nodes.length<1000000∧∀x∈s.aX.nodes,x.sm
 places:s.aX.places.length<1000000
 tree:s.tree.length<100000∧∀x∈s.tree,x.path.length<1000000000000
 ap:s.ap.length<1000000∧∀x∈s.ap,x.x.sm∧(0≤x.id∧x.id<18446744073709551616)∧x.x.count<9223372036854775808
 queue:s.queue.length<1000000
 notes:s.ev.l.length<1000000∧s.au.l.length<1000000
theorem Du (ht:TT t) {es:List (List D)} (hr:∀r∈es,r.length=12):FC 138 [SL es] [] (.ret (.cl es)) []:=by
 refine bP ht (aQ:=[]) Tryz.func138 rfl rfl (N:=9) rfl rfl (n:=0) rfl rfl ?_
 cbv
 refine ⟨?_,Jl trv rfl ?_⟩
 ·simp only [ht,ah,bS];exact ⟨⟨⟨by omega,Int.le_refl _⟩,trv⟩,hr⟩
 simp [ht,ah,iD]
theorem Ny (ht:TT t) (rd nx ef af:Int) {nl:List Node} {pl:List Place} {tl:List bg} {jl:List Jb} {ql:List cu} {el al:List ek} {ns ps ts js qs es bW:List (List D)} (fF:ns=nl.map Node.cells) (hps:ps=pl.map Place.cells) (hts:ts=tl.map bg.cells) (eW:js=jl.map Jb.cells) (eM:qs=ql.map cu.cells) (aE:es=el.map ek.cells) (has:bW=al.map ek.cells) (ja jb jc jd jn jp jt:Int) (jq:aK) {oZ:List Term} {EU:List (List D)} (yQ:EU=oZ.map Term.cells) (e0:List D) (er:List (List D)) (hj:js=e0::er) (hx:(⟨jq,⟨ja,jb,jc,jd⟩,jn,jp,jt,oZ⟩:Ask).sm) (htl:tl.length<100000) (hjl:jl.length<1000000) (Uy:ql.length<1000000) (hel:el.length<1000000):
 FC 89 [.agg [aC rd,aC nx,SL ns,SL ps,SL ts,SL js,SL qs,aC ef,SL es,aC af,SL bW],.agg [ST jq,aC ja,aC jb,aC jc,aC jd,bG jn,bG jp,bG jt,SL EU]] [] (.ret (Qp t (t _ fun _=>dc ⟨rd,nx,⟨nl,pl⟩,tl,jl,ql,⟨ef,el⟩,⟨af,al⟩⟩ ⟨jq,⟨ja,jb,jc,jd⟩,jn,jp,jt,oZ⟩))) []:=by
 subst hj
 obtain ⟨ck,Ye⟩:∃ck,ck=eS ⟨jq,⟨ja,jb,jc,jd⟩,jn,jp,jt,oZ⟩:=⟨_,rfl⟩
 obtain ⟨th,Yf⟩:∃th,th=jJ tl jq:=⟨_,rfl⟩
 obtain ⟨⟨q9,e9⟩,h9⟩:∃r,r=jZ ql ⟨nx,jp⟩:=⟨_,rfl⟩
 have hS:dc ⟨rd,nx,⟨nl,pl⟩,tl,jl,ql,⟨ef,el⟩,⟨af,al⟩⟩ ⟨jq,⟨ja,jb,jc,jd⟩,jn,jp,jt,oZ⟩=if ck≠0 then (⟨rd,nx,⟨nl,pl⟩,tl,jl,ql,⟨ef,el⟩,⟨af,al⟩⟩,0,ck) else if !th then (⟨rd,nx,⟨nl,pl⟩,tl,jl,ql,⟨ef,el⟩,⟨af,al⟩⟩,0,7) else if 32≤jl.length∨nx=18446744073709551615 then (⟨rd,nx,⟨nl,pl⟩,tl,jl,ql,⟨ef,el⟩,⟨af,al⟩⟩,0,9) else if e9≠0 then (⟨rd,nx,⟨nl,pl⟩,tl,jl,ql,⟨ef,el⟩,⟨af,al⟩⟩,0,e9) else
  (iI ⟨rd,IntKind.u64.wrap (nx+1),⟨nl,pl⟩,tl,jl++[⟨nx,⟨jq,⟨ja,jb,jc,jd⟩,jn,jp,jt,oZ⟩,false,0⟩],q9,⟨ef,el⟩,⟨af,al⟩⟩ nx 1,nx,0):=by
  simp only [dc,←Ye,←Yf,←h9,u64,←oO]
 rw [hS]
 clear hS
 have hr:∀r∈e0::er,r.length=12:=by rw [eW];intro r hr;obtain ⟨y,_,rfl⟩:=List.mem_map.1 hr;rfl
 have hle:er.length+1=jl.length:=by have:=congrArg List.length eW;simpa using this
 obtain ⟨h1,h2,h3,h4⟩:=id hx
 simp only at h1 h2 h3 h4
 refine bP ht (aQ:=[]) Tryz.func89 rfl rfl (N:=68) rfl rfl (n:=0) rfl rfl ?_
 cbv
 have bJ:ns.length=nl.length:=by rw [fF,lgM]
 have bQ:ps.length=pl.length:=by rw [hps,lgM]
 have bK:ts.length=tl.length:=by rw [hts,lgM]
 have bq:qs.length=ql.length:=by rw [eM,lgM]
 have aD:es.length=el.length:=by rw [aE,lgM]
 have bD:bW.length=al.length:=by rw [has,lgM]
 have EV:EU.length=oZ.length:=by rw [yQ,lgM]
 refine bc trv (Dh ht _ _ _ _ _ _ _ _ ‹_› ‹_›) trv rfl rfl (fun r0 dj=>?_)
 simp only [ht] at dj
 rw [←Ye] at dj
 subst r0
 cbv
 refine av (fun h1=>?_) (fun h1=>?_)
 ·simp [ht] at h1
  cbv
  refine az trv trv rfl rfl rfl ?_
  (simp only [ht];grind)
 simp [ht] at h1
 cbv
 refine bc trv (Dj ht _ ‹_› (by omega) ‹_›) trv rfl rfl (fun r2 iJ=>?_)
 simp only [ht] at iJ
 rw [←Yf] at iJ
 subst r2
 cbv
 refine av (fun h3=>?_) (fun h3=>?_)
 ·simp [ht] at h3
  cbv
  refine az trv trv rfl rfl rfl ?_
  (simp only [ht];grind)
 simp [ht] at h3
 cbv
 iterate 3 refine gI (by simp [ht]) ?_
 refine pI (by simp [ht]) ?_
 refine av (fun h4=>?_) (fun h4=>?_)
 ·simp [ht,ah] at h4
  cbv
  refine az trv trv rfl rfl rfl ?_
  (simp only [ht];grind)
 simp [ht,ah] at h4
 cbv
 refine aF trv (A7 ht _ _ ‹_› ‹_›) trv rfl rfl rfl (fun r5 zj=>?_)
 simp only [ht] at zj
 rw [←h9] at zj
 subst r5
 cbv
 refine av (fun h6=>?_) (fun h6=>?_)
 ·simp [ht] at h6
  cbv
  refine az trv trv rfl rfl rfl ?_
  (simp only [ht];grind)
 simp [ht] at h6
 cbv
 refine Gt [0,4,9,10] [false,false,false,false,false,false,false,false,false,false,false,false,true,true,true,true,true] (by kernel_rfl) (by kernel_rfl) (by kernel_rfl) (by kernel_rfl) (by kernel_rfl) ?_
 cbv
 iterate 3 refine gI (by simp) ?_
 refine .inl ?_
 (refine nB (fun g=>⟨trv,trv,Du ht hr⟩) rfl rfl rfl ?_)
 cbv
 iterate 4 refine gI (by simp) ?_
 refine gI (by (simp only [ht];intro _;refine ⟨by simp only [List.length_cons,List.length_nil];omega,?_⟩;intro r h;rcases List.mem_append.1 h with h|h;exact hr r h;simp at h;subst h;rfl)) ?_
 iterate 3 refine gI (by simp) ?_
 (refine aF trv (oc ht rd _ ef af nx 1 (nl:=nl) (pl:=pl) (tl:=tl) (jl:=jl++[⟨nx,⟨jq,⟨ja,jb,jc,jd⟩,jn,jp,jt,oZ⟩,false,0⟩]) (ql:=q9) (el:=el) (al:=al) fF hps hts (by simp only [ht,eW];simp [Jb.cells,yQ]) (by simp only [ht]) aE has hel) trv rfl rfl rfl (fun r9 jU=>?_);simp only [ht] at jU)
 cbv
 refine az trv trv rfl rfl rfl ?_
 (simp only [ht];grind)
theorem Nz (ht:TT t) (rd nx ef af:Int) {nl:List Node} {pl:List Place} {tl:List bg} {jl:List Jb} {ql:List cu} {el al:List ek} {ns ps ts js qs es bW:List (List D)} (fF:ns=nl.map Node.cells) (hps:ps=pl.map Place.cells) (hts:ts=tl.map bg.cells) (eW:js=jl.map Jb.cells) (eM:qs=ql.map cu.cells) (aE:es=el.map ek.cells) (has:bW=al.map ek.cells) (ja jb jc jd jn jp jt:Int) (jq:aK) {oZ:List Term} {EU:List (List D)} (yQ:EU=oZ.map Term.cells) (hj:js=[]) (hx:(⟨jq,⟨ja,jb,jc,jd⟩,jn,jp,jt,oZ⟩:Ask).sm) (htl:tl.length<100000) (hjl:jl.length<1000000) (Uy:ql.length<1000000) (hel:el.length<1000000):
 FC 89 [.agg [aC rd,aC nx,SL ns,SL ps,SL ts,SL js,SL qs,aC ef,SL es,aC af,SL bW],.agg [ST jq,aC ja,aC jb,aC jc,aC jd,bG jn,bG jp,bG jt,SL EU]] [] (.ret (Qp t (t _ fun _=>dc ⟨rd,nx,⟨nl,pl⟩,tl,jl,ql,⟨ef,el⟩,⟨af,al⟩⟩ ⟨jq,⟨ja,jb,jc,jd⟩,jn,jp,jt,oZ⟩))) []:=by
 subst hj
 obtain ⟨ck,Ye⟩:∃ck,ck=eS ⟨jq,⟨ja,jb,jc,jd⟩,jn,jp,jt,oZ⟩:=⟨_,rfl⟩
 obtain ⟨th,Yf⟩:∃th,th=jJ tl jq:=⟨_,rfl⟩
 obtain ⟨⟨q9,e9⟩,h9⟩:∃r,r=jZ ql ⟨nx,jp⟩:=⟨_,rfl⟩
 have hS:dc ⟨rd,nx,⟨nl,pl⟩,tl,jl,ql,⟨ef,el⟩,⟨af,al⟩⟩ ⟨jq,⟨ja,jb,jc,jd⟩,jn,jp,jt,oZ⟩=if ck≠0 then (⟨rd,nx,⟨nl,pl⟩,tl,jl,ql,⟨ef,el⟩,⟨af,al⟩⟩,0,ck) else if !th then (⟨rd,nx,⟨nl,pl⟩,tl,jl,ql,⟨ef,el⟩,⟨af,al⟩⟩,0,7) else if 32≤jl.length∨nx=18446744073709551615 then (⟨rd,nx,⟨nl,pl⟩,tl,jl,ql,⟨ef,el⟩,⟨af,al⟩⟩,0,9) else if e9≠0 then (⟨rd,nx,⟨nl,pl⟩,tl,jl,ql,⟨ef,el⟩,⟨af,al⟩⟩,0,e9) else
  (iI ⟨rd,IntKind.u64.wrap (nx+1),⟨nl,pl⟩,tl,jl++[⟨nx,⟨jq,⟨ja,jb,jc,jd⟩,jn,jp,jt,oZ⟩,false,0⟩],q9,⟨ef,el⟩,⟨af,al⟩⟩ nx 1,nx,0):=by
  simp only [dc,←Ye,←Yf,←h9,u64,←oO]
 rw [hS]
 clear hS
 have hle:jl=[]:=by cases jl with
  |nil=>rfl
  |cons x l=>cases eW
 obtain ⟨h1,h2,h3,h4⟩:=id hx
 simp only at h1 h2 h3 h4
 refine bP ht (aQ:=[]) Tryz.func89 rfl rfl (N:=68) rfl rfl (n:=0) rfl rfl ?_
 cbv
 have bJ:ns.length=nl.length:=by rw [fF,lgM]
 have bQ:ps.length=pl.length:=by rw [hps,lgM]
 have bK:ts.length=tl.length:=by rw [hts,lgM]
 have bq:qs.length=ql.length:=by rw [eM,lgM]
 have aD:es.length=el.length:=by rw [aE,lgM]
 have bD:bW.length=al.length:=by rw [has,lgM]
 have EV:EU.length=oZ.length:=by rw [yQ,lgM]
 refine bc trv (Dh ht _ _ _ _ _ _ _ _ ‹_› ‹_›) trv rfl rfl (fun r0 dj=>?_)
 simp only [ht] at dj
 rw [←Ye] at dj
 subst r0
 cbv
 refine av (fun h1=>?_) (fun h1=>?_)
 ·simp [ht] at h1
  cbv
  refine az trv trv rfl rfl rfl ?_
  (simp only [ht];grind)
 simp [ht] at h1
 cbv
 refine bc trv (Dj ht _ ‹_› (by omega) ‹_›) trv rfl rfl (fun r2 iJ=>?_)
 simp only [ht] at iJ
 rw [←Yf] at iJ
 subst r2
 cbv
 refine av (fun h3=>?_) (fun h3=>?_)
 ·simp [ht] at h3
  cbv
  refine az trv trv rfl rfl rfl ?_
  (simp only [ht];grind)
 simp [ht] at h3
 cbv
 iterate 3 refine gI (by simp [ht]) ?_
 refine pI (by simp [ht]) ?_
 refine av (fun h4=>?_) (fun h4=>?_)
 ·simp [ht] at h4
  cbv
  refine az trv trv rfl rfl rfl ?_
  (simp only [ht];grind)
 simp [ht] at h4
 cbv
 refine aF trv (A7 ht _ _ ‹_› ‹_›) trv rfl rfl rfl (fun r5 zj=>?_)
 simp only [ht] at zj
 rw [←h9] at zj
 subst r5
 cbv
 refine av (fun h6=>?_) (fun h6=>?_)
 ·simp [ht] at h6
  cbv
  refine az trv trv rfl rfl rfl ?_
  (simp only [ht];grind)
 simp [ht] at h6
 cbv
 refine Gt [0,4,9,10] [false,false,false,false,false,false,false,false,false,false,false,false,true,true,true,true,true] (by kernel_rfl) (by kernel_rfl) (by kernel_rfl) (by kernel_rfl) (by kernel_rfl) ?_
 cbv
 iterate 3 refine gI (by simp) ?_
 refine .inl ?_
 (refine nB (fun g=>⟨trv,trv,Du ht (by simp)⟩) rfl rfl rfl ?_)
 cbv
 iterate 4 refine gI (by simp) ?_
 refine gI (by simp [ht]) ?_
 iterate 3 refine gI (by simp) ?_
 (refine aF trv (oc ht rd _ ef af nx 1 (nl:=nl) (pl:=pl) (tl:=tl) (jl:=jl++[⟨nx,⟨jq,⟨ja,jb,jc,jd⟩,jn,jp,jt,oZ⟩,false,0⟩]) (ql:=q9) (el:=el) (al:=al) fF hps hts (by simp only [ht,hle];simp [Jb.cells,yQ]) (by simp only [ht]) aE has hel) trv rfl rfl rfl (fun r9 jU=>?_);simp only [ht] at jU)
 cbv
 refine az trv trv rfl rfl rfl ?_
 (simp only [ht];grind)
theorem lV (ht:TT t) (rd nx ef af:Int) {nl:List Node} {pl:List Place} {tl:List bg} {jl:List Jb} {ql:List cu} {el al:List ek} {ns ps ts js qs es bW:List (List D)} (fF:ns=nl.map Node.cells) (hps:ps=pl.map Place.cells) (hts:ts=tl.map bg.cells) (eW:js=jl.map Jb.cells) (eM:qs=ql.map cu.cells) (aE:es=el.map ek.cells) (has:bW=al.map ek.cells) (ja jb jc jd jn jp jt:Int) (jq:aK) {oZ:List Term} {EU:List (List D)} (yQ:EU=oZ.map Term.cells) (hx:(⟨jq,⟨ja,jb,jc,jd⟩,jn,jp,jt,oZ⟩:Ask).sm) (htl:tl.length<100000) (hjl:jl.length<1000000) (Uy:ql.length<1000000) (hel:el.length<1000000):
 FC 89 [.agg [aC rd,aC nx,SL ns,SL ps,SL ts,SL js,SL qs,aC ef,SL es,aC af,SL bW],.agg [ST jq,aC ja,aC jb,aC jc,aC jd,bG jn,bG jp,bG jt,SL EU]] [] (.ret (Qp t (t _ fun _=>dc ⟨rd,nx,⟨nl,pl⟩,tl,jl,ql,⟨ef,el⟩,⟨af,al⟩⟩ ⟨jq,⟨ja,jb,jc,jd⟩,jn,jp,jt,oZ⟩))) []:=by
 cases js with
 |nil=>exact Nz ht rd nx ef af fF hps hts eW eM aE has ja jb jc jd jn jp jt jq yQ rfl hx htl hjl Uy hel
 |cons e0 er=>exact Ny ht rd nx ef af fF hps hts eW eM aE has ja jb jc jd jn jp jt jq yQ e0 er rfl hx htl hjl Uy hel
theorem vI (ht:TT t) (rd nx ef af:Int) {nl:List Node} {pl:List Place} {tl:List bg} {jl:List Jb} {ql:List cu} {el al:List ek} {ns ps ts js qs es bW:List (List D)} (fF:ns=nl.map Node.cells) (hps:ps=pl.map Place.cells) (hts:ts=tl.map bg.cells) (eW:js=jl.map Jb.cells) (eM:qs=ql.map cu.cells) (aE:es=el.map ek.cells) (has:bW=al.map ek.cells) (id:Int) {names:List aK} {nr:List (List D)} (hnr:nr=names.map bE) (wM:∀x∈jl,x.x.gx.u'∧x.x.path.length<1000000000000) (htl:tl.length<100000) (hjl:jl.length<1000000) (OG:nl.length<1000000) (I0:pl.length<1000000) (Uy:ql.length<1000000) (hel:el.length<1000000) (hnn:names.length<1000000):
 FC 35 [.agg [aC rd,aC nx,SL ns,SL ps,SL ts,SL js,SL qs,aC ef,SL es,aC af,SL bW],aC id,SL nr] [] (.ret (LV t (t _ fun _=>cq ⟨rd,nx,⟨nl,pl⟩,tl,jl,ql,⟨ef,el⟩,⟨af,al⟩⟩ id names))) []:=by
 refine bP ht (aQ:=[]) Tryz.func35 rfl rfl (N:=100) rfl rfl (n:=0) rfl rfl ?_
 cbv
 have bJ:ns.length=nl.length:=by rw [fF,lgM]
 have bQ:ps.length=pl.length:=by rw [hps,lgM]
 have bK:ts.length=tl.length:=by rw [hts,lgM]
 have bT:js.length=jl.length:=by rw [eW,lgM]
 have bq:qs.length=ql.length:=by rw [eM,lgM]
 have aD:es.length=el.length:=by rw [aE,lgM]
 have bD:bW.length=al.length:=by rw [has,lgM]
 have QF:nr.length=names.length:=by rw [hnr,lgM]
 refine bc trv (rV ht _ _ _ _ _ _ _ _ _ _ _ ‹_› (by omega)) trv rfl rfl (fun r0 dj=>?_)
 simp only [ht] at dj
 have ec:=EX dj wM
 clear dj
 rcases ec with ⟨e1,e2⟩|⟨i,xi,xa,xb,xc,xd,xn,xp,xt,xf,xq,xr,xl,e1,e2,e3,e4,e5,⟨e6,e7⟩,e8⟩
 ·cbv
  refine av (fun h1=>?_) (fun h1=>?_)
  ·simp [ht] at h1
   cbv
   refine az trv trv rfl rfl rfl ?_
   (simp [cq, *];done)
  simp [ht] at h1
  omega
 cbv
 refine av (fun h2=>?_) (fun h2=>?_)
 ·simp [ht] at h2
  (simp only [ah] at*;omega)
 simp [ht] at h2
 cbv
 refine so ht eW (cT:=Jb.aZ t) e3 ‹_› (fun _=>rfl) (fun _=>(by (simp only [ht,Jb.aZ];rfl))) ?_
 cbv
 refine av (fun h4=>?_) (fun h4=>?_)
 ·cbv
  refine az trv trv rfl rfl rfl ?_
  (simp only [ht,cq,e4,e5,jK];simp [*];done)
 cbv
 refine av (fun h5=>?_) (fun h5=>?_)
 ·simp [ht,ah,QF] at h5
  cbv
  refine az trv trv rfl rfl rfl ?_
  (simp only [ht,cq,e4,e5,jK];simp [*];done)
 simp [ht,ah,QF] at h5
 cbv
 (obtain ⟨⟨⟨v1,v2,v3,v4⟩,vk⟩,hv⟩:∃r,r=cZ ⟨xq,⟨xa,xb,xc,xd⟩,xn,xp,xt,xl⟩:=⟨_,rfl⟩;refine bc trv (rU ht xq xa xb xc xd xn xp xt (sl:=xl) _ e6) trv rfl rfl (fun r9 jU=>?_);simp only [ht] at jU;rw [←hv] at jU;subst jU)
 cbv
 refine av (fun h6=>?_) (fun h6=>?_)
 ·simp [ht] at h6
  cbv
  refine az trv trv rfl rfl rfl ?_
  (simp only [ht,cq,e4,e5,jK,←hv];(try (simp only [←Dt];clear Dt));(try (simp only [←jU];clear jU));simp [*];done)
 simp [ht] at h6
 cbv
 refine aF trv (tP ht _ _ _ _ _ ‹_› ‹_› ‹_›) trv rfl rfl rfl (fun r7 Dt=>?_)
 simp only [ht] at Dt
 cbv
 refine av (fun h8=>?_) (fun h8=>?_)
 ·simp [ht] at h8
  cbv
  refine az trv trv rfl rfl rfl ?_
  (simp only [ht,cq,e4,e5,jK,←hv];(try (simp only [←Dt];clear Dt));(try (simp only [←jU];clear jU));simp [*];done)
 simp [ht] at h8
 cbv
 refine aF trv (Vu ht _ _ _ _ _ ‹_› ‹_› ‹_› (by omega) (by omega) (by omega)) trv rfl rfl rfl (fun r9 jU=>?_)
 simp only [ht] at jU
 cbv
 refine av (fun h10=>?_) (fun h10=>?_)
 ·simp [ht] at h10
  cbv
  refine az trv trv rfl rfl rfl ?_
  (simp only [ht,cq,e4,e5,jK,←hv];(try (simp only [←Dt];clear Dt));(try (simp only [←jU];clear jU));simp [*];done)
 simp [ht] at h10
 cbv
 refine aF trv (HR ht _ ‹_› ‹_›) trv rfl rfl rfl (fun r11 aak=>?_)
 simp only [ht] at aak
 cbv
 (refine Ln [0,2] (.more 0 (.more 1 (.one 2 (.one 3 (.one 4 (.one 5 (.one 6 (.one 7 (.one 8 .done))))))) (.one 2 (.more 1 (.one 3 (.one 4 (.one 5 (.one 6 (.one 7 (.one 8 .done)))))) (.one 3 (.more 1 (.one 4 (.one 5 (.one 6 (.one 7 (.one 8 .done))))) (.one 4 (.one 1 (.one 5 (.one 6 (.one 7 (.one 8 .done))))))))))) (.one 2 (.one 0 (.more 1 (.one 3 (.one 4 (.one 5 (.one 6 (.one 7 (.one 8 .done)))))) (.one 3 (.more 1 (.one 4 (.one 5 (.one 6 (.one 7 (.one 8 .done))))) (.one 4 (.one 1 (.one 5 (.one 6 (.one 7 (.one 8 .done)))))))))))) _ (by kernel_rfl) (by kernel_rfl) (by kernel_rfl) (by kernel_rfl) (by cbv;repeat' (first|exact rfl|refine ⟨?_,?_⟩)) ?_)
 cbv
 refine aF trv (L2 ht _ _ _ _ (kP ht rfl) (kP ht rfl) (kP ht rfl) ‹_› (kP ht rfl) ‹_› ‹_› _ _ _ _ _ _ _ _ _ _ _ (kP ht rfl) ‹_› ‹_› ‹_›) trv rfl rfl rfl (fun r12 Yg=>?_)
 simp only [ht] at Yg
 have YU:(r12).ev.l.length<1000000:=by rw [Yg];exact hel
 cbv
 refine aF trv (oc ht _ _ _ _ _ _ (kP ht rfl) (kP ht rfl) (kP ht rfl) (kP ht rfl) (kP ht rfl) (kP ht rfl) (kP ht rfl) ‹_›) trv rfl rfl rfl (fun r13 aal=>?_)
 simp only [ht] at aal
 cbv
 refine az trv trv rfl rfl rfl ?_
 (simp only [ht,cq,e4,e5,jK,←hv];(try (simp only [←Dt];clear Dt));(try (simp only [←jU];clear jU));simp [*];done)
theorem mJ {x:Ask} (h:sJ x):x.sm:=
 ⟨by have:=h.path;omega,⟨h.gx 0 (by decide),h.gx 1 (by decide),h.gx 2 (by decide),h.gx 3 (by decide)⟩,by have:=h.cE;omega,
  fun m hm=>by obtain ⟨a,b,c⟩:=h.key m hm;exact ⟨by omega,by omega,fun v hv=>by have:=c v hv;omega⟩⟩
theorem aT.ok.small {s:aT} (h:s.ok) (l:s.eZ sJ):s.sm where
 nodes:=⟨by have:=h.aX.most;omega,l.names⟩
 places:=by have:=h.Ka;omega
 tree:=⟨by have:=h.tree.most;omega,fun e he=>by have:=l.paths e he;omega⟩
 ap:=⟨by have:=h.most;omega,fun x hx=>⟨mJ (l.xs x hx),⟨by have:=h.vz x hx;omega,by have:=h.vz x hx;have:=h.next;omega⟩,by
  have:=(h.py x hx).1
  unfold eS Ry at this
  split at this
  ·cases this
  split at this
  ·cases this
  simp_all;omega⟩⟩
 queue:=by
  have h1:=h.Vm
  have h2:wJ s.ap≤s.ap.length:=List.length_filter_le _ _
  have:=h.most;omega
 notes:=by have:=h.notes;omega
theorem Bh {l:List Jb} {id:Int} (h:∀x∈l,x.x.sm):(bB l id).1.x.sm:=by
 unfold bB
 split
 ·rename_i x hx;exact h _ (List.mem_of_find?_eq_some hx)
 exact ⟨by decide,by decide,by decide,fun m hm=>by cases hm⟩
theorem HS {nl:List Node} {pl:List Place} (h:nl.length<1000000) (h2:∀x∈nl,x.sm):(nl.filterMap (nW nl pl)).length<1000000∧∀s∈nl.filterMap (nW nl pl),s.labels.length<1000000000:=by
 refine ⟨Nat.lt_of_le_of_lt (List.length_filterMap_le _ _) h,fun s hs=>?_⟩
 obtain ⟨n,hn,e⟩:=List.mem_filterMap.1 hs
 unfold nW at e
 split at e
 ·cases e;exact (h2 n hn).2.1
 cases e
theorem Bk {v:bM}:∀(n:Nat) (l:List bV) (out:List aK),out.length+n≤8→(nX v n l out).1.length≤8
 |0,_,out,h=>by simpa [nX] using h
 |n+1,l,out,h=>by
  rw [nX]
  split
  ·simp
  exact Bk n _ _ (by simp;omega)
theorem wS (l:List bV) (x:List Term) (v:bM) (c:Int):(fit l x v c).1.length<1000000:=by
 unfold fit
 split
 ·simp
 have:=Bk (v:=v) (max c 0).toNat (fitting l x) [] (by simp;omega)
 omega
theorem NA (ht:TT t) (rd nx ef af:Int) {nl:List Node} {pl:List Place} {tl:List bg} {jl:List Jb} {ql:List cu} {el al:List ek} {ns ps ts js qs es bW:List (List D)} (fF:ns=nl.map Node.cells) (hps:ps=pl.map Place.cells) (hts:ts=tl.map bg.cells) (eW:js=jl.map Jb.cells) (eM:qs=ql.map cu.cells) (aE:es=el.map ek.cells) (has:bW=al.map ek.cells) (id:Int) (hjl:jl.length<1000000):
 FC 103 [.agg [aC rd,aC nx,SL ns,SL ps,SL ts,SL js,SL qs,aC ef,SL es,aC af,SL bW],aC id] [] (.ret (Ce t (t _ fun _=>eU ⟨rd,nx,⟨nl,pl⟩,tl,jl,ql,⟨ef,el⟩,⟨af,al⟩⟩ id))) []:=by
 obtain ⟨R,hR⟩:∃R,R=eU ⟨rd,nx,⟨nl,pl⟩,tl,jl,ql,⟨ef,el⟩,⟨af,al⟩⟩ id:=⟨_,rfl⟩
 have YW:R=((bB jl id).1,(bB jl id).2&&!(bB jl id).1.runs):=hR
 rw [←hR]
 refine bP ht (aQ:=[]) Tryz.func103 rfl rfl (N:=21) rfl rfl (n:=0) rfl rfl ?_
 cbv
 have bJ:ns.length=nl.length:=by rw [fF,lgM]
 have bQ:ps.length=pl.length:=by rw [hps,lgM]
 have bK:ts.length=tl.length:=by rw [hts,lgM]
 have bT:js.length=jl.length:=by rw [eW,lgM]
 have bq:qs.length=ql.length:=by rw [eM,lgM]
 have aD:es.length=el.length:=by rw [aE,lgM]
 have bD:bW.length=al.length:=by rw [has,lgM]
 refine aF trv (oa ht _ _ _ _ _ _ _ _ _ _ _ ‹_› (by omega)) trv rfl rfl rfl (fun r0 dj=>?_)
 simp only [ht] at dj
 rw [←dj] at YW
 clear dj
 obtain ⟨⟨jid,⟨jq,⟨ja,jb,jc,jd⟩,jn,jp,jt,oZ⟩,jr,jlf⟩,XU⟩:=r0
 simp only at YW
 cases XU
 ·cbv
  (apply Ln [] (.more 0 (.one 1 (.one 2 (.more 3 (.more 4 (.more 5 (.more 6 (.one 7 (.one 8 .done)) (.one 7 (.one 6 (.one 8 .done)))) (.one 7 (.one 5 (.one 6 (.one 8 .done))))) (.one 7 (.one 4 (.one 5 (.one 6 (.one 8 .done)))))) (.one 7 (.one 3 (.one 4 (.one 5 (.one 6 (.one 8 .done))))))))) (.one 1 (.more 0 (.one 2 (.more 3 (.more 4 (.more 5 (.more 6 (.one 7 (.one 8 .done)) (.one 7 (.one 6 (.one 8 .done)))) (.one 7 (.one 5 (.one 6 (.one 8 .done))))) (.one 7 (.one 4 (.one 5 (.one 6 (.one 8 .done)))))) (.one 7 (.one 3 (.one 4 (.one 5 (.one 6 (.one 8 .done)))))))) (.one 2 (.more 0 (.more 3 (.more 4 (.more 5 (.more 6 (.one 7 (.one 8 .done)) (.one 7 (.one 6 (.one 8 .done)))) (.one 7 (.one 5 (.one 6 (.one 8 .done))))) (.one 7 (.one 4 (.one 5 (.one 6 (.one 8 .done)))))) (.one 7 (.one 3 (.one 4 (.one 5 (.one 6 (.one 8 .done))))))) (.one 3 (.more 0 (.more 4 (.more 5 (.more 6 (.one 7 (.one 8 .done)) (.one 7 (.one 6 (.one 8 .done)))) (.one 7 (.one 5 (.one 6 (.one 8 .done))))) (.one 7 (.one 4 (.one 5 (.one 6 (.one 8 .done)))))) (.one 4 (.more 0 (.more 5 (.more 6 (.one 7 (.one 8 .done)) (.one 7 (.one 6 (.one 8 .done)))) (.one 7 (.one 5 (.one 6 (.one 8 .done))))) (.one 5 (.more 0 (.more 6 (.one 7 (.one 8 .done)) (.one 7 (.one 6 (.one 8 .done)))) (.one 6 (.one 0 (.one 7 (.one 8 .done)))))))))))))));kernel_rfl;kernel_rfl;kernel_rfl;kernel_rfl;(next=>cbv;repeat (first|(refine pp rfl ?_;cbv)|refine And.intro ?_ ?_|exact rfl|exact True.intro|exact ⟨⟨by simp,by simp⟩⟩)))
  cbv
  refine az trv trv rfl rfl rfl ?_
  (clear hR;simp [ht,YW];done)
 cbv
 (apply Ln [] (.more 0 (.one 1 (.one 2 (.more 3 (.more 4 (.more 5 (.more 6 (.one 7 (.one 8 .done)) (.one 7 (.one 6 (.one 8 .done)))) (.one 7 (.one 5 (.one 6 (.one 8 .done))))) (.one 7 (.one 4 (.one 5 (.one 6 (.one 8 .done)))))) (.one 7 (.one 3 (.one 4 (.one 5 (.one 6 (.one 8 .done))))))))) (.one 1 (.more 0 (.one 2 (.more 3 (.more 4 (.more 5 (.more 6 (.one 7 (.one 8 .done)) (.one 7 (.one 6 (.one 8 .done)))) (.one 7 (.one 5 (.one 6 (.one 8 .done))))) (.one 7 (.one 4 (.one 5 (.one 6 (.one 8 .done)))))) (.one 7 (.one 3 (.one 4 (.one 5 (.one 6 (.one 8 .done)))))))) (.one 2 (.more 0 (.more 3 (.more 4 (.more 5 (.more 6 (.one 7 (.one 8 .done)) (.one 7 (.one 6 (.one 8 .done)))) (.one 7 (.one 5 (.one 6 (.one 8 .done))))) (.one 7 (.one 4 (.one 5 (.one 6 (.one 8 .done)))))) (.one 7 (.one 3 (.one 4 (.one 5 (.one 6 (.one 8 .done))))))) (.one 3 (.more 0 (.more 4 (.more 5 (.more 6 (.one 7 (.one 8 .done)) (.one 7 (.one 6 (.one 8 .done)))) (.one 7 (.one 5 (.one 6 (.one 8 .done))))) (.one 7 (.one 4 (.one 5 (.one 6 (.one 8 .done)))))) (.one 4 (.more 0 (.more 5 (.more 6 (.one 7 (.one 8 .done)) (.one 7 (.one 6 (.one 8 .done)))) (.one 7 (.one 5 (.one 6 (.one 8 .done))))) (.one 5 (.more 0 (.more 6 (.one 7 (.one 8 .done)) (.one 7 (.one 6 (.one 8 .done)))) (.one 6 (.one 0 (.one 7 (.one 8 .done)))))))))))))));kernel_rfl;kernel_rfl;kernel_rfl;kernel_rfl;(next=>cbv;repeat (first|(refine lp rfl ?_;cbv)|refine And.intro ?_ ?_|exact rfl|exact True.intro|exact ⟨⟨by simp,by simp⟩⟩)))
 cbv
 refine az trv trv rfl rfl rfl ?_
 (clear hR;simp [ht,YW];done)
theorem HT (ht:TT t) (rd nx ef af:Int) {nl:List Node} {pl:List Place} {tl:List bg} {jl:List Jb} {ql:List cu} {el al:List ek} {ns ps ts js qs es bW:List (List D)} (fF:ns=nl.map Node.cells) (hps:ps=pl.map Place.cells) (hts:ts=tl.map bg.cells) (eW:js=jl.map Jb.cells) (eM:qs=ql.map cu.cells) (aE:es=el.map ek.cells) (has:bW=al.map ek.cells) (hs:(⟨rd,nx,⟨nl,pl⟩,tl,jl,ql,⟨ef,el⟩,⟨af,al⟩⟩:aT).sm) (id:Int) {on:List Node} {op:List Place} {onr YX:List (List D)} (hon:onr=on.map Node.cells) (hop:YX=op.map Place.cells) (ho1:on.length<1000000) (Wp:∀x∈on,x.sm) (ho3:op.length<1000000) (f:Nat) (cs:List D) (W:aK→bM→Bool)
 (hw:∀(q:aK) (a b c d:Int),q.length<1000000000000→FC f [ST q,V4 a b c d,.ep cs] [] (.ret (dh (t _ fun _=>W q ⟨a,b,c,d⟩))) []):
 FC 56 [.agg [aC rd,aC nx,SL ns,SL ps,SL ts,SL js,SL qs,aC ef,SL es,aC af,SL bW],aC id,.agg [SL onr,SL YX],.fn f [.ep cs]] [] (.ret (Cf t (t _ fun _=>ic ⟨rd,nx,⟨nl,pl⟩,tl,jl,ql,⟨ef,el⟩,⟨af,al⟩⟩ id ⟨on,op⟩ W))) []:=by
 obtain ⟨⟨s1,s2⟩,s3,⟨s4,s5⟩,⟨s6,s7⟩,s8,s9,VP⟩:=(show aT.sm _ from hs)
 simp only at s1 s2 s3 s4 s5 s6 s7 s8 s9 VP
 obtain ⟨YY,YZ⟩:=HS ho1 Wp (pl:=op)
 obtain ⟨S,hS⟩:∃S,S=ic ⟨rd,nx,⟨nl,pl⟩,tl,jl,ql,⟨ef,el⟩,⟨af,al⟩⟩ id ⟨on,op⟩ W:=⟨_,rfl⟩
 have WB:=hS
 unfold ic at WB
 rw [←hS]
 obtain ⟨w,hw1⟩:∃w,w=eU ⟨rd,nx,⟨nl,pl⟩,tl,jl,ql,⟨ef,el⟩,⟨af,al⟩⟩ id:=⟨_,rfl⟩
 have Y0:w.1.x.sm:=by rw [hw1];exact Bh (fun x hx=>(s7 x hx).1)
 rw [←hw1] at WB
 refine bP ht (aQ:=[]) Tryz.func56 rfl rfl (N:=60) rfl rfl (n:=0) rfl rfl ?_
 cbv
 have bJ:ns.length=nl.length:=by rw [fF,lgM]
 have bQ:ps.length=pl.length:=by rw [hps,lgM]
 have bK:ts.length=tl.length:=by rw [hts,lgM]
 have bT:js.length=jl.length:=by rw [eW,lgM]
 have bq:qs.length=ql.length:=by rw [eM,lgM]
 have aD:es.length=el.length:=by rw [aE,lgM]
 have bD:bW.length=al.length:=by rw [has,lgM]
 have Y2:onr.length=on.length:=by rw [hon,lgM]
 have Y3:YX.length=op.length:=by rw [hop,lgM]
 (refine aF trv (NA ht rd nx ef af fF hps hts eW eM aE has _ s6) (by simp) rfl rfl rfl (fun r1 cF=>?_);simp only [ht] at cF;rw [←hw1] at cF;subst r1)
 cbv
 refine av (fun h0=>?_) (fun h0=>?_)
 ·simp [ht] at h0
  cbv
  refine az trv trv rfl rfl rfl ?_
  (simp only [ht];grind)
 simp [ht] at h0
 cbv
 (refine bc trv (rU ht _ _ _ _ _ _ _ _ (sl:=w.1.x.cE) _ Y0.2.1) (by simp) rfl rfl (fun rv erv=>?_);simp only [ht] at erv)
 cbv
 refine dO [false,false,false,false,false,false,false,false,false,false,false,true,true,false,false,false,true] (by kernel_rfl) (by kernel_rfl) ?_
 cbv
 refine gI (by simp) ?_
 refine .inl ?_
 (refine gX (fun g=>⟨by simp,trv,A2 ht hon hop (by ((try simp only at*);omega)) (by ((try simp only at*);omega))⟩) rfl rfl rfl (fun r3 mM=>?_);simp only [ht] at mM)
 cbv
 iterate 9 refine gI (by simp) ?_
 (refine aF trv (Kl ht _ _ _ _ _ (l:=r3) (by simp only [ht]) (by rw [mM];exact YY) (by rw [mM];exact YZ) (x:=w.1.x.cE) (by simp only [ht]) Y0.2.2.1 (fun m hm=>(Y0.2.2.2 m hm).2.1)) (by simp) rfl rfl rfl (fun r4 k9=>?_);simp only [ht] at k9)
 cbv
 iterate 3 refine gI (by simp) ?_
 iterate 2 refine gI (by simp [ht]) ?_
 refine pI (by simp [ht]) ?_
 iterate 5 refine gI (by simp [ht]) ?_
 (refine eY (fun g=>⟨⟨g,g,g,trv⟩,trv,hw _ _ _ _ _ Y0.1⟩) rfl rfl (fun r6 ol=>?_);simp only [ht] at ol)
 cbv
 refine gI (by simp [ht]) ?_
 refine pI (by simp [ht]) ?_
 refine av (fun h1=>?_) (fun h1=>?_)
 ·simp [ht] at h1
  cbv
  refine az trv trv rfl rfl rfl ?_
  (have e4:fit (eT ⟨on,op⟩) w.1.x.cE w.1.x.gx w.1.x.count=r4:=(by rw [k9,mM];rfl);have e2:cZ w.1.x=rv:=erv.symm;have e6:W w.1.x.path rv.1=r6:=ol.symm;have e7:S=if r6=true∧rv.2=true∧r4.2=true then (r4.1,true) else ([],false):=(by rw [WB,e4,e2,e6,if_neg (by simp [h0])];cases r6<;>cases rv.2<;>cases r4.2<;>simp);clear WB hS;((rw [if_neg (by rintro ⟨g1,g2,g3⟩;rw [g1,g2,g3] at h1;simp at h1)] at e7;simp [ht,e7];done)))
 simp [ht] at h1
 cbv
 refine az trv trv rfl rfl rfl ?_
 (have e4:fit (eT ⟨on,op⟩) w.1.x.cE w.1.x.gx w.1.x.count=r4:=(by rw [k9,mM];rfl);have e2:cZ w.1.x=rv:=erv.symm;have e6:W w.1.x.path rv.1=r6:=ol.symm;have e7:S=if r6=true∧rv.2=true∧r4.2=true then (r4.1,true) else ([],false):=(by rw [WB,e4,e2,e6,if_neg (by simp [h0])];cases r6<;>cases rv.2<;>cases r4.2<;>simp);clear WB hS;((rw [if_pos ⟨h1.2,h1.1.1,h1.1.2⟩] at e7;simp [ht,e7];done)))
theorem Tj (ht:TT t) (rd nx ef af:Int) {tl:List bg} {ns ps ts js qs es bW:List (List D)} (hts:ts=tl.map bg.cells) (htl:tl.length<100000) (q:aK) (a b c d:Int) (hq:q.length<1000000000000):
 FC 57 [ST q,V4 a b c d,.ep [.int .u64 rd,.int .u64 nx,.sl ns,.sl ps,.sl ts,.sl js,.sl qs,.int .u64 ef,.sl es,.int .u64 af,.sl bW]] [] (.ret (dh (t _ fun _=>decide ((c6 tl q ⟨a,b,c,d⟩).2=0)))) []:=by
 refine bP ht (aQ:=[]) Tryz.func57 rfl rfl (N:=18) rfl rfl (n:=0) rfl rfl ?_
 cbv
 have bK:ts.length=tl.length:=by rw [hts,lgM]
 (refine aF trv (tP ht _ _ _ _ _ hts htl hq) (by simp [ht]) rfl rfl rfl (fun r1 cF=>?_);simp only [ht] at cF)
 cbv
 refine az trv trv rfl rfl rfl ?_
 (simp only [ht,←cF];done)
theorem QG (ht:TT t) (rd nx ef af:Int) {tl:List bg} {ns ps ts js qs es bW:List (List D)} (hts:ts=tl.map bg.cells) (htl:tl.length<100000) (q:aK) (a b c d:Int) (hq:q.length<1000000000000):
 FC 60 [ST q,V4 a b c d,.ep [.int .u64 rd,.int .u64 nx,.sl ns,.sl ps,.sl ts,.sl js,.sl qs,.int .u64 ef,.sl es,.int .u64 af,.sl bW]] [] (.ret (dh (t _ fun _=>qN tl q ⟨a,b,c,d⟩))) []:=by
 refine bP ht (aQ:=[]) Tryz.func60 rfl rfl (N:=11) rfl rfl (n:=0) rfl rfl ?_
 cbv
 have bK:ts.length=tl.length:=by rw [hts,lgM]
 (refine bc trv (Qt ht _ _ _ _ _ hts htl hq) (by simp [ht]) rfl rfl (fun r1 cF=>?_);simp only [ht] at cF)
 cbv
 refine az trv trv rfl rfl rfl ?_
 (simp only [ht,←cF];done)
theorem Tk (ht:TT t) (ns ps:List (List D)):FC 59 [.agg [SL ns,SL ps]] [] (.ret (.agg [SL ns,SL []])) []:=by
 refine bP ht (aQ:=[]) Tryz.func59 rfl rfl (N:=6) rfl rfl (n:=0) rfl rfl ?_
 cbv
 refine az trv trv rfl rfl rfl ?_
 rfl
theorem Tl (ht:TT t) (rd nx ef af:Int) {nl:List Node} {pl:List Place} {tl:List bg} {jl:List Jb} {ql:List cu} {el al:List ek} {ns ps ts js qs es bW:List (List D)} (fF:ns=nl.map Node.cells) (hps:ps=pl.map Place.cells) (hts:ts=tl.map bg.cells) (eW:js=jl.map Jb.cells) (eM:qs=ql.map cu.cells) (aE:es=el.map ek.cells) (has:bW=al.map ek.cells) (hs:(⟨rd,nx,⟨nl,pl⟩,tl,jl,ql,⟨ef,el⟩,⟨af,al⟩⟩:aT).sm) (id:Int):FC 20 [.agg [aC rd,aC nx,SL ns,SL ps,SL ts,SL js,SL qs,aC ef,SL es,aC af,SL bW],aC id] [] (.ret (Cf t (t _ fun _=>gj ⟨rd,nx,⟨nl,pl⟩,tl,jl,ql,⟨ef,el⟩,⟨af,al⟩⟩ id))) []:=by
 obtain ⟨⟨s1,s2⟩,s3,⟨s4,s5⟩,⟨s6,s7⟩,s8,s9,VP⟩:=(show aT.sm _ from hs)
 simp only at s1 s2 s3 s4 s5 s6 s7 s8 s9 VP
 obtain ⟨W,hW⟩:∃W:aK→bM→Bool,W=fun p v=>decide ((c6 tl p v).2=0):=⟨_,rfl⟩
 have hA:=HT ht rd nx ef af fF hps hts eW eM aE has hs id fF hps s1 s2 s3 57 [.int .u64 rd,.int .u64 nx,.sl ns,.sl ps,.sl ts,.sl js,.sl qs,.int .u64 ef,.sl es,.int .u64 af,.sl bW] W (fun q a b c d hq=>by rw [hW];exact Tj ht rd nx ef af hts s4 q a b c d hq)
 have hE:gj ⟨rd,nx,⟨nl,pl⟩,tl,jl,ql,⟨ef,el⟩,⟨af,al⟩⟩ id=ic ⟨rd,nx,⟨nl,pl⟩,tl,jl,ql,⟨ef,el⟩,⟨af,al⟩⟩ id ⟨nl,pl⟩ W:=by rw [hW];rfl
 rw [hE]
 have hB:=qP (bx:=[.var [aC rd,aC nx,SL ns,SL ps,SL ts,SL js,SL qs,aC ef,SL es,aC af,SL bW]]) (b:=0) (xs:=[.agg [aC rd,aC nx,SL ns,SL ps,SL ts,SL js,SL qs,aC ef,SL es,aC af,SL bW],aC id,.agg [SL ns,SL ps]]) rfl rfl rfl (dK [] rfl rfl rfl rfl hA)
 refine bP ht (aQ:=[]) Tryz.func20 rfl rfl (N:=14) rfl rfl (n:=0) rfl rfl ?_
 cbv
 have bJ:ns.length=nl.length:=by rw [fF,lgM]
 have bQ:ps.length=pl.length:=by rw [hps,lgM]
 have bK:ts.length=tl.length:=by rw [hts,lgM]
 have bT:js.length=jl.length:=by rw [eW,lgM]
 have bq:qs.length=ql.length:=by rw [eM,lgM]
 have aD:es.length=el.length:=by rw [aE,lgM]
 have bD:bW.length=al.length:=by rw [has,lgM]
 (refine Jn (E:=Cf t) (r0:=t _ fun _=>ic ⟨rd,nx,⟨nl,pl⟩,tl,jl,ql,⟨ef,el⟩,⟨af,al⟩⟩ id ⟨nl,pl⟩ W) trv rfl (by simp [ht]) hB (fun r1 cF=>?_);simp only [ht] at cF)
 cbv
 refine az trv trv rfl rfl rfl ?_
 (simp [ht,Cf, *];done)
theorem wT (ht:TT t) (rd nx ef af:Int) {nl:List Node} {pl:List Place} {tl:List bg} {jl:List Jb} {ql:List cu} {el al:List ek} {ns ps ts js qs es bW:List (List D)} (fF:ns=nl.map Node.cells) (hps:ps=pl.map Place.cells) (hts:ts=tl.map bg.cells) (eW:js=jl.map Jb.cells) (eM:qs=ql.map cu.cells) (aE:es=el.map ek.cells) (has:bW=al.map ek.cells) (hs:(⟨rd,nx,⟨nl,pl⟩,tl,jl,ql,⟨ef,el⟩,⟨af,al⟩⟩:aT).sm) (id:Int):FC 23 [.agg [aC rd,aC nx,SL ns,SL ps,SL ts,SL js,SL qs,aC ef,SL es,aC af,SL bW],aC id] [] (.ret (dh (t _ fun _=>cL ⟨rd,nx,⟨nl,pl⟩,tl,jl,ql,⟨ef,el⟩,⟨af,al⟩⟩ id))) []:=by
 obtain ⟨⟨s1,s2⟩,s3,⟨s4,s5⟩,⟨s6,s7⟩,s8,s9,VP⟩:=(show aT.sm _ from hs)
 simp only at s1 s2 s3 s4 s5 s6 s7 s8 s9 VP
 obtain ⟨W,hW⟩:∃W:aK→bM→Bool,W=fun p v=>qN tl p v:=⟨_,rfl⟩
 have hA:=HT ht rd nx ef af fF hps hts eW eM aE has hs id (op:=[]) (YX:=[]) fF rfl s1 s2 (by simp) 60 [.int .u64 rd,.int .u64 nx,.sl ns,.sl ps,.sl ts,.sl js,.sl qs,.int .u64 ef,.sl es,.int .u64 af,.sl bW] W (fun q a b c d hq=>by rw [hW];exact QG ht rd nx ef af hts s4 q a b c d hq)
 have hE:cL ⟨rd,nx,⟨nl,pl⟩,tl,jl,ql,⟨ef,el⟩,⟨af,al⟩⟩ id=(ic ⟨rd,nx,⟨nl,pl⟩,tl,jl,ql,⟨ef,el⟩,⟨af,al⟩⟩ id ⟨nl,[]⟩ W).2:=by rw [hW];rfl
 obtain ⟨r,hr⟩:∃r,r=ic ⟨rd,nx,⟨nl,pl⟩,tl,jl,ql,⟨ef,el⟩,⟨af,al⟩⟩ id ⟨nl,[]⟩ W:=⟨_,rfl⟩
 rw [←hr] at hE hA
 rw [hE]
 have hB:=qP (bx:=[.var [aC rd,aC nx,SL ns,SL ps,SL ts,SL js,SL qs,aC ef,SL es,aC af,SL bW]]) (b:=0) (xs:=[.agg [aC rd,aC nx,SL ns,SL ps,SL ts,SL js,SL qs,aC ef,SL es,aC af,SL bW],aC id,.agg [SL ns,SL []]]) rfl rfl rfl (dK [] rfl rfl rfl rfl hA)
 refine bP ht (aQ:=[]) Tryz.func23 rfl rfl (N:=18) rfl rfl (n:=0) rfl rfl ?_
 cbv
 have bJ:ns.length=nl.length:=by rw [fF,lgM]
 have bQ:ps.length=pl.length:=by rw [hps,lgM]
 have bK:ts.length=tl.length:=by rw [hts,lgM]
 have bT:js.length=jl.length:=by rw [eW,lgM]
 have bq:qs.length=ql.length:=by rw [eM,lgM]
 have aD:es.length=el.length:=by rw [aE,lgM]
 have bD:bW.length=al.length:=by rw [has,lgM]
 refine dO [false,false,false,false,false,false,true,true,false,false,false,true] (by kernel_rfl) (by kernel_rfl) ?_
 cbv
 iterate 4 refine gI (by simp [ht,aj]) ?_
 refine .inl ?_
 (refine nB (fun g=>⟨by simp [ht],trv,Tk ht ns ps⟩) rfl rfl rfl ?_)
 cbv
 refine gI (by simp [ht,aj]) ?_
 (refine dP [0] trv rfl rfl hB (cK ?_))
 cbv
 iterate 3 refine gI (by simp [ht,aj]) ?_
 refine az trv trv rfl rfl rfl ?_
 (simp only [ht];done)
def iX.aZ (_:Th) (x:iX):List D:=[.int .u8 x.kind,.int .u8 x.a,.int .u8 x.b,.int .u8 x.c,.int .u8 x.d]
instance:Inhabited iX:=⟨⟨0,0,0,0,0⟩⟩
structure Told (s:aT) (rd nx:Int) (ns ps ts js qs:List (List D)) (ef:Int) (es:List (List D)) (af:Int) (bW:List (List D)):Prop where
 r:rd=s.round
 x:nx=s.next
 n:ns=s.aX.nodes.map Node.cells
 p:ps=s.aX.places.map Place.cells
 t:ts=s.tree.map bg.cells
 j:js=s.ap.map Jb.cells
 q:qs=s.queue.map cu.cells
 f:ef=s.ev.first
 e:es=s.ev.l.map ek.cells
 g:af=s.au.first
 a:bW=s.au.l.map ek.cells
theorem Told.self (s:aT):Told s s.round s.next (s.aX.nodes.map Node.cells) (s.aX.places.map Place.cells) (s.tree.map bg.cells) (s.ap.map Jb.cells) (s.queue.map cu.cells) s.ev.first (s.ev.l.map ek.cells) s.au.first (s.au.l.map ek.cells):=
 ⟨rfl,rfl,rfl,rfl,rfl,rfl,rfl,rfl,rfl,rfl,rfl⟩
theorem Told.eq {s:aT} {rd nx ef af:Int} {ns ps ts js qs es bW:List (List D)} (h:Told s rd nx ns ps ts js qs ef es af bW):(⟨rd,nx,⟨s.aX.nodes,s.aX.places⟩,s.tree,s.ap,s.queue,⟨ef,s.ev.l⟩,⟨af,s.au.l⟩⟩:aT)=s:=by
 rw [h.r,h.x,h.f,h.g]
end Dem
end
