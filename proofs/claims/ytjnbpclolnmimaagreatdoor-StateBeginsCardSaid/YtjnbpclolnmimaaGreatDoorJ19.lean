/- Parts of a proof, joined. -/
import Derived.Test.YtjnbpclolnmimaaGreatDoorJ18
import Derived.Lib.Mul64
set_option linter.unusedSimpArgs false
set_option linter.unusedVariables false
set_option maxRecDepth 100000
set_option maxHeartbeats 4000000
section
open Go Dem Go.Proofs
namespace Dem
variable {t:Th}
theorem UF (ht:TT t) (nm:aD) (a b c d:Int) {lb:List bT} {lr:List (List D)} (hlr:lr=lb.map bT.cells) (up:Bool) (hu:(⟨a,b,c,d⟩:bz).u) (hl:lb.length<1000000000) (fR:∀p∈lb,p.sm) (hn:(C2 ⟨nm,⟨a,b,c,d⟩,lb,up⟩).length<9223372036854775000):
 FC 129 [.agg [ST nm,az a,az b,az c,az d,SL lr,BL up]] [] (.ret (tG (t _ fun _=>C2 ⟨nm,⟨a,b,c,d⟩,lb,up⟩))) []:=by
 have hn2:=hn
 simp only [C2,bH,List.length_append] at hn2
 refine bC ht (aE:=[]) Tryz.func129 (c:=_) rfl rfl (N:=20) rfl (rs:=_) rfl (n:=0) rfl rfl ?_
 cbv
 have KZ:lr.length=lb.length:=by rw [hlr,lgM]
 refine ai (fun h0=>?_) (fun h0=>?_)
 ·cbv
  refine bJ [false,false,false,false,false,false,false,false,false,false,false,false,false,true,true] (by kernel_rfl) (by kernel_rfl) ?_
  cbv
  iterate 2 refine gI (by simp) ?_
  refine .inl ?_
  refine aM (fun g1=>⟨trivial,trivial,dP ht _ (by omega)⟩) rfl rfl (fun r2 cP=>?_)
  simp only [ht] at cP
  have Xv:(r2).length=(ej nm.length).length+nm.length:=by rw [cP,bH,List.length_append]
  cbv
  iterate 2 refine gI (by simp) ?_
  refine .inl ?_
  refine aM (fun g3=>⟨trivial,trivial,tg ht _ _ _ _ (by assumption)⟩) rfl rfl (fun r4 dO=>?_)
  simp only [ht] at dO
  have ZM:(r4).length≤40:=by rw [dO];exact BI _
  cbv
  refine gI (by simp [ht];omega) ?_
  iterate 2 refine gI (by simp) ?_
  refine .inl ?_
  refine aM (fun g5=>⟨trivial,trivial,M2 ht (by assumption) (by assumption) (by assumption) (by omega)⟩) rfl rfl (fun r6 gv=>?_)
  simp only [ht] at gv
  have ZN:(r6).length=(Fo lb).length:=by rw [gv]
  cbv
  refine gI (by simp [ht];omega) ?_
  refine gI (by simp) ?_
  refine .inl ?_
  refine aM (fun g7=>⟨trivial,trivial,cK ht _ (by omega)⟩) rfl rfl (fun r8 qy=>?_)
  simp only [ht] at qy
  have ZO:(r8).length≤10:=by rw [qy];exact c6 _
  cbv
  refine ⟨?_,?_⟩
  ·(simp [ht];omega)
  cbv
  refine an trivial trivial rfl rfl rfl ?_
  (simp [C2, *];done)
 cbv
 refine bJ [false,false,false,false,false,false,false,false,false,false,false,false,false,true,true] (by kernel_rfl) (by kernel_rfl) ?_
 cbv
 iterate 2 refine gI (by simp) ?_
 refine .inl ?_
 refine aM (fun g9=>⟨trivial,trivial,dP ht _ (by omega)⟩) rfl rfl (fun r10 BR=>?_)
 simp only [ht] at BR
 have adF:(r10).length=(ej nm.length).length+nm.length:=by rw [BR,bH,List.length_append]
 cbv
 iterate 2 refine gI (by simp) ?_
 refine .inl ?_
 refine aM (fun g11=>⟨trivial,trivial,tg ht _ _ _ _ (by assumption)⟩) rfl rfl (fun Xw oN=>?_)
 simp only [ht] at oN
 have V0:(Xw).length≤40:=by rw [oN];exact BI _
 cbv
 refine gI (by simp [ht];omega) ?_
 iterate 2 refine gI (by simp) ?_
 refine .inl ?_
 refine aM (fun g13=>⟨trivial,trivial,M2 ht (by assumption) (by assumption) (by assumption) (by omega)⟩) rfl rfl (fun r14 wK=>?_)
 simp only [ht] at wK
 have ZP:(r14).length=(Fo lb).length:=by rw [wK]
 cbv
 refine gI (by simp [ht];omega) ?_
 refine gI (by simp) ?_
 refine .inl ?_
 refine aM (fun g15=>⟨trivial,trivial,cK ht _ (by omega)⟩) rfl rfl (fun r16 FO=>?_)
 simp only [ht] at FO
 have ZQ:(r16).length≤10:=by rw [FO];exact c6 _
 cbv
 refine ⟨?_,?_⟩
 ·(simp [ht];omega)
 cbv
 refine an trivial trivial rfl rfl rfl ?_
 (simp [C2, *];done)
theorem UG (ht:TT t) {l:List Node} {ps:List Place} {es qs:List (List D)} (aF:es=l.map Node.cells) (fq:qs=ps.map Place.cells) (hl:l.length<1000000000) (nQ:ps.length<1000000000) (fR:∀x∈l,x.sm) (hu:∀x∈l,x.cap.u)
 (hxu:∀x∈ps,x.v.u∧x.bu<18446744073709551616) (hn:(C3 ⟨l,ps⟩).length<9223372036854775000):
 FC 73 [.agg [SL es,SL qs]] [] (.ret (tG (t _ fun _=>C3 ⟨l,ps⟩))) []:=by
 have C7:IntKind.u64.wrap (es.length:Int)=l.length:=by rw [bG,aF,lgM];omega
 have hqw:IntKind.u64.wrap (qs.length:Int)=ps.length:=by rw [bG,fq,lgM];omega
 refine bC ht (aE:=[]) Tryz.func73 (c:=_) rfl rfl (N:=54) rfl (rs:=_) rfl (n:=0) rfl rfl ?_
 cbv
 have ar:es.length=l.length:=by rw [aF,lgM]
 have dM:qs.length=ps.length:=by rw [fq,lgM]
 refine ay trivial (cK ht _ (by (simp only [ht];((try simp only [aa] at*);omega)))) trivial rfl rfl (fun r0 bE=>?_)
 simp only [ht] at bE
 (try rw [C7] at bE)
 (try rw [hqw] at bE)
 have Xs:=congrArg List.length bE
 (try have eps:r0=ej (ps.length:Int):=bE)
 cbv
 obtain ⟨J1,fe⟩:∃J1:Nat→List UInt8×Int→Prop,∀n o i,J1 n (o,i)↔(∃k:Nat,i=k∧k+n=l.length∧C3 ⟨l,ps⟩=o++((l.drop k).map C2).flatten++ej ps.length++(ps.map NN).flatten):=⟨fun n v=>match v with|(o,i)=>(∃k:Nat,i=k∧k+n=l.length∧C3 ⟨l,ps⟩=o++((l.drop k).map C2).flatten++ej ps.length++(ps.map NN).flatten),fun _ _ _=>Iff.rfl⟩
 refine aZ ⟨[1,3,14,15,16],[],[]⟩ (σ:=List UInt8×Int) (fun v=>[(3,.d (.str (t _ fun _=>v.1))),(16,.d (.int .i64 (t _ fun _=>v.2)))]) (fun v=>[]) J1 ?_
 cbv
 refine aA ⟨l.length,(_,_),(fe _ _ _).2 ?_,by simp only [ht];rfl,?_⟩
 ·exact ⟨0,rfl,by simp,by simp [C3, *]⟩
 rintro n ⟨o,i⟩ hj
 replace hj:=(fe _ _ _).1 hj
 obtain ⟨k,rfl,j1,j4⟩:=hj
 cbv
 refine ai (fun h2=>?_) (fun h2=>?_)
 ·simp [ht,aa,ar] at h2
  cbv
  refine dg ht aF (cT:=Node.aH t) (by (simp only [ht,aa];omega)) (by (simp only [ht,aa];omega)) (fun _=>rfl) (fun _=>(by (simp only [ht,Node.aH];done))) (fun x3 ke=>?_)
  simp [ht,aa] at ke
  rw [kG ke] at j4
  have oe:=congrArg List.length j4
  simp at oe
  have hs1:=fR _ (List.mem_of_getElem? ke)
  have Pu:=hu _ (List.mem_of_getElem? ke)
  have hnp:(C2 x3).length<9223372036854775000:=by omega
  obtain ⟨nx,Xm⟩:∃nx,nx=C2 x3:=⟨_,rfl⟩
  rw [←Xm] at oe j4
  cbv
  (refine ay trivial (UF ht _ _ _ _ _ (by simp only [ht]) _ Pu hs1.2.1 hs1.2.2 hnp) trivial rfl rfl (fun r9 dN=>?_);simp only [ht] at dN;have gl9:r9=nx:=dN.trans Xm.symm;subst gl9)
  cbv
  refine ⟨?_,?_⟩
  ·(simp only [ht,aa] at*;omega)
  cbv
  refine bf (_,_) (by simp only [ht];rfl) (n-1) ?_ ((fe _ _ _).2 ?_)
  ·omega
  simp only [aa]
  exact ⟨k+1,aC (by omega),by omega,by rw [j4];simp [*]⟩
 simp [ht,aa,ar] at h2
 cbv
 refine ay trivial (cK ht _ (by (simp only [ht];((try simp only [aa] at*);omega)))) trivial rfl rfl (fun r4 dO=>?_)
 simp only [ht] at dO
 (try rw [C7] at dO)
 (try rw [hqw] at dO)
 have ZM:=congrArg List.length dO
 (try have eps:r4=ej (ps.length:Int):=dO)
 cbv
 refine ⟨?_,?_⟩
 ·(simp only [ht];grind)
 cbv
 obtain ⟨J5,RP⟩:∃J5:Nat→List UInt8×Int→Prop,∀n o i,J5 n (o,i)↔(∃k:Nat,i=k∧k+n=ps.length∧C3 ⟨l,ps⟩=o++((ps.drop k).map NN).flatten):=⟨fun n v=>match v with|(o,i)=>(∃k:Nat,i=k∧k+n=ps.length∧C3 ⟨l,ps⟩=o++((ps.drop k).map NN).flatten),fun _ _ _=>Iff.rfl⟩
 refine aZ ⟨[3,33,34,35],[],[]⟩ (σ:=List UInt8×Int) (fun v=>[(3,.d (.str (t _ fun _=>v.1))),(35,.d (.int .i64 (t _ fun _=>v.2)))]) (fun v=>[]) J5 ?_
 cbv
 refine aA ⟨ps.length,(_,_),(RP _ _ _).2 ?_,by simp only [ht];rfl,?_⟩
 ·exact ⟨0,rfl,by simp,by rw [j4,List.drop_eq_nil_of_le (show l.length≤k by omega)];simp [eps]⟩
 rintro n ⟨o,i⟩ hj
 replace hj:=(RP _ _ _).1 hj
 obtain ⟨k,rfl,j1,j4⟩:=hj
 cbv
 refine ai (fun h6=>?_) (fun h6=>?_)
 ·simp [ht,aa,dM] at h6
  cbv
  refine dg ht fq (cT:=Place.aH t) (by (simp only [ht,aa];omega)) (by (simp only [ht,aa];omega)) (fun _=>rfl) (fun _=>rfl) (fun x7 mx7=>?_)
  simp [ht,aa] at mx7
  rw [kG mx7,NN] at j4
  have oe:=congrArg List.length j4
  simp [bH] at oe
  have Pu:=hxu _ (List.mem_of_getElem? mx7)
  clear mx7
  obtain ⟨jb,nd,⟨v1,v2,v3,v4⟩⟩:=x7
  simp only at Pu oe
  cbv
  refine bJ [false,false,false,false,false,false,false,false,false,false,false,false,true,true] (by kernel_rfl) (by kernel_rfl) ?_
  cbv
  iterate 3 refine gI (by simp) ?_
  refine .inl ?_
  refine aM (fun g8=>⟨trivial,trivial,cK ht _ (by omega)⟩) rfl rfl (fun r9 dN=>?_)
  simp only [ht] at dN
  (try rw [C7] at dN)
  (try rw [hqw] at dN)
  have Xx:=congrArg List.length dN
  (try have eps:r9=ej (ps.length:Int):=dN)
  cbv
  iterate 2 refine gI (by simp) ?_
  refine .inl ?_
  refine aM (fun g10=>⟨trivial,trivial,dP ht _ (by omega)⟩) rfl rfl (fun Yn pZ=>?_)
  simp only [ht] at pZ
  have V1:=congrArg List.length pZ
  simp only [bH,List.length_append] at V1
  cbv
  refine gI (by simp [ht];omega) ?_
  iterate 2 refine gI (by simp) ?_
  refine .inl ?_
  refine aM (fun g12=>⟨trivial,trivial,tg ht _ _ _ _ (by (simp [*];done))⟩) rfl rfl (fun r13 FP=>?_)
  simp only [ht] at FP
  have adH:=congrArg List.length FP
  cbv
  refine gI (by simp [ht];omega) ?_
  refine ⟨?_,?_⟩
  ·(simp [ht];omega)
  cbv
  refine bf (_,_) (by simp only [ht];rfl) (n-1) ?_ ((RP _ _ _).2 ?_)
  ·omega
  simp only [aa]
  exact ⟨k+1,aC (by omega),by omega,by rw [j4];simp [*]⟩
 simp [ht,aa,dM] at h6
 cbv
 refine an trivial trivial rfl rfl rfl ?_
 (rw [List.drop_eq_nil_of_le (by omega)] at j4;simp only [ht];grind)
theorem UH (ht:TT t) (k:aD) (no:Bool) {vs:List aD} {vr:List (List D)} (uV:vr=vs.map aT) (hl:vs.length<1000000000) (hn:(nE ⟨k,no,vs⟩).length<9223372036854775000):
 FC 177 [.agg [ST k,BL no,SL vr]] [] (.ret (tG (t _ fun _=>nE ⟨k,no,vs⟩))) []:=by
 have ZR:IntKind.i64.wrap (2*(vr.length:Int))=2*(vs.length:Int):=by rw [uV,lgM];exact wrap64 (by omega) (by omega)
 have hw3:IntKind.u64.wrap (2*(vs.length:Int))=2*(vs.length:Int):=by rw [bG];omega
 have hw4:IntKind.u64.wrap (IntKind.i64.wrap (2*(vs.length:Int)+1))=2*(vs.length:Int)+1:=by rw [wrap64 (by omega) (by omega),bG];omega
 have hn2:=hn
 simp only [nE,bH,List.length_append] at hn2
 refine bC ht (aE:=[]) Tryz.func177 (c:=_) rfl rfl (N:=35) rfl (rs:=_) rfl (n:=0) rfl rfl ?_
 cbv
 have kx:vr.length=vs.length:=by rw [uV,lgM]
 refine ai (fun h0=>?_) (fun h0=>?_)
 ·cbv
  refine ay trivial (dP ht _ (by omega)) trivial rfl rfl (fun r1 cX=>?_)
  simp only [ht] at cX
  have Xy:=congrArg List.length cX
  simp only [bH,List.length_append] at Xy
  cbv
  refine ay trivial (cK ht _ (by (simp only [ht,bG];omega))) trivial rfl rfl (fun r2 cP=>?_)
  simp only [ht] at cP
  simp only [ZR,hw4] at cP
  have Xv:(r2).length≤10:=by rw [cP];exact c6 _
  cbv
  refine ⟨?_,?_⟩
  ·(simp only [ht,aa] at*;omega)
  cbv
  obtain ⟨J3,FN⟩:∃J3:Nat→List UInt8×Int→Prop,∀n o i,J3 n (o,i)↔(∃q:Nat,i=q∧q+n=vs.length∧nE ⟨k,no,vs⟩=o++((vs.drop q).map bH).flatten):=⟨fun n v=>match v with|(o,i)=>(∃q:Nat,i=q∧q+n=vs.length∧nE ⟨k,no,vs⟩=o++((vs.drop q).map bH).flatten),fun _ _ _=>Iff.rfl⟩
  refine aZ ⟨[4,23,24,25],[],[]⟩ (σ:=List UInt8×Int) (fun v=>[(4,.d (.str (t _ fun _=>v.1))),(25,.d (.int .i64 (t _ fun _=>v.2)))]) (fun v=>[]) J3 ?_
  cbv
  refine aA ⟨vs.length,(_,_),(FN _ _ _).2 ?_,by simp only [ht];rfl,?_⟩
  ·exact ⟨0,rfl,by simp,by simp [nE, *]⟩
  rintro n ⟨o,i⟩ hj
  replace hj:=(FN _ _ _).1 hj
  obtain ⟨q,rfl,j1,j4⟩:=hj
  cbv
  refine ai (fun h4=>?_) (fun h4=>?_)
  ·simp [ht,aa,kx] at h4
   cbv
   refine dg ht uV (cT:=dR t) (by (simp only [ht,aa];omega)) (by (simp only [ht,aa];omega)) (fun _=>rfl) (fun _=>rfl) (fun x5 Ot=>?_)
   simp [ht,aa] at Ot
   rw [kG Ot] at j4
   have oe:=congrArg List.length j4
   simp [bH] at oe
   cbv
   refine ay trivial (dP ht _ (by omega)) trivial rfl rfl (fun r6 gv=>?_)
   simp only [ht] at gv
   have ZN:=congrArg List.length gv
   simp only [bH,List.length_append] at ZN
   cbv
   refine ⟨?_,?_⟩
   ·(simp only [ht,aa] at*;omega)
   cbv
   refine bf (_,_) (by simp only [ht];rfl) (n-1) ?_ ((FN _ _ _).2 ?_)
   ·omega
   simp only [aa]
   exact ⟨q+1,aC (by omega),by omega,by rw [j4];simp [*]⟩
  simp [ht,aa,kx] at h4
  cbv
  refine an trivial trivial rfl rfl rfl ?_
  (rw [List.drop_eq_nil_of_le (by omega),List.map_nil,List.flatten_nil,List.append_nil] at j4;simp only [ht,j4];done)
 cbv
 refine ay trivial (dP ht _ (by omega)) trivial rfl rfl (fun r7 gL=>?_)
 simp only [ht] at gL
 have RQ:=congrArg List.length gL
 simp only [bH,List.length_append] at RQ
 cbv
 refine ay trivial (cK ht _ (by (simp only [ht,bG];omega))) trivial rfl rfl (fun r8 qy=>?_)
 simp only [ht] at qy
 simp only [ZR,hw3] at qy
 have ZO:(r8).length≤10:=by rw [qy];exact c6 _
 cbv
 refine ⟨?_,?_⟩
 ·(simp only [ht,aa] at*;omega)
 cbv
 obtain ⟨J9,hJ9⟩:∃J9:Nat→List UInt8×Int→Prop,∀n o i,J9 n (o,i)↔(∃q:Nat,i=q∧q+n=vs.length∧nE ⟨k,no,vs⟩=o++((vs.drop q).map bH).flatten):=⟨fun n v=>match v with|(o,i)=>(∃q:Nat,i=q∧q+n=vs.length∧nE ⟨k,no,vs⟩=o++((vs.drop q).map bH).flatten),fun _ _ _=>Iff.rfl⟩
 refine aZ ⟨[4,23,24,25],[],[]⟩ (σ:=List UInt8×Int) (fun v=>[(4,.d (.str (t _ fun _=>v.1))),(25,.d (.int .i64 (t _ fun _=>v.2)))]) (fun v=>[]) J9 ?_
 cbv
 refine aA ⟨vs.length,(_,_),(hJ9 _ _ _).2 ?_,by simp only [ht];rfl,?_⟩
 ·exact ⟨0,rfl,by simp,by simp [nE, *]⟩
 rintro n ⟨o,i⟩ hj
 replace hj:=(hJ9 _ _ _).1 hj
 obtain ⟨q,rfl,j1,j4⟩:=hj
 cbv
 refine ai (fun h10=>?_) (fun h10=>?_)
 ·simp [ht,aa,kx] at h10
  cbv
  refine dg ht uV (cT:=dR t) (by (simp only [ht,aa];omega)) (by (simp only [ht,aa];omega)) (fun _=>rfl) (fun _=>rfl) (fun x11 ZS=>?_)
  simp [ht,aa] at ZS
  rw [kG ZS] at j4
  have oe:=congrArg List.length j4
  simp [bH] at oe
  cbv
  refine ay trivial (dP ht _ (by omega)) trivial rfl rfl (fun Xw oN=>?_)
  simp only [ht] at oN
  have V0:=congrArg List.length oN
  simp only [bH,List.length_append] at V0
  cbv
  refine ⟨?_,?_⟩
  ·(simp only [ht,aa] at*;omega)
  cbv
  refine bf (_,_) (by simp only [ht];rfl) (n-1) ?_ ((hJ9 _ _ _).2 ?_)
  ·omega
  simp only [aa]
  exact ⟨q+1,aC (by omega),by omega,by rw [j4];simp [*]⟩
 simp [ht,aa,kx] at h10
 cbv
 refine an trivial trivial rfl rfl rfl ?_
 (rw [List.drop_eq_nil_of_le (by omega),List.map_nil,List.flatten_nil,List.append_nil] at j4;simp only [ht,j4];done)
theorem UI (ht:TT t) {l:List Term} {es:List (List D)} (aF:es=l.map Term.cells) (hl:l.length<1000000000) (fR:∀x∈l,x.sm) (hn:(BD l).length<9223372036854775000):
 FC 132 [SL es] [] (.ret (tG (t _ fun _=>BD l))) []:=by
 have C7:IntKind.u64.wrap (es.length:Int)=l.length:=by rw [bG,aF,lgM];omega
 refine bC ht (aE:=[]) Tryz.func132 (c:=_) rfl rfl (N:=25) rfl (rs:=_) rfl (n:=0) rfl rfl ?_
 cbv
 have ar:es.length=l.length:=by rw [aF,lgM]
 refine ay trivial (yj ht (by assumption) (by assumption) (by assumption)) trivial rfl rfl (fun r0 bE=>?_)
 simp only [ht] at bE
 cbv
 refine ai (fun h1=>?_) (fun h1=>?_)
 ·simp [ht] at h1
  cbv
  refine an trivial trivial rfl rfl rfl ?_
  (simp_all [BD];done)
 simp [ht] at h1
 cbv
 refine ay trivial (cK ht _ (by (simp only [ht];((try simp only [aa] at*);omega)))) trivial rfl rfl (fun r2 cP=>?_)
 simp only [ht] at cP
 (try rw [C7] at cP)
 have Xv:=congrArg List.length cP
 cbv
 obtain ⟨J3,FN⟩:∃J3:Nat→List UInt8×Int→Prop,∀n o i,J3 n (o,i)↔(∃k:Nat,i=k∧k+n=l.length∧BD l=o++((l.drop k).map nE).flatten):=⟨fun n v=>match v with|(o,i)=>(∃k:Nat,i=k∧k+n=l.length∧BD l=o++((l.drop k).map nE).flatten),fun _ _ _=>Iff.rfl⟩
 refine aZ ⟨[3,13,14,15],[],[]⟩ (σ:=List UInt8×Int) (fun v=>[(3,.d (.str (t _ fun _=>v.1))),(15,.d (.int .i64 (t _ fun _=>v.2)))]) (fun v=>[]) J3 ?_
 cbv
 refine aA ⟨l.length,(_,_),(FN _ _ _).2 ?_,by simp only [ht];rfl,?_⟩
 ·exact ⟨0,rfl,by simp,by simp_all [BD]⟩
 rintro n ⟨o,i⟩ hj
 replace hj:=(FN _ _ _).1 hj
 obtain ⟨k,rfl,j1,j4⟩:=hj
 cbv
 refine ai (fun h4=>?_) (fun h4=>?_)
 ·simp [ht,aa,ar] at h4
  cbv
  refine dg ht aF (cT:=Term.aH t) (by (simp only [ht,aa];omega)) (by (simp only [ht,aa];omega)) (fun _=>rfl) (fun _=>(by (simp only [ht,Term.aH];rfl))) (fun x5 Ot=>?_)
  simp [ht,aa] at Ot
  rw [kG Ot] at j4
  have oe:=congrArg List.length j4
  simp at oe
  have hs1:=fR _ (List.mem_of_getElem? Ot)
  have hnp:(nE x5).length<9223372036854775000:=by omega
  obtain ⟨nx,Xm⟩:∃nx,nx=nE x5:=⟨_,rfl⟩
  rw [←Xm] at oe j4
  cbv
  (refine ay trivial (UH ht _ _ (by simp only [ht]) hs1.2.1 hnp) trivial rfl rfl (fun r9 dN=>?_);simp only [ht] at dN;have gl9:r9=nx:=dN.trans Xm.symm;subst gl9)
  cbv
  refine ⟨?_,?_⟩
  ·(simp only [ht,aa] at*;omega)
  cbv
  refine bf (_,_) (by simp only [ht];rfl) (n-1) ?_ ((FN _ _ _).2 ?_)
  ·omega
  simp only [aa]
  exact ⟨k+1,aC (by omega),by omega,by rw [j4];simp [*]⟩
 simp [ht,aa,ar] at h4
 cbv
 refine an trivial trivial rfl rfl rfl ?_
 (rw [List.drop_eq_nil_of_le (by omega),List.map_nil,List.flatten_nil,List.append_nil] at j4;simp only [ht,j4];done)
theorem Af {s:aD} {p m n q:Int} (h:Ie s p m=some (n,q)):0≤n∧n≤m∧0≤q∧q≤s.length:=by
 obtain ⟨g1,g2,rfl,rfl⟩:=Ef h
 have:=eM g1
 omega
theorem wL {s:aD} {p q:Int} {x:aD} (hs:s.length<9223372036854775000) (h:v7 s p=some (x,q)):0≤q∧q≤s.length∧x.length≤s.length:=by
 obtain ⟨g1,rfl,rfl⟩:=Cl h
 have:=dw (s:=s) (p:=p) (m:=32) hs
 omega
theorem zD {s:aD} {n:Nat} {l L:List aD} {p e:Int} (h:jU s (n+1) l p=some (L,e)):∃x q,v7 s p=some (x,q)∧jU s n (l++[x]) q=some (L,e):=by
 rw [jU] at h
 split at h
 ·rename_i x q g;exact ⟨x,q,g,h⟩
 cases h
theorem FQ {s:aD} {n:Nat} {l L:List aD} {p e:Int} (h:jU s n l p=some (L,e)):n=0∨∃m x q,n=m+1∧v7 s p=some (x,q)∧jU s m (l++[x]) q=some (L,e):=by
 cases n with
 |zero=>exact .inl rfl
 |succ m=>obtain ⟨x,q,g1,g2⟩:=zD h;exact .inr ⟨m,x,q,rfl,g1,g2⟩
theorem Cm {s:aD} {p e:Int} {x:Term} (h:BE s p=some (x,e)):∃q n r,v7 s p=some (x.key,q)∧Ie s q 9=some (n,r)∧x.no=decide (n%2=1)∧jU s (n.toNat / 2) [] r=some (x.fW,e):=by
 unfold BE at h
 split at h
 ·cases h
 rename_i k q g
 split at h
 ·cases h
 rename_i n r g2
 split at h
 ·cases h
 rename_i l e' g3
 simp only [osI,Prod.mk.injEq] at h
 obtain ⟨rfl,rfl⟩:=h
 exact ⟨q,n,r,g,g2,rfl,g3⟩
theorem RR {l:List aD} {x:aD} (h:l.length<1000000):((l.map aT).length+[aT x].length)*16≤140737488355328∧∀r,r∈l.map aT++[aT x]→r.length=1:=by
 refine ⟨by simp;omega,?_⟩
 intro r hr
 rcases List.mem_append.1 hr with hr|hr
 ·obtain ⟨y,_,rfl⟩:=List.mem_map.1 hr;rfl
 rw [List.mem_singleton.1 hr];rfl
theorem UJ (ht:TT t) (s:aD) {p e:Int} {k:aD} {no:Bool} {vs:List aD} {vr:List (List D)} (hs:s.length<9223372036854775000) (hp:p<9223372036854775808) (uV:vr=vs.map aT) (h:BE s p=some (⟨k,no,vs⟩,e)):
 FC 229 [.ptr 0 0] [.var [ST s,bq p]] (.ret (.agg [ST k,BL no,SL vr])) [.var [ST s,bq e]]:=by
 obtain ⟨q,n0,r,g1,g2,g3,g4⟩:=Cm h
 simp only at g1 g3 g4
 have b1:=wL hs g1
 have b2:=Af g2
 have b3:(n0.tmod 2=1)↔n0%2=1:=by rw [Int.tmod_eq_emod_of_nonneg (by omega)]
 have b4:IntKind.i64.wrap (n0.tdiv 2)=(n0.toNat / 2:Nat):=by rw [Int.tdiv_eq_ediv_of_nonneg (by omega),bZ (by omega) (by omega)];omega
 refine bC ht (aE:=[.var [ST s,bq p]]) Tryz.func229 (c:=_) rfl rfl (N:=27) rfl (rs:=_) rfl (n:=1) rfl rfl ?_
 cbv
 have kx:vr.length=vs.length:=by rw [uV,lgM]
 (refine cE [0] trivial rfl rfl (M0 ht s hs (by omega) g1) (bK ?_))
 cbv
 (refine cE [0] trivial rfl rfl (RG ht s hs (by ((try simp only [aa] at*);omega)) (by decide) g2) (bK ?_))
 cbv
 refine ⟨?_,?_⟩
 ·(simp only [ht,aa] at*;omega)
 refine ⟨?_,?_⟩
 ·(simp only [ht,aa] at*;omega)
 cbv
 obtain ⟨J0,eg⟩:∃J0:Nat→Int×List (List D)×Int→Prop,∀n i o a,J0 n (i,o,a)↔(∃(c:Nat) (l:List aD),i=c∧c+n=n0.toNat / 2∧o=l.map aT∧l.length=c∧0≤a∧a≤s.length∧jU s n l a=some (vs,e)):=⟨fun n v=>match v with|(i,o,a)=>(∃(c:Nat) (l:List aD),i=c∧c+n=n0.toNat / 2∧o=l.map aT∧l.length=c∧0≤a∧a≤s.length∧jU s n l a=some (vs,e)),fun _ _ _ _=>Iff.rfl⟩
 refine aZ ⟨[0,2,3,15,16],[],[(2,2,1)]⟩ (σ:=Int×List (List D)×Int) (fun v=>[(16,.d (.int .i64 (t _ fun _=>v.1)))]) (fun v=>[(3,.row 1 (t _ fun _=>v.2.1)),(2,.var [AV.d (D.str k),AV.d (D.bool (t Bool fun x=>decide ((t Int fun x=>Int.tmod n0 2)=1))),.ow 3 1 (t _ fun _=>(v.2.1).length)]),(0,.var [AV.d (D.str s),.d (.int .i64 (t _ fun _=>v.2.2))])]) J0 ?_
 cbv
 refine aA ⟨n0.toNat / 2,(_,[],_),(eg _ _ _ _).2 ?_,by simp only [ht];rfl,?_⟩
 ·exact ⟨0,[],rfl,by omega,rfl,rfl,b2.2.2.1,b2.2.2.2,g4⟩
 rintro n ⟨i,o,a⟩ hj
 replace hj:=(eg _ _ _ _).1 hj
 obtain ⟨c,l,rfl,j1,rfl,j3,j4,j5,j6⟩:=hj
 have hx:=FQ j6
 cbv
 refine ai (fun h1=>?_) (fun h1=>?_)
 ·simp [ht,aa,b4] at h1
  cbv
  (obtain ⟨m,x,a2,rfl,jx,jy⟩:=hx.resolve_left (by ((try simp only [aa] at*);omega));have b5:=wL hs jx;apply DF [2] (.more 0 (.more 1 (.one 2 (.one 3 (.one 4 (.one 5 (.one 6 (.one 7 .done)))))) (.one 2 (.more 1 (.one 3 (.one 4 (.one 5 (.one 6 (.one 7 .done))))) (.one 3 (.more 1 (.one 4 (.one 5 (.one 6 (.one 7 .done)))) (.one 4 (.one 1 (.one 5 (.one 6 (.one 7 .done)))))))))) (.one 2 (.more 0 (.more 1 (.one 3 (.one 4 (.one 5 (.one 6 (.one 7 .done))))) (.one 3 (.more 1 (.one 4 (.one 5 (.one 6 (.one 7 .done)))) (.one 4 (.one 1 (.one 5 (.one 6 (.one 7 .done)))))))) (.one 3 (.more 0 (.more 1 (.one 4 (.one 5 (.one 6 (.one 7 .done)))) (.one 4 (.one 1 (.one 5 (.one 6 (.one 7 .done)))))) (.one 4 (.one 0 (.one 1 (.one 5 (.one 6 (.one 7 .done)))))))))));kernel_rfl;kernel_rfl;kernel_rfl;kernel_rfl;(next=>cbv;repeat (first|(refine cE [0] trivial rfl rfl (M0 ht s hs (by simp only [ht];((try simp only [aa] at*);omega)) (by simp only [ht];exact jx)) (bK ?_);cbv)|refine And.intro ?_ ?_|exact rfl|(simp only [ht,true_and];exact RR (l:=l) (x:=x) (by omega))|exact True.intro)))
  cbv
  refine bf (_,_,_) (by simp only [ht,←List.length_append];rfl) m ?_ ((eg _ _ _ _).2 ?_)
  ·omega
  simp only [aa]
  exact ⟨c+1,l++[x],aC (by omega),by omega,by simp,by simp;omega,b5.1,b5.2.1,jy⟩
 simp [ht,aa,b4] at h1
 cbv
 (have hn:n=0:=(by ((try simp only [aa] at*);omega));subst hn;rw [jU] at j6;simp only [osI,Prod.mk.injEq] at j6;obtain ⟨rfl,rfl⟩:=j6;exact an trivial (by simp [ht]) rfl (by simp only [ht];rfl) rfl (by simp only [ht];subst g3 uV;simp only [b3]))
theorem UK (ht:TT t) (s:aD) (p a:Int) (ok:Bool) (n:Nat) (es:List (List D)):FDR 227 [.ptr 0 0,.ptr 1 0,.ptr 2 0] [.var [.ow 4 3 n],.var [bq a],.var [BL ok],.var [ST s,bq p],.row 3 es] (.ret (.dF [])) [.var [.ow 4 3 n],.var [bq a],.var [BL ok],.var [ST s,bq p],.row 3 es]:=by
 refine ZK ht (aE:=[.var [.ow 4 3 n],.var [bq a],.var [BL ok],.var [ST s,bq p],.row 3 es]) Tryz.func227 (c:=_) rfl rfl (N:=9) rfl (rs:=_) rfl (n:=5) rfl rfl rfl ?_
 cbv
 refine qj rfl ?_
 cbv
 exact QM trivial rfl rfl
theorem zE {s:aD} {n:Nat} {l L:List Term} {p e:Int} (h:jV s (n+1) l p=some (L,e)):∃x q,BE s p=some (x,q)∧jV s n (l++[x]) q=some (L,e):=by
 rw [jV] at h
 split at h
 ·rename_i x q g;exact ⟨x,q,g,h⟩
 cases h
theorem FR {s:aD} {n:Nat} {l L:List Term} {p e:Int} (h:jV s n l p=some (L,e)):n=0∨∃m x q,n=m+1∧BE s p=some (x,q)∧jV s m (l++[x]) q=some (L,e):=by
 cases n with
 |zero=>exact .inl rfl
 |succ m=>obtain ⟨x,q,g1,g2⟩:=zE h;exact .inr ⟨m,x,q,rfl,g1,g2⟩
theorem Eg {s:aD} (hs:s.length<9223372036854775000):∀{n:Nat} {l L:List aD} {p e:Int},jU s n l p=some (L,e)→0≤p→p≤s.length→0≤e∧e≤s.length
 |0,l,L,p,e,h,h1,h2=>by rw [jU] at h;simp only [osI,Prod.mk.injEq] at h;omega
 |n+1,l,L,p,e,h,h1,h2=>by
  obtain ⟨x,q,g1,g2⟩:=zD h
  have:=wL hs g1
  exact Eg hs g2 this.1 this.2.1
theorem I0 {s:aD} {p e:Int} {x:Term} (hs:s.length<9223372036854775000) (h:BE s p=some (x,e)):0≤e∧e≤s.length:=by
 obtain ⟨q,n,r,g1,g2,g3,g4⟩:=Cm h
 have b1:=wL hs g1
 have b2:=Af g2
 exact Eg hs g4 b2.2.2.1 b2.2.2.2
theorem Cn {s:aD} {p e:Int} {L:List Term} (h:DS s p=some (L,e)):∃n q,Ie s p 4=some (n,q)∧jV s n.toNat [] q=some (L,e)∧pP L=true:=by
 unfold DS at h
 split at h
 ·cases h
 rename_i n q g
 split at h
 ·cases h
 rename_i l e' g2
 split at h
 ·rename_i g3
  simp only [osI,Prod.mk.injEq] at h
  obtain ⟨rfl,rfl⟩:=h
  exact ⟨n,q,g,g2,g3⟩
 cases h
theorem Ou {l:List Term} {k:aD} {no:Bool} {vr:List (List D)} (h:l.length<1000000):((l.map Term.cells).length+[[D.str k,D.bool no,D.sl vr]].length)*48≤140737488355328∧∀r,r∈l.map Term.cells++[[D.str k,D.bool no,D.sl vr]]→r.length=3:=by
 refine ⟨by simp;omega,?_⟩
 intro r hr
 rcases List.mem_append.1 hr with hr|hr
 ·obtain ⟨y,_,rfl⟩:=List.mem_map.1 hr;rfl
 rw [List.mem_singleton.1 hr];rfl
theorem Xz (ht:TT t) (s:aD) {p e:Int} {L:List Term} {es:List (List D)} (hs:s.length<9223372036854775000) (hp:p<9223372036854775808) (aF:es=L.map Term.cells) (fR:∀x∈L,x.sm) (h:DS s p=some (L,e)):
 FC 211 [ST s,bq p] [] (.ret (.dF [SL es,bq e,BL true])) []:=by
 obtain ⟨n0,q,g1,g2,g3⟩:=Cn h
 have b1:=Af g1
 refine ZJ ht (aE:=[]) Tryz.func211 (c:=_) rfl rfl (N:=33) rfl (rs:=_) rfl (n:=0) rfl rfl rfl ?_
 cbv
 have ar:es.length=L.length:=by rw [aF,lgM]
 (refine cE [3] trivial rfl rfl (RG ht s hs (by omega) (by decide) g1) (bK ?_))
 cbv
 obtain ⟨J0,eg⟩:∃J0:Nat→Int×List (List D)×Int→Prop,∀n i o a,J0 n (i,o,a)↔(∃(c:Nat) (l:List Term),i=c∧c+n=n0.toNat∧o=l.map Term.cells∧l.length=c∧0≤a∧a≤s.length∧jV s n l a=some (L,e)):=⟨fun n v=>match v with|(i,o,a)=>(∃(c:Nat) (l:List Term),i=c∧c+n=n0.toNat∧o=l.map Term.cells∧l.length=c∧0≤a∧a≤s.length∧jV s n l a=some (L,e)),fun _ _ _ _=>Iff.rfl⟩
 refine aZ ⟨[4,5,6,7,14,15],[],[(0,0,3)]⟩ (σ:=Int×List (List D)×Int) (fun v=>[(15,.d (.int .i64 (t _ fun _=>v.1)))]) (fun v=>[(4,.row 3 (t _ fun _=>v.2.1)),(0,.var [.ow 4 3 (t _ fun _=>(v.2.1).length)]),(3,.var [AV.d (D.str s),.d (.int .i64 (t _ fun _=>v.2.2))])]) J0 ?_
 cbv
 refine aA ⟨n0.toNat,(_,[],_),(eg _ _ _ _).2 ?_,by simp only [ht];rfl,?_⟩
 ·exact ⟨0,[],rfl,by omega,rfl,rfl,b1.2.2.1,b1.2.2.2,g2⟩
 rintro n ⟨i,o,a⟩ hj
 replace hj:=(eg _ _ _ _).1 hj
 obtain ⟨c,l,rfl,j1,rfl,j3,j4,j5,j6⟩:=hj
 have hx:=FR j6
 cbv
 refine ai (fun h1=>?_) (fun h1=>?_)
 ·simp [ht,aa] at h1
  cbv
  (obtain ⟨m,⟨k,no,vs⟩,a2,rfl,jx,jy⟩:=hx.resolve_left (by ((try simp only [aa] at*);omega));have b5:=I0 hs jx;obtain ⟨vr,uV⟩:∃vr,vr=vs.map aT:=⟨_,rfl⟩;apply DF [1] (.more 0 (.one 1 (.one 2 (.one 3 (.one 4 (.one 5 .done))))) (.one 1 (.more 0 (.one 2 (.one 3 (.one 4 (.one 5 .done)))) (.one 2 (.more 0 (.one 3 (.one 4 (.one 5 .done))) (.one 3 (.one 0 (.one 4 (.one 5 .done)))))))));kernel_rfl;kernel_rfl;kernel_rfl;kernel_rfl;(next=>cbv;repeat (first|(refine cE [3] trivial rfl rfl (UJ ht s hs (by simp only [ht];((try simp only [aa] at*);omega)) uV (by simp only [ht];exact jx)) (bK ?_);cbv)|refine And.intro ?_ ?_|exact rfl|(simp only [ht,true_and];exact Ou (l:=l) (k:=k) (no:=no) (vr:=vr) (by omega))|exact True.intro)))
  cbv
  refine bf (_,_,_) (by simp only [ht,←List.length_append];rfl) m ?_ ((eg _ _ _ _).2 ?_)
  ·omega
  simp only [aa]
  exact ⟨c+1,l++[⟨k,no,vs⟩],aC (by omega),by omega,by simp [Term.cells,uV],by simp;omega,b5.1,b5.2,jy⟩
 simp [ht,aa] at h1
 cbv
 (have hn:n=0:=(by ((try simp only [aa] at*);omega));subst hn;rw [jV] at j6;simp only [osI,Prod.mk.injEq] at j6;refine ay trivial (yj ht (l:=L) (by simp only [ht];rw [j6.1]) (by rw [←j6.1];omega) fR) (by simp [ht]) rfl rfl (fun r7 gL=>?_);simp only [ht,g3] at gL)
 cbv
 refine ai (fun h2=>?_) (fun h2=>?_)
 ·simp [ht] at h2
  (rw [gL] at h2;cases h2)
 simp [ht] at h2
 cbv
 (apply DF [1] (.more 0 (.one 1 (.more 2 (.more 3 (.more 4 (.one 5 (.one 6 (.one 7 .done))) (.one 5 (.one 4 (.one 6 (.one 7 .done))))) (.one 5 (.one 3 (.one 4 (.one 6 (.one 7 .done)))))) (.one 5 (.one 2 (.one 3 (.one 4 (.one 6 (.one 7 .done)))))))) (.one 1 (.more 0 (.more 2 (.more 3 (.more 4 (.one 5 (.one 6 (.one 7 .done))) (.one 5 (.one 4 (.one 6 (.one 7 .done))))) (.one 5 (.one 3 (.one 4 (.one 6 (.one 7 .done)))))) (.one 5 (.one 2 (.one 3 (.one 4 (.one 6 (.one 7 .done))))))) (.one 2 (.more 0 (.more 3 (.more 4 (.one 5 (.one 6 (.one 7 .done))) (.one 5 (.one 4 (.one 6 (.one 7 .done))))) (.one 5 (.one 3 (.one 4 (.one 6 (.one 7 .done)))))) (.one 3 (.more 0 (.more 4 (.one 5 (.one 6 (.one 7 .done))) (.one 5 (.one 4 (.one 6 (.one 7 .done))))) (.one 4 (.one 0 (.one 5 (.one 6 (.one 7 .done))))))))))));kernel_rfl;kernel_rfl;kernel_rfl;kernel_rfl;(next=>cbv;repeat (first|refine And.intro ?_ ?_|exact rfl)))
 cbv
 (refine KF (UK ht _ _ _ _ _ _) ?_)
 cbv
 refine an trivial (by simp [ht]) rfl rfl rfl ?_
 (simp [*];done)
theorem fw {s:aD} {p u q:Int} (h:bD s p=⟨u,q,true⟩):0≤u∧u<18446744073709551616∧0≤q∧q≤s.length:=by
 have:=eM (s:=s) (p:=p) (by rw [h])
 rw [h] at this
 simp only at this
 omega
def gP (s:aD):Nat→List bU→Int→Option (List bU×Int)
 |0,l,p=>some (l,p)
 |n+1,l,p=>match bD s p with
  |⟨a,p1,true⟩=>match bD s p1 with
   |⟨b,p2,true⟩=>match bD s p2 with
    |⟨c,p3,true⟩=>gP s n (l++[⟨a,b,IntKind.i64.wrap c⟩]) p3
    |_=>none
   |_=>none
  |_=>none
def lm (s:aD) (p:Int):Option (qG×Int):=
 match bD s p with
 |⟨f,p1,true⟩=>match bD s p1 with
  |⟨n,p2,true⟩=>match gP s n.toNat [] p2 with
   |some (l,e)=>some (⟨f,l⟩,e)
   |none=>none
  |_=>none
 |_=>none
theorem zF {s:aD} {n:Nat} {l L:List bU} {p e:Int} (h:gP s (n+1) l p=some (L,e)):
 ∃a b c p1 p2 q,bD s p=⟨a,p1,true⟩∧bD s p1=⟨b,p2,true⟩∧bD s p2=⟨c,q,true⟩∧gP s n (l++[⟨a,b,IntKind.i64.wrap c⟩]) q=some (L,e):=by
 rw [gP] at h
 split at h
 ·rename_i a p1 e1
  split at h
  ·rename_i b p2 e2
   split at h
   ·rename_i c q e3
    exact ⟨a,b,c,p1,p2,q,e1,e2,e3,h⟩
   cases h
  cases h
 cases h
theorem FT {s:aD} {n:Nat} {l L:List bU} {p e:Int} (h:gP s n l p=some (L,e)):n=0∨∃m a b c p1 p2 q,n=m+1∧bD s p=⟨a,p1,true⟩∧bD s p1=⟨b,p2,true⟩∧bD s p2=⟨c,q,true⟩∧gP s m (l++[⟨a,b,IntKind.i64.wrap c⟩]) q=some (L,e):=by
 cases n with
 |zero=>exact .inl rfl
 |succ m=>obtain ⟨a,b,c,p1,p2,q,g⟩:=zF h;exact .inr ⟨m,a,b,c,p1,p2,q,rfl,g⟩
theorem yl {s:aD}:∀{n:Nat} {l L:List bU} {p e:Int},gP s n l p=some (L,e)→0≤p→p≤s.length→0≤e∧e≤s.length∧L.length=l.length+n
 |0,l,L,p,e,h,h1,h2=>by rw [gP] at h;simp only [osI,Prod.mk.injEq] at h;obtain ⟨rfl,rfl⟩:=h;omega
 |n+1,l,L,p,e,h,h1,h2=>by
  obtain ⟨a,b,c,p1,p2,q,g1,g2,g3,g4⟩:=zF h
  have:=fw g3
  have:=yl g4 this.2.2.1 this.2.2.2
  simp only [List.length_append,List.length_singleton] at this
  omega
theorem Co {s:aD} {p e:Int} {f:Int} {l:List bU} (h:lm s p=some (⟨f,l⟩,e)):∃n p1 p2,bD s p=⟨f,p1,true⟩∧bD s p1=⟨n,p2,true⟩∧gP s n.toNat [] p2=some (l,e):=by
 unfold lm at h
 split at h
 ·rename_i f' p1 e1
  split at h
  ·rename_i n p2 e2
   split at h
   ·rename_i l' e' e3
    simp only [osI,Prod.mk.injEq,qG.mk.injEq] at h
    obtain ⟨⟨rfl,rfl⟩,rfl⟩:=h
    exact ⟨n,p1,p2,e1,e2,e3⟩
   cases h
  cases h
 cases h
theorem I1 {s:aD} {p e:Int} {x:qG} (h:lm s p=some (x,e)):0≤e∧e≤s.length:=by
 obtain ⟨f,l⟩:=x
 obtain ⟨n,p1,p2,g1,g2,g3⟩:=Co h
 have b:=fw g2
 have:=yl g3 b.2.2.1 b.2.2.2
 omega
theorem Ov {l:List bU} {a b c:Int} (h:l.length<1000000):((l.map bU.cells).length+[[D.int .u64 a,D.int .u64 b,D.int .i64 c]].length)*24≤140737488355328∧∀r,r∈l.map bU.cells++[[D.int .u64 a,D.int .u64 b,D.int .i64 c]]→r.length=3:=by
 refine ⟨by simp;omega,?_⟩
 intro r hr
 rcases List.mem_append.1 hr with hr|hr
 ·obtain ⟨y,_,rfl⟩:=List.mem_map.1 hr;rfl
 rw [List.mem_singleton.1 hr];rfl
theorem M3 {F:Nat→List AV→List ax→fm→List ax→Prop} {T:Nat→Option TI} {G:Nat→Option (List D)} {N:Nat} {ops:List Oper} {i:Nat} {K:St→Prop} {Q:Ex→St→Prop} {s:St} (h:uv t F T G N ops i K Q s):uv t F T G N ops i K Q s:=h
theorem M4 {k:Nat} (h:k<1000000):IntKind.u64.wrap ((k:Int)+1)=((k+1:Nat):Int):=by rw [bG];omega
theorem wM (ht:TT t) (s:aD) (p q:Int):
 FC 135 [.ptr 0 0,bq q,BL true] [.var [ST s,bq p]] (.ret (.dF [])) [.var [ST s,bq q]]:=by
 refine bC ht (aE:=[.var [ST s,bq p]]) Tryz.func135 (c:=_) rfl rfl (N:=14) rfl (rs:=_) rfl (n:=1) rfl rfl ?_
 cbv
 refine ai (fun h0=>?_) (fun h0=>?_)
 ·simp [ht] at h0
 simp [ht] at h0
 cbv
 refine an trivial trivial rfl rfl rfl ?_
 rfl
theorem kH (ht:TT t) (s:aD) {p n q:Int} (hs:s.length<9223372036854775000) (hp:p<9223372036854775808) (h:bD s p=⟨n,q,true⟩):
 FC 133 [.ptr 0 0] [.var [ST s,bq p]] (.ret (az n)) [.var [ST s,bq q]]:=by
 refine bC ht (aE:=[.var [ST s,bq p]]) Tryz.func133 (c:=_) rfl rfl (N:=24) rfl (rs:=_) rfl (n:=1) rfl rfl ?_
 cbv
 refine bJ [false,false,false,false,false,false,false,false,true,true,false,false,false,false,false,true] (by kernel_rfl) (by kernel_rfl) ?_
 cbv
 iterate 8 refine gI (by simp) ?_
 refine ay trivial (fu ht _ _ (by assumption) (by assumption)) trivial rfl rfl (fun r0 bE=>?_)
 simp only [ht] at bE
 (rw [h] at bE;subst bE)
 cbv
 iterate 5 refine gI (by simp) ?_
 (refine cE [0] trivial rfl rfl (wM ht s p q) (bK ?_))
 cbv
 refine an trivial trivial rfl rfl rfl ?_
 rfl
theorem I2 (ht:TT t) (s:aD) {p e f:Int} {l:List bU} {nr:List (List D)} (hs:s.length<9223372036854775000) (hp:p<9223372036854775808) (hl:l.length<1000000) (XA:nr=l.map bU.cells) (h:lm s p=some (⟨f,l⟩,e)):
 FC 138 [.ptr 0 0] [.var [ST s,bq p]] (.ret (.agg [az f,SL nr])) [.var [ST s,bq e]]:=by
 obtain ⟨n0,p1,p2,g1,g2,g3⟩:=Co h
 have b1:=fw g1
 have b2:=fw g2
 have b3:=yl g3 b2.2.2.1 b2.2.2.2
 simp only [List.length_nil,Nat.zero_add] at b3
 refine bC ht (aE:=[.var [ST s,bq p]]) Tryz.func138 (c:=_) rfl rfl (N:=30) rfl (rs:=_) rfl (n:=1) rfl rfl ?_
 cbv
 have FU:nr.length=l.length:=by rw [XA,lgM]
 (refine cE [0] trivial rfl rfl (kH ht s hs (by omega) g1) (bK ?_))
 cbv
 (refine cE [0] trivial rfl rfl (kH ht s hs (by ((try simp only [aa] at*);omega)) g2) (bK ?_))
 cbv
 obtain ⟨J0,eg⟩:∃J0:Nat→Int×List (List D)×Int→Prop,∀n i o a,J0 n (i,o,a)↔(∃(c:Nat) (k:List bU),i=c∧c+n=n0.toNat∧o=k.map bU.cells∧k.length=c∧0≤a∧a≤s.length∧gP s n k a=some (l,e)):=⟨fun n v=>match v with|(i,o,a)=>(∃(c:Nat) (k:List bU),i=c∧c+n=n0.toNat∧o=k.map bU.cells∧k.length=c∧0≤a∧a≤s.length∧gP s n k a=some (l,e)),fun _ _ _ _=>Iff.rfl⟩
 refine aZ ⟨[0,2,3,10,11],[],[(2,1,3)]⟩ (σ:=Int×List (List D)×Int) (fun v=>[(11,.d (.int .u64 (t _ fun _=>v.1)))]) (fun v=>[(3,.row 3 (t _ fun _=>v.2.1)),(2,.var [AV.d (D.int IntKind.u64 f),.ow 3 3 (t _ fun _=>(v.2.1).length)]),(0,.var [AV.d (D.str s),.d (.int .i64 (t _ fun _=>v.2.2))])]) J0 ?_
 cbv
 refine aA ⟨n0.toNat,(_,[],_),(eg _ _ _ _).2 ?_,by simp only [ht];rfl,?_⟩
 ·exact ⟨0,[],rfl,by omega,rfl,rfl,b2.2.2.1,b2.2.2.2,g3⟩
 rintro n ⟨i,o,a⟩ hj
 replace hj:=(eg _ _ _ _).1 hj
 obtain ⟨c,k,rfl,j1,rfl,j3,j4,j5,j6⟩:=hj
 have hx:=FT j6
 cbv
 refine ai (fun h1=>?_) (fun h1=>?_)
 ·simp [ht,aa] at h1
  cbv
  ((obtain ⟨m,u1,u2,u3,q1,q2,q3,rfl,y1,y2,y3,jy⟩:=hx.resolve_left (by ((try simp only [aa] at*);omega));have d1:=fw y1;have d2:=fw y2;have d3:=fw y3;refine cE [0] trivial rfl rfl (kH ht s hs (by simp only [ht];((try simp only [aa] at*);omega)) (by simp only [ht];exact y1)) (bK ?_)))
  cbv
  (refine cE [0] trivial rfl rfl (kH ht s hs (by ((try simp only [aa] at*);omega)) y2) (bK ?_))
  cbv
  (apply VO (cj 12 1 [(0,0)]::cj 12 4 [(0,2)]::cj 12 8 [(0,3)]::cj 12 16 [(0,4)]::cj 12 3 [(1,1)]::cj 12 5 [(1,2),(2,0)]::cj 12 9 [(1,3),(3,0)]::cj 12 12 [(2,3),(3,2)]::cj 12 17 [(1,4),(4,0)]::cj 12 20 [(2,4),(4,2)]::cj 12 24 [(3,4),(4,3)]::cj 12 48 [(4,5)]::cj 12 7 [(5,2),(6,1)]::cj 12 11 [(5,3),(7,1)]::cj 12 13 [(6,3),(7,2),(8,0)]::cj 12 19 [(5,4),(9,1)]::cj 12 21 [(6,4),(9,2),(10,0)]::cj 12 25 [(7,4),(9,3),(11,0)]::cj 12 28 [(8,4),(10,3),(11,2)]::cj 12 49 [(9,5),(12,0)]::cj 12 52 [(10,5),(12,2)]::cj 12 56 [(11,5),(12,3)]::cj 12 112 [(12,6)]::cj 12 15 [(13,3),(14,2),(15,1)]::cj 12 23 [(13,4),(16,2),(17,1)]::cj 12 27 [(14,4),(16,3),(18,1)]::cj 12 29 [(15,4),(17,3),(18,2),(19,0)]::cj 12 51 [(16,5),(20,1)]::cj 12 53 [(17,5),(20,2),(21,0)]::cj 12 57 [(18,5),(20,3),(22,0)]::cj 12 60 [(19,5),(21,3),(22,2)]::cj 12 113 [(20,6),(23,0)]::cj 12 116 [(21,6),(23,2)]::cj 12 120 [(22,6),(23,3)]::cj 12 31 [(24,4),(25,3),(26,2),(27,1)]::cj 12 55 [(25,5),(28,2),(29,1)]::cj 12 59 [(26,5),(28,3),(30,1)]::cj 12 61 [(27,5),(29,3),(30,2),(31,0)]::cj 12 115 [(28,6),(32,1)]::cj 12 117 [(29,6),(32,2),(33,0)]::cj 12 121 [(30,6),(32,3),(34,0)]::cj 12 124 [(31,6),(33,3),(34,2)]::cj 12 63 [(35,5),(36,3),(37,2),(38,1)]::cj 12 119 [(36,6),(39,2),(40,1)]::cj 12 123 [(37,6),(39,3),(41,1)]::cj 12 125 [(38,6),(40,3),(41,2),(42,0)]::cj 12 252 [(42,7)]::cj 12 127 [(43,6),(44,3),(45,2),(46,1)]::cj 12 253 [(46,7),(47,0)]::cj 12 508 [(47,8)]::cj 12 255 [(48,7),(49,1)]::cj 12 509 [(49,8),(50,0)]::cj 12 511 [(51,8),(52,1)]::cj 12 1023 [(53,9)]::cj 12 2047 [(54,10)]::cj 12 4095 [(55,11)]::[]) (_::_::_::_::_::_::_::_::_::_::_::_::_::_::_::_::_::_::_::_::_::_::_::_::_::_::_::_::_::_::_::_::_::_::_::_::_::_::_::_::_::_::_::_::_::_::_::_::_::_::_::_::_::_::_::_::_::[]);kernel_rfl;(next=>refine WE.mk rfl ?_;repeat (first|((with_reducible apply Bn.cons);exact rfl)|(with_reducible exact Bn.nil)|((with_reducible apply M3);focus (cbv;first|done|(refine cE [0] trivial rfl rfl (kH ht s hs (by ((try simp only [aa] at*);omega)) y3) (bK ?_);cbv;done)|(refine And.intro ?_ ?_;(next=>(simp only [ht,true_and];exact Ov (l:=k) (by omega)));exact rfl)))|(apply vN.cons;exact rfl)|exact vN.nil));(next=>exact rfl))
  cbv
  refine bf (_,_,_) (by simp only [ht,←List.length_append];rfl) m ?_ ((eg _ _ _ _).2 ?_)
  ·omega
  simp only [aa]
  exact ⟨c+1,k++[⟨u1,u2,IntKind.i64.wrap u3⟩],M4 (by omega),by omega,by simp [bU.cells],by simp;omega,d3.2.2.1,d3.2.2.2,jy⟩
 simp [ht,aa] at h1
 cbv
 (have hn:n=0:=(by ((try simp only [aa] at*);omega));subst hn;rw [gP] at j6;simp only [osI,Prod.mk.injEq] at j6;obtain ⟨rfl,rfl⟩:=j6;exact an trivial (by simp [ht]) rfl (by simp only [ht];rfl) rfl (by simp only [ht];subst XA;rfl))
theorem UL (x y:Nat) (hx:x<18446744073709551616) (hy:y<18446744073709551616):BF x y=if (x*y / 18446744073709551616=0) then (((x*y:Nat):Int),true) else (0,false):=by
 unfold BF
 simp only [Int.toNat_natCast]
 by_cases h:x*y<18446744073709551616
 ·rw [if_pos h,if_pos (Nat.div_eq_of_lt h)]
 rw [if_neg h,if_neg (by have:=Nat.div_le_div_right (c:=18446744073709551616) (Nat.le_of_not_lt h);simp at this;omega)]
theorem UM (x:Nat):x &&& 4294967295=x%4294967296:=by
 have:=Nat.and_two_pow_sub_one_eq_mod x 32
 simpa using this
theorem RS (x:Nat) (hx:x<18446744073709551616):IntKind.u64.wrap ((BitVec.ofInt IntKind.u64.bits (x:Int) &&& BitVec.ofInt IntKind.u64.bits 4294967295).toNat:Int)=((x%4294967296:Nat):Int):=by
 have e1:BitVec.ofInt IntKind.u64.bits (x:Int)=BitVec.ofNat 64 x:=by simp [IntKind.bits]
 have e2:BitVec.ofInt IntKind.u64.bits 4294967295=BitVec.ofNat 64 4294967295:=by rfl
 rw [e1,e2]
 have:(BitVec.ofNat 64 x &&& BitVec.ofNat 64 4294967295).toNat=x%4294967296:=by
  rw [BitVec.toNat_and,BitVec.toNat_ofNat,BitVec.toNat_ofNat,Nat.mod_eq_of_lt (a:=x) (by simpa using hx),Nat.mod_eq_of_lt (a:=4294967295) (by decide),UM]
 have h2:x%4294967296<18446744073709551616:=by omega
 rw [bG]
 show (((BitVec.ofNat 64 x &&& BitVec.ofNat 64 4294967295).toNat:Nat):Int)%18446744073709551616=_
 rw [this];omega
theorem M5 (x:Nat):(x:Int).fdiv (2^(min (32:Int).toNat IntKind.u64.bits))=((x / 4294967296:Nat):Int):=by
 show (x:Int).fdiv (2^32)=_
 rw [Int.fdiv_eq_ediv_of_nonneg _ (by decide)];norm_cast
theorem FV {n:Nat} (h:n<18446744073709551616):IntKind.u64.wrap (n:Int)=n:=by rw [bG];omega
theorem UN (ht:TT t) (x y:Nat) (hx:x<18446744073709551616) (hy:y<18446744073709551616) {a b:Int} (ha:a=x) (hb:b=y):
 FC 204 [az a,az b] [] (.ret (.dF [az (t _ fun _=>((x*y / 18446744073709551616:Nat):Int)),az (t _ fun _=>IntKind.u64.wrap ((x*y:Nat):Int))])) []:=by
 obtain ⟨k1,k2,k3,k4⟩:=Lib.mul64_hi x y hx hy
 refine bC ht (aE:=[]) Tryz.func204 (c:=_) rfl rfl (N:=51) rfl (rs:=_) rfl (n:=0) rfl rfl ?_
 cbv
 refine ⟨by simp [ht],by simp [ht],by simp [ht],by simp [ht],by simp [ht],?_⟩
 refine an trivial trivial rfl rfl rfl ?_
 simp only [ht,aa]
 subst ha hb
 have b1:x / 4294967296≤4294967295:=by omega
 have b2:y / 4294967296≤4294967295:=by omega
 have b3:x%4294967296≤4294967295:=by omega
 have b4:y%4294967296≤4294967295:=by omega
 have m1:=Lib.half_mul_le b1 b2
 have m2:=Lib.half_mul_le b1 b4
 have m3:=Lib.half_mul_le b3 b2
 have m4:=Lib.half_mul_le b3 b4
 have k5:x / 4294967296*(y / 4294967296)+(x / 4294967296*(y%4294967296)+x%4294967296*(y%4294967296) / 4294967296) / 4294967296<18446744073709551616:=by omega
 have k6:x*y / 18446744073709551616<18446744073709551616:=by
  rw [Nat.div_lt_iff_lt_mul (by decide)]
  exact Nat.mul_lt_mul'' hx hy
 simp only [M5,RS x hx,RS y hy,←Int.natCast_mul]
 rw [FV k1,FV (n:=x / 4294967296*(y%4294967296)) (by omega),FV (n:=x%4294967296*(y / 4294967296)) (by omega),FV (n:=x / 4294967296*(y / 4294967296)) (by omega)]
 simp only [M5,←Int.natCast_add]
 rw [FV k2,RS _ k2]
 simp only [M5,←Int.natCast_add]
 rw [FV k5,FV k3]
 simp only [M5,←Int.natCast_add]
 rw [k4,FV k6]
theorem Ow (ht:TT t) (x y:Int) (hx:0≤x∧x<18446744073709551616) (hy:0≤y∧y<18446744073709551616) {r:Int} {ok:Bool} (h:(r,ok)=BF x y):
 FC 169 [az x,az y] [] (.ret (.dF [az r,BL ok])) []:=by
 obtain ⟨a,rfl⟩:=Int.eq_ofNat_of_zero_le hx.1
 obtain ⟨b,rfl⟩:=Int.eq_ofNat_of_zero_le hy.1
 have ha:a<18446744073709551616:=by omega
 have hb:b<18446744073709551616:=by omega
 rw [UL a b ha hb] at h
 have hw:a*b / 18446744073709551616=0→IntKind.u64.wrap ((a*b:Nat):Int)=((a*b:Nat):Int):=fun e=>by
  refine FV ?_
  rcases Nat.lt_or_ge (a*b) 18446744073709551616 with h1|h1
  ·exact h1
  have:=Nat.div_le_div_right (c:=18446744073709551616) h1;simp at this;omega
 obtain ⟨w,ZR⟩:∃w,w=IntKind.u64.wrap ((a*b:Nat):Int):=⟨_,rfl⟩
 obtain ⟨z,hz⟩:∃z,z=a*b / 18446744073709551616:=⟨_,rfl⟩
 have hc:=UN ht a b ha hb rfl rfl
 rw [←ZR,←hz] at hc
 rw [←ZR,←hz] at hw
 rw [←hz] at h
 obtain ⟨x,hx0⟩:∃x:Int,x=a:=⟨_,rfl⟩
 obtain ⟨y,hy0⟩:∃y:Int,y=b:=⟨_,rfl⟩
 rw [←hx0,←hy0] at hc ⊢
 refine bC ht (aE:=[]) Tryz.func169 (c:=_) rfl rfl (N:=17) rfl (rs:=_) rfl (n:=0) rfl rfl ?_
 cbv
 refine gj trivial hc trivial rfl rfl ?_
 cbv
 refine ai (fun hc=>?_) (fun hc=>?_)
 ·cbv
  refine an trivial trivial rfl rfl rfl ?_
  simp only [ht,aa,Bool.not_eq_true',decide_eq_false_iff_not] at hc
  rw [if_neg (by omega)] at h
  cases h;rfl
 cbv
 refine an trivial trivial rfl rfl rfl ?_
 simp only [ht,aa,Bool.not_eq_false',decide_eq_true_eq] at hc
 have Ye:z=0:=by omega
 rw [if_pos Ye] at h
 cases h
 simp only [ht,hw Ye]
theorem RT (ht:TT t) (m x y:Int) (hx:0≤x∧x<18446744073709551616) (hm:0≤m∧m<18446744073709551616) {r:Int} {ok:Bool} (h:(r,ok)=BF x m):
 FC 168 [az x,az y,.ptr 0 0] [.var [az m]] (.ret (.dF [az r,BL ok])) [.var [az m]]:=by
 refine bC ht (aE:=[.var [az m]]) Tryz.func168 (c:=_) rfl rfl (N:=12) rfl (rs:=_) rfl (n:=1) rfl rfl ?_
 cbv
 refine gj trivial (Ow ht x m hx hm h) trivial rfl rfl ?_
 cbv
 exact an trivial trivial rfl rfl rfl rfl
theorem UO (ht:TT t) (m:Int) (a0 a1 a2 a3 b0 b1 b2 b3:Int) (op:Int→Int→Int×Bool) (F:Nat) (hop:∀(x y r:Int) (ok:Bool),(r,ok)=op x y→0≤x∧x<18446744073709551616→FC F [.d (.int .u64 x),.d (.int .u64 y),.ptr 0 0] [.var [az m]] (.ret (.dF [.d (.int .u64 r),.d (.bool ok)])) [.var [az m]])
 (u0:0≤a0∧a0<18446744073709551616) (u1:0≤a1∧a1<18446744073709551616) (u2:0≤a2∧a2<18446744073709551616) (u3:0≤a3∧a3<18446744073709551616)
 {r0 r1 r2 r3:Int} {ok:Bool} (h:(⟨r0,r1,r2,r3⟩,ok)=both op ⟨a0,a1,a2,a3⟩ ⟨b0,b1,b2,b3⟩):
 FC 79 [.agg [.d (.int .u64 a0),.d (.int .u64 a1),.d (.int .u64 a2),.d (.int .u64 a3)],.agg [.d (.int .u64 b0),.d (.int .u64 b1),.d (.int .u64 b2),.d (.int .u64 b3)],.fn F [.ptr 0 0]] [.var [az m]]
  (.ret (.dF [.agg [.d (.int .u64 r0),.d (.int .u64 r1),.d (.int .u64 r2),.d (.int .u64 r3)],.d (.bool ok)])) [.var [az m]]:=by
 obtain ⟨⟨s0,k0⟩,e0⟩:∃s,s=op a0 b0:=⟨_,rfl⟩
 obtain ⟨⟨s1,k1⟩,e1⟩:∃s,s=op a1 b1:=⟨_,rfl⟩
 obtain ⟨⟨s2,k2⟩,e2⟩:∃s,s=op a2 b2:=⟨_,rfl⟩
 obtain ⟨⟨s3,k3⟩,e3⟩:∃s,s=op a3 b3:=⟨_,rfl⟩
 have h0:(k0&&k1&&k2&&k3)=false→r0=0∧r1=0∧r2=0∧r3=0∧ok=false:=by
  intro hk;simp only [both,←e0,←e1,←e2,←e3] at h;rw [if_neg (by rw [hk];simp)] at h;cases h;exact ⟨rfl,rfl,rfl,rfl,rfl⟩
 have h1:(k0&&k1&&k2&&k3)=true→r0=s0∧r1=s1∧r2=s2∧r3=s3∧ok=true:=by
  intro hk;simp only [both,←e0,←e1,←e2,←e3] at h;rw [if_pos hk] at h;cases h;exact ⟨rfl,rfl,rfl,rfl,rfl⟩
 clear h
 have fin:∀{B:List ax},(k0&&k1&&k2&&k3)=false→Bq 1 True (AV.dF [.agg [.d (.int .u64 0),.d (.int .u64 0),.d (.int .u64 0),.d (.int .u64 0)],.d (.bool false)]) (.var [az m]::B) (some (True,AV.dF [.agg [.d (.int .u64 0),.d (.int .u64 0),.d (.int .u64 0),.d (.int .u64 0)],.d (.bool false)]))
  (.ret (.dF [.agg [.d (.int .u64 r0),.d (.int .u64 r1),.d (.int .u64 r2),.d (.int .u64 r3)],.d (.bool ok)])) [.var [az m]]:=by
  intro bx hk
  obtain ⟨rfl,rfl,rfl,rfl,rfl⟩:=h0 hk
  exact an trivial trivial rfl rfl rfl rfl
 refine bC ht (aE:=[.var [az m]]) Tryz.func79 (c:=_) rfl rfl (N:=34) rfl (rs:=_) rfl (n:=1) rfl rfl ?_
 cbv
 refine aZ ⟨[2,3,4,6,12,13],[],[]⟩ (σ:=Nat) (fun j=>[(13,.d (.int .i64 j))]) (fun j=>[(1,.var [.d (.int .u64 (bif Nat.blt 0 j then s0 else a0)),.d (.int .u64 (bif Nat.blt 1 j then s1 else a1)),.d (.int .u64 (bif Nat.blt 2 j then s2 else a2)),.d (.int .u64 (bif Nat.blt 3 j then s3 else a3))])])
  (fun n j=>n+j=4∧(0<j→k0=true)∧(1<j→k1=true)∧(2<j→k2=true)∧(3<j→k3=true)) ?_
 cbv
 refine aA ⟨4,0,⟨rfl,by omega,by omega,by omega,by omega⟩,rfl,?_⟩
 rintro n j ⟨hn,g0,g1,g2,g3⟩
 have hj:j=0∨j=1∨j=2∨j=3∨j=4:=by omega
 rcases hj with rfl|rfl|rfl|rfl|rfl
 ·cbv
  refine mS (by simp [ht]) ?_
  cbv
  refine ⟨by simp [ht],by simp [ht],cE [0] trivial rfl rfl (hop _ _ _ _ e0 u0) (bK ?_)⟩
  cbv
  refine ai (fun hc=>?_) (fun hc=>?_)
  ·simp only [ht,Bool.not_eq_true'] at hc
   cbv
   exact fin (by simp [hc])
  simp only [ht,Bool.not_eq_false'] at hc
  cbv
  refine ⟨by simp [ht],?_⟩
  refine aA ⟨3-0,0+1,⟨⟨by omega,by omega,by simp_all,by simp_all,by simp_all,by simp_all⟩,?_⟩⟩
  simp only [ht];rfl
 ·cbv
  refine mS (by simp [ht]) ?_
  cbv
  refine ⟨by simp [ht],by simp [ht],cE [0] trivial rfl rfl (hop _ _ _ _ e1 u1) (bK ?_)⟩
  cbv
  refine ai (fun hc=>?_) (fun hc=>?_)
  ·simp only [ht,Bool.not_eq_true'] at hc
   cbv
   exact fin (by simp [hc])
  simp only [ht,Bool.not_eq_false'] at hc
  cbv
  refine ⟨by simp [ht],?_⟩
  refine aA ⟨3-1,1+1,⟨⟨by omega,by omega,by simp_all,by simp_all,by simp_all,by simp_all⟩,?_⟩⟩
  simp only [ht];rfl
 ·cbv
  refine mS (by simp [ht]) ?_
  cbv
  refine ⟨by simp [ht],by simp [ht],cE [0] trivial rfl rfl (hop _ _ _ _ e2 u2) (bK ?_)⟩
  cbv
  refine ai (fun hc=>?_) (fun hc=>?_)
  ·simp only [ht,Bool.not_eq_true'] at hc
   cbv
   exact fin (by simp [hc])
  simp only [ht,Bool.not_eq_false'] at hc
  cbv
  refine ⟨by simp [ht],?_⟩
  refine aA ⟨3-2,2+1,⟨⟨by omega,by omega,by simp_all,by simp_all,by simp_all,by simp_all⟩,?_⟩⟩
  simp only [ht];rfl
 ·cbv
  refine mS (by simp [ht]) ?_
  cbv
  refine ⟨by simp [ht],by simp [ht],cE [0] trivial rfl rfl (hop _ _ _ _ e3 u3) (bK ?_)⟩
  cbv
  refine ai (fun hc=>?_) (fun hc=>?_)
  ·simp only [ht,Bool.not_eq_true'] at hc
   cbv
   exact fin (by simp [hc])
  simp only [ht,Bool.not_eq_false'] at hc
  cbv
  refine ⟨by simp [ht],?_⟩
  refine aA ⟨3-3,3+1,⟨⟨by omega,by omega,by simp_all,by simp_all,by simp_all,by simp_all⟩,?_⟩⟩
  simp only [ht];rfl
 cbv
 refine qj (by simp [ht]) ?_
 cbv
 obtain ⟨rfl,rfl,rfl,rfl,rfl⟩:=h1 (by simp [g0,g1,g2,g3])
 exact an trivial trivial rfl rfl rfl rfl
theorem Ox (ht:TT t) (a0 a1 a2 a3 n:Int) (hu:(⟨a0,a1,a2,a3⟩:bz).u') (hn:0≤n∧n<18446744073709551616):
 FC 117 [V4 a0 a1 a2 a3,az n] [] (.ret (TP (t _ fun _=>rQ ⟨a0,a1,a2,a3⟩ n))) []:=by
 obtain ⟨⟨⟨r0,r1,r2,r3⟩,ok⟩,h⟩:∃r,r=rQ ⟨a0,a1,a2,a3⟩ n:=⟨_,rfl⟩
 rw [←h]
 obtain ⟨u0,u1,u2,u3⟩:=hu
 refine bC ht (aE:=[]) Tryz.func117 (c:=_) rfl rfl (N:=12) rfl (rs:=_) rfl (n:=0) rfl rfl ?_
 cbv
 refine cE [1] trivial rfl rfl (UO ht n a0 a1 a2 a3 0 0 0 0 (fun x _=>BF x n) 168 (fun x y r ok e hx=>RT ht n x y hx hn e) u0 u1 u2 u3 h) (bK ?_)
 cbv
 refine an trivial trivial rfl rfl rfl ?_
 simp only [ht]
def Ask.sm (x:Ask):Prop:=x.path.length<1000000000000∧x.fQ.u'∧x.b9.length<1000000000∧∀m∈x.b9,m.sm
theorem XB {x y:Ask}:x=y↔x.path=y.path∧x.fQ=y.fQ∧x.count=y.count∧x.prio=y.prio∧x.dS=y.dS∧x.b9=y.b9:=by cases x;cases y;simp
theorem tj (ht:TT t) (p:aD) (a b c d n pr tk:Int) {sl:List Term} (sr:List (List D)) (hu:(⟨a,b,c,d⟩:bz).u'):
 FC 58 [.agg [ST p,az a,az b,az c,az d,bq n,bq pr,bq tk,SL sr]] [] (.ret (TP (t _ fun _=>cW ⟨p,⟨a,b,c,d⟩,n,pr,tk,sl⟩))) []:=by
 refine bC ht (aE:=[]) Tryz.func58 (c:=_) rfl rfl (N:=12) rfl (rs:=_) rfl (n:=0) rfl rfl ?_
 cbv
 (refine ay trivial (Ox ht a b c d _ hu (by simp only [ht];rw [bG];omega)) trivial rfl rfl (fun r9 dN=>?_);simp only [ht,bG] at dN)
 cbv
 refine an trivial trivial rfl rfl rfl ?_
 (simp [cW, *];done)
theorem Lp (ht:TT t) (n a b:Int):FC 57 [bq n,bq a,bq b] [] (.ret (bY (t _ fun _=>Q3 n a b))) []:=by
 refine bC ht (aE:=[]) Tryz.func57 (c:=_) rfl rfl (N:=15) rfl (rs:=_) rfl (n:=0) rfl rfl ?_
 cbv
 iterate 3 refine gI (by simp [ht]) ?_
 refine pI (by simp [ht]) ?_
 refine an trivial trivial rfl rfl rfl ?_
 (simp [ht,Q3];done)
theorem oO (ht:TT t) (p:aD) (a b c d n pr tk:Int) {sl:List Term} {sr:List (List D)} (V2:sr=sl.map Term.cells) (fR:(⟨p,⟨a,b,c,d⟩,n,pr,tk,sl⟩:Ask).sm):
 FC 18 [.agg [ST p,az a,az b,az c,az d,bq n,bq pr,bq tk,SL sr]] [] (.ret (kR (t _ fun _=>cR ⟨p,⟨a,b,c,d⟩,n,pr,tk,sl⟩))) []:=by
 obtain ⟨h1,h2,h3,h4⟩:=fR
 simp only at h1 h2 h3 h4
 refine bC ht (aE:=[]) Tryz.func18 (c:=_) rfl rfl (N:=46) rfl (rs:=_) rfl (n:=0) rfl rfl ?_
 cbv
 have eI:sr.length=sl.length:=by rw [V2,lgM]
 (refine ay trivial (tj ht p a b c d n pr tk (sl:=sl) sr h2) trivial rfl rfl (fun r9 dN=>?_);simp only [ht] at dN)
 cbv
 refine ay trivial (BP ht _ _ (by assumption)) trivial rfl rfl (fun r0 bE=>?_)
 simp only [ht] at bE
 cbv
 refine ai (fun h1=>?_) (fun h1=>?_)
 ·simp [ht] at h1
  cbv
  refine an trivial trivial rfl rfl rfl ?_
  (simp only [ht,cR];grind)
 simp [ht] at h1
 cbv
 refine ay trivial (Lp ht _ _ _) trivial rfl rfl (fun r2 cP=>?_)
 simp only [ht] at cP
 cbv
 iterate 3 refine gI (by simp [ht]) ?_
 refine aM (fun g3=>⟨by simp [ht] at g3 ⊢;exact g3,trivial,Lp ht _ _ _⟩) rfl rfl (fun r4 dO=>?_)
 simp only [ht] at dO
 cbv
 refine gI (by simp [ht]) ?_
 refine pI (by simp [ht]) ?_
 iterate 3 refine gI (by simp [ht]) ?_
 refine aM (fun g5=>⟨by simp [ht] at g5 ⊢;exact g5,trivial,Lp ht _ _ _⟩) rfl rfl (fun r6 gv=>?_)
 simp only [ht] at gv
 cbv
 refine gI (by simp [ht]) ?_
 refine pI (by simp [ht]) ?_
 refine ai (fun h7=>?_) (fun h7=>?_)
 ·simp [ht] at h7
  cbv
  refine an trivial trivial rfl rfl rfl ?_
  (simp only [ht,cR];grind)
 simp [ht] at h7
 cbv
 refine ay trivial (yj ht (by assumption) (by assumption) (by assumption)) trivial rfl rfl (fun r8 qy=>?_)
 simp only [ht] at qy
 cbv
 refine ai (fun h9=>?_) (fun h9=>?_)
 ·simp [ht] at h9
  cbv
  refine an trivial trivial rfl rfl rfl ?_
  (simp only [ht,cR];grind)
 simp [ht] at h9
 cbv
 refine ai (fun h10=>?_) (fun h10=>?_)
 ·simp [ht] at h10
  cbv
  refine an trivial trivial rfl rfl rfl ?_
  (simp only [ht,cR];grind)
 simp [ht] at h10
 cbv
 refine an trivial trivial rfl rfl rfl ?_
 (simp only [ht,cR];grind)
theorem RU (ht:TT t) (p p':aD) (a b c d n pr tk a' b' c' d' n' pr' Pr:Int) {sl ru:List Term} {sr sr':List (List D)} (V2:sr=sl.map Term.cells) (ab5:sr'=ru.map Term.cells)
 (hl:sl.length<1000000000) (hl':ru.length<1000000000) (hs:∀x∈sl,x.fW.length<1000000000) (hs':∀x∈ru,x.fW.length<1000000000):
 FC 20 [.agg [ST p,az a,az b,az c,az d,bq n,bq pr,bq tk,SL sr],.agg [ST p',az a',az b',az c',az d',bq n',bq pr',bq Pr,SL sr']] [] (.ret (bY (t _ fun _=>decide ((⟨p,⟨a,b,c,d⟩,n,pr,tk,sl⟩:Ask)=⟨p',⟨a',b',c',d'⟩,n',pr',Pr,ru⟩)))) []:=by
 refine bC ht (aE:=[]) Tryz.func20 (c:=_) rfl rfl (N:=47) rfl (rs:=_) rfl (n:=0) rfl rfl ?_
 cbv
 have eI:sr.length=sl.length:=by rw [V2,lgM]
 have aaA:sr'.length=ru.length:=by rw [ab5,lgM]
 iterate 5 refine gI (by simp [ht]) ?_
 refine pI (by simp [ht]) ?_
 iterate 5 refine gI (by simp [ht]) ?_
 refine pI (by simp [ht]) ?_
 iterate 5 refine gI (by simp [ht]) ?_
 refine pI (by simp [ht]) ?_
 iterate 5 refine gI (by simp [ht]) ?_
 refine pI (by simp [ht]) ?_
 iterate 4 refine gI (by simp [ht]) ?_
 refine aM (fun g0=>⟨by simp [ht] at g0 ⊢;exact g0,trivial,RI ht (by assumption) (by assumption) (by assumption) (by assumption) (by assumption) (by assumption)⟩) rfl rfl (fun r1 cX=>?_)
 simp only [ht] at cX
 cbv
 refine pI (by simp [ht]) ?_
 refine an trivial trivial rfl rfl rfl ?_
 (simp [*];grind)
end Dem
end
