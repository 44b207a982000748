/- Parts of a proof, joined. -/
import Derived.Test.YtjnbpclolnmimaaGreatDoorJ23
set_option linter.unusedSimpArgs false
set_option linter.unusedVariables false
set_option maxRecDepth 100000
set_option maxHeartbeats 4000000
section
open Go Dem Go.Proofs
namespace Dem
variable {t:Th}
theorem OZ (ht:TT t) {l m:List bU} {es fs:List (List D)} (aF:es=l.map bU.cells) (qL:fs=m.map bU.cells) (hl:l.length<1000000000) (hm:m.length<1000000000):
 FC 116 [SL es,SL fs] [] (.ret (bY (t _ fun _=>decide (l=m)))) []:=by
 refine bC ht (aE:=[]) Tryz.func116 (c:=_) rfl rfl (N:=26) rfl (rs:=_) rfl (n:=0) rfl rfl ?_
 cbv
 have ar:es.length=l.length:=by rw [aF,lgM]
 have cD:fs.length=m.length:=by rw [qL,lgM]
 refine ai (fun h0=>?_) (fun h0=>?_)
 ·simp [ht,aa,ar,cD] at h0
  cbv
  refine an trivial trivial rfl rfl rfl ?_
  (simp [ht];rintro rfl;simp_all;done)
 simp [ht,aa,ar,cD] at h0
 cbv
 obtain ⟨J1,fe⟩:∃J1:Nat→Int→Prop,∀n i,J1 n i↔(∃k:Nat,i=k∧k+n=l.length∧l.length=m.length∧decide (l=m)=decide (l.drop k=m.drop k)):=⟨fun n v=>match v with|i=>(∃k:Nat,i=k∧k+n=l.length∧l.length=m.length∧decide (l=m)=decide (l.drop k=m.drop k)),fun _ _=>Iff.rfl⟩
 refine aZ ⟨[0,1,12,13],[],[]⟩ (σ:=Int) (fun v=>[(13,.d (.int .i64 (t _ fun _=>v)))]) (fun v=>[]) J1 ?_
 cbv
 refine aA ⟨l.length,_,(fe _ _).2 ?_,by simp only [ht];rfl,?_⟩
 ·(simp only [aa];grind)
 rintro n i hj
 replace hj:=(fe _ _).1 hj
 obtain ⟨k,rfl,j1,j2,j4⟩:=hj
 cbv
 refine ai (fun h2=>?_) (fun h2=>?_)
 ·simp [ht,aa,ar] at h2
  cbv
  refine bJ [false,false,false,false,false,false,false,false,true] (by kernel_rfl) (by kernel_rfl) ?_
  cbv
  iterate 2 refine gI (by simp) ?_
  refine dg ht aF (cT:=bU.aH t) (by (simp only [ht,aa];omega)) (by (simp only [ht,aa];omega)) (fun _=>rfl) (fun _=>rfl) (fun x3 ke=>?_)
  simp [ht,aa] at ke
  rw [bO ke] at j4
  cbv
  iterate 3 refine gI (by simp) ?_
  refine dg ht qL (cT:=bU.aH t) (by (simp only [ht,aa];omega)) (by (simp only [ht,aa];omega)) (fun _=>rfl) (fun _=>rfl) (fun x4 qt=>?_)
  simp [ht,aa] at qt
  rw [bO qt] at j4
  cbv
  refine gI (by simp) ?_
  refine ai (fun h5=>?_) (fun h5=>?_)
  ·simp [ht] at h5
   cbv
   refine an trivial trivial rfl rfl rfl ?_
   (simp [ht];rintro rfl;simp_all;done)
  simp [ht] at h5
  cbv
  refine bf _ (by simp only [ht];rfl) (n-1) ?_ ((fe _ _).2 ?_)
  ·omega
  simp only [aa]
  refine ⟨k+1,aC (by omega),by omega,by omega,?_⟩
  (simp [Xe, *];done)
 simp [ht,aa,ar] at h2
 cbv
 refine an trivial trivial rfl rfl rfl ?_
 (simp [ht,j4,List.drop_eq_nil_of_le (show l.length≤k by omega),List.drop_eq_nil_of_le (show m.length≤k by omega)];done)
theorem zI (ht:TT t) (f g:Int) {l m:List bU} {es fs:List (List D)} (aF:es=l.map bU.cells) (qL:fs=m.map bU.cells) (hl:l.length<1000000000) (hm:m.length<1000000000):
 FC 56 [.agg [az f,SL es],.agg [az g,SL fs]] [] (.ret (bY (t _ fun _=>decide ((⟨f,l⟩:qG)=⟨g,m⟩)))) []:=by
 refine bC ht (aE:=[]) Tryz.func56 (c:=_) rfl rfl (N:=17) rfl (rs:=_) rfl (n:=0) rfl rfl ?_
 cbv
 have ar:es.length=l.length:=by rw [aF,lgM]
 have cD:fs.length=m.length:=by rw [qL,lgM]
 iterate 4 refine gI (by simp [ht]) ?_
 refine aM (fun g0=>⟨by simp [ht] at g0 ⊢;exact g0,trivial,OZ ht (by assumption) (by assumption) (by assumption) (by assumption)⟩) rfl rfl (fun r1 cX=>?_)
 simp only [ht] at cX
 cbv
 refine pI (by simp [ht]) ?_
 refine an trivial trivial rfl rfl rfl ?_
 (simp [*];done)
theorem Ct (ht:TT t) (f:Int) {l:List bU} {es:List (List D)} (aF:es=l.map bU.cells) (hf:f<18446744073709551616) (hl:l.length<1000000000) (hu:∀x∈l,x.round<18446744073709551616∧x.id<18446744073709551616) (hn:(jk ⟨f,l⟩).length<9223372036854775000):
 FC 76 [.agg [az f,SL es]] [] (.ret (tG (t _ fun _=>jk ⟨f,l⟩))) []:=by
 have C7:IntKind.u64.wrap (es.length:Int)=l.length:=by rw [bG,aF,lgM];omega
 have w10:∀u,(ej u).length≤10:=c6
 refine bC ht (aE:=[]) Tryz.func76 (c:=_) rfl rfl (N:=38) rfl (rs:=_) rfl (n:=0) rfl rfl ?_
 cbv
 have ar:es.length=l.length:=by rw [aF,lgM]
 refine bJ [false,false,false,false,false,false,false,true,true,true] (by kernel_rfl) (by kernel_rfl) ?_
 cbv
 iterate 2 refine gI (by simp) ?_
 refine .inl ?_
 refine aM (fun g0=>⟨trivial,trivial,cK ht _ (by assumption)⟩) rfl rfl (fun r1 cX=>?_)
 simp only [ht] at cX
 (try rw [C7] at cX)
 have Xy:(r1).length≤10:=by rw [cX];exact c6 _
 cbv
 iterate 4 refine gI (by simp) ?_
 refine ay trivial (cK ht _ (by (simp only [ht];((try simp only [aa] at*);omega)))) trivial rfl rfl (fun r2 cP=>?_)
 simp only [ht] at cP
 (try rw [C7] at cP)
 have Xv:(r2).length≤10:=by rw [cP];exact c6 _
 cbv
 refine ⟨?_,?_⟩
 ·(simp only [ht,aa] at*;omega)
 cbv
 obtain ⟨J3,FN⟩:∃J3:Nat→List UInt8×Int→Prop,∀n o i,J3 n (o,i)↔(∃k:Nat,i=k∧k+n=l.length∧jk ⟨f,l⟩=o++((l.drop k).map MV).flatten):=⟨fun n v=>match v with|(o,i)=>(∃k:Nat,i=k∧k+n=l.length∧jk ⟨f,l⟩=o++((l.drop k).map MV).flatten),fun _ _ _=>Iff.rfl⟩
 refine aZ ⟨[3,16,17,18],[],[]⟩ (σ:=List UInt8×Int) (fun v=>[(3,.d (.str (t _ fun _=>v.1))),(18,.d (.int .i64 (t _ fun _=>v.2)))]) (fun v=>[]) J3 ?_
 cbv
 refine aA ⟨l.length,(_,_),(FN _ _ _).2 ?_,by simp only [ht];rfl,?_⟩
 ·exact ⟨0,rfl,by simp,by simp [jk, *]⟩
 rintro n ⟨o,i⟩ hj
 replace hj:=(FN _ _ _).1 hj
 obtain ⟨k,rfl,j1,j4⟩:=hj
 cbv
 refine ai (fun h4=>?_) (fun h4=>?_)
 ·simp [ht,aa,ar] at h4
  cbv
  refine dg ht aF (cT:=bU.aH t) (by (simp only [ht,aa];omega)) (by (simp only [ht,aa];omega)) (fun _=>rfl) (fun _=>rfl) (fun x5 Ot=>?_)
  simp [ht,aa] at Ot
  rw [kG Ot,MV] at j4
  have oe:=congrArg List.length j4
  simp only [List.length_append] at oe
  obtain ⟨Pu,hu2⟩:=hu _ (List.mem_of_getElem? Ot)
  cbv
  refine bJ [false,false,false,false,false,false,false,false,false,false,false,false,false,true,true] (by kernel_rfl) (by kernel_rfl) ?_
  cbv
  iterate 3 refine gI (by simp) ?_
  refine .inl ?_
  refine aM (fun g6=>⟨trivial,trivial,cK ht _ (by assumption)⟩) rfl rfl (fun r7 gL=>?_)
  simp only [ht] at gL
  (try rw [C7] at gL)
  have RQ:(r7).length≤10:=by rw [gL];exact c6 _
  cbv
  iterate 2 refine gI (by simp) ?_
  refine .inl ?_
  refine aM (fun g8=>⟨trivial,trivial,cK ht _ (by assumption)⟩) rfl rfl (fun r9 dN=>?_)
  simp only [ht] at dN
  (try rw [C7] at dN)
  have Xx:(r9).length≤10:=by rw [dN];exact c6 _
  cbv
  refine gI (by simp [ht];omega) ?_
  iterate 3 refine gI (by simp) ?_
  refine .inl ?_
  refine aM (fun g10=>⟨trivial,trivial,cK ht _ (by (simp only [ht,bG];omega))⟩) rfl rfl (fun Yn pZ=>?_)
  simp only [ht] at pZ
  (try rw [C7] at pZ)
  have V1:(Yn).length≤10:=by rw [pZ];exact c6 _
  cbv
  refine gI (by simp [ht];omega) ?_
  refine ⟨?_,?_⟩
  ·(simp [ht];omega)
  cbv
  refine bf (_,_) (by simp only [ht];rfl) (n-1) ?_ ((FN _ _ _).2 ?_)
  ·omega
  simp only [aa]
  exact ⟨k+1,aC (by omega),by omega,by rw [j4];simp only [u64,←bG];simp [*]⟩
 simp [ht,aa,ar] at h4
 cbv
 refine an trivial trivial rfl rfl rfl ?_
 (rw [List.drop_eq_nil_of_le (by omega),List.map_nil,List.flatten_nil,List.append_nil] at j4;simp only [ht,j4];done)
def Sj (z:Int):List D:=[.int .i64 z]
theorem O0 {x:Ask} (h:cR x=0):mX x.path x.path=true∧(1≤x.count∧x.count≤8)∧(0≤x.prio∧x.prio≤9)∧(1≤x.dS∧x.dS≤100)∧pP x.b9=true∧(cW x).2=true:=by
 unfold cR Q3 at h
 split at h;· cases h
 split at h;· cases h
 split at h;· cases h
 split at h;· cases h
 simp_all
theorem U4 (ht:TT t) (p:aD) (a b c d n pr tk:Int) {sl:List Term} {sr:List (List D)} (V2:sr=sl.map Term.cells) (fR:(⟨p,⟨a,b,c,d⟩,n,pr,tk,sl⟩:Ask).sm) (hn:(NO ⟨p,⟨a,b,c,d⟩,n,pr,tk,sl⟩).length<9223372036854775000):
 FC 75 [.agg [ST p,az a,az b,az c,az d,bq n,bq pr,bq tk,SL sr]] [] (.ret (tG (t _ fun _=>NO ⟨p,⟨a,b,c,d⟩,n,pr,tk,sl⟩))) []:=by
 obtain ⟨h1,h2,h3,h4⟩:=id fR
 simp only at h1 h2 h3 h4
 have hu:(⟨a,b,c,d⟩:bz).u:=⟨h2.1.2,h2.2.1.2,h2.2.2.1.2,h2.2.2.2.2⟩
 obtain ⟨nl,GU⟩:∃nl:List Int,nl=[n,pr,tk]:=⟨_,rfl⟩
 have aco:nl.length=3:=by rw [GU];rfl
 obtain ⟨ck,SX⟩:∃ck,ck=cR ⟨p,⟨a,b,c,d⟩,n,pr,tk,sl⟩:=⟨_,rfl⟩
 obtain ⟨ap,hap⟩:∃ap,ap=NO ⟨p,⟨a,b,c,d⟩,n,pr,tk,sl⟩:=⟨_,rfl⟩
 have hno:¬ck=0→ap=[]:=fun h=>by rw [hap,NO,if_pos (by rw [←SX];exact h)]
 have XU:ck=0→ap=bH p++CX ⟨a,b,c,d⟩++(nl.map ej).flatten++BD sl∧∀z∈nl,0≤z∧z<1000:=fun h=>by
  have ok:=O0 (SX.symm.trans h)
  simp only at ok
  refine ⟨by rw [hap,NO,if_neg (by rw [←SX,h];simp),GU];simp,?_⟩
  rw [GU];intro z hz;simp at hz;rcases hz with rfl|rfl|rfl<;>omega
 rw [←hap] at hn ⊢
 have Wm:ck=0→(BD sl).length<9223372036854775000:=fun h=>by
  have:=congrArg List.length (XU h).1
  simp only [List.length_append] at this;omega
 refine bC ht (aE:=[]) Tryz.func75 (c:=_) rfl rfl (N:=39) rfl (rs:=_) rfl (n:=0) rfl rfl ?_
 cbv
 have eI:sr.length=sl.length:=by rw [V2,lgM]
 refine ay trivial (oO ht _ _ _ _ _ _ _ _ (by assumption) (by assumption)) trivial rfl rfl (fun r0 bE=>?_)
 simp only [ht] at bE
 rw [←SX] at bE
 subst r0
 cbv
 refine ai (fun h1=>?_) (fun h1=>?_)
 ·simp [ht] at h1
  cbv
  refine an trivial trivial rfl rfl rfl ?_
  (simp_all;done)
 simp [ht] at h1
 cbv
 refine bJ [false,false,false,false,false,true,true,true] (by kernel_rfl) (by kernel_rfl) ?_
 cbv
 iterate 2 refine gI (by simp) ?_
 refine .inl ?_
 refine aM (fun g2=>⟨trivial,trivial,dP ht _ (by omega)⟩) rfl rfl (fun r3 gH=>?_)
 simp only [ht] at gH
 have acp:(r3).length=(ej p.length).length+p.length:=by rw [gH,bH,List.length_append]
 cbv
 iterate 2 refine gI (by simp) ?_
 refine ay trivial (tg ht _ _ _ _ (by assumption)) trivial rfl rfl (fun r4 dO=>?_)
 simp only [ht] at dO
 have ZM:(r4).length≤40:=by rw [dO];exact BI _
 cbv
 refine ⟨?_,?_⟩
 ·(simp only [ht];grind)
 cbv
 obtain ⟨J5,RP⟩:∃J5:Nat→List UInt8×Int→Prop,∀m o i,J5 m (o,i)↔(∃k:Nat,i=k∧k+m=3∧ap=o++((nl.drop k).map ej).flatten++BD sl):=⟨fun m v=>match v with|(o,i)=>(∃k:Nat,i=k∧k+m=3∧ap=o++((nl.drop k).map ej).flatten++BD sl),fun _ _ _=>Iff.rfl⟩
 refine aZ ⟨[1,3,22,23,24],[],[]⟩ (σ:=List UInt8×Int) (fun v=>[(3,.d (.str (t _ fun _=>v.1))),(24,.d (.int .i64 (t _ fun _=>v.2)))]) (fun v=>[]) J5 ?_
 cbv
 refine aA ⟨3,(_,_),(RP _ _ _).2 ?_,by simp only [ht];rfl,?_⟩
 ·(refine ⟨0,rfl,rfl,?_⟩;rw [(XU (by assumption)).1,gH,dO];simp)
 rintro m ⟨o,i⟩ hj
 replace hj:=(RP _ _ _).1 hj
 obtain ⟨k,rfl,j1,j4⟩:=hj
 cbv
 refine ai (fun h6=>?_) (fun h6=>?_)
 ·simp [ht,aa] at h6
  cbv
  (simp only [aa] at h6;refine dg ht (l:=nl) (cells:=Sj) (cT:=Sj) (by rw [GU];rfl) (by simp only [ht,aa];omega) (by simp only [ht,aa,aco];omega) (fun _=>rfl) (fun _=>rfl) (fun xn RX=>?_);simp only [ht] at RX;replace RX:nl[k]?=some xn:=RX;rw [kG RX] at j4;have oe:=congrArg List.length j4;simp at oe;obtain ⟨z1,z2⟩:=(XU (by assumption)).2 xn (List.mem_of_getElem? RX);have hzw:IntKind.u64.wrap xn=xn:=(by rw [bG];omega))
  cbv
  refine ay trivial (cK ht _ (by (simp only [ht];omega))) trivial rfl rfl (fun r7 gL=>?_)
  simp only [ht] at gL
  have RQ:=congrArg List.length gL
  (try rw [hzw] at gL)
  cbv
  refine ⟨?_,?_⟩
  ·(simp only [ht];grind)
  cbv
  refine bf (_,_) (by simp only [ht];rfl) (m-1) ?_ ((RP _ _ _).2 ?_)
  ·((try simp only [aa] at*);omega)
  simp only [aa]
  exact ⟨k+1,aC (by omega),by ((try simp only [aa] at*);omega),by rw [j4];simp [*]⟩
 simp [ht,aa] at h6
 cbv
 refine ay trivial (UI ht (by assumption) (by assumption) (by assumption) (by omega)) trivial rfl rfl (fun r8 qy=>?_)
 simp only [ht] at qy
 have ZO:=congrArg List.length qy
 cbv
 refine ⟨?_,?_⟩
 ·(simp only [ht];grind)
 cbv
 refine an trivial trivial rfl rfl rfl ?_
 (simp only [ht];grind)
theorem U5 (ht:TT t) {l:List aR} {es:List (List D)} (aF:es=l.map aR.cells) (hl:l.length<1000000000) (hu:∀x∈l,x.dc.u∧x.used.u) (hn:(Ih l).length<9223372036854775000):
 FC 74 [SL es] [] (.ret (tG (t _ fun _=>Ih l))) []:=by
 have C7:IntKind.u64.wrap (es.length:Int)=l.length:=by rw [bG,aF,lgM];omega
 refine bC ht (aE:=[]) Tryz.func74 (c:=_) rfl rfl (N:=31) rfl (rs:=_) rfl (n:=0) rfl rfl ?_
 cbv
 have ar:es.length=l.length:=by rw [aF,lgM]
 refine ay trivial (cK ht _ (by (simp only [ht];((try simp only [aa] at*);omega)))) trivial rfl rfl (fun r0 bE=>?_)
 simp only [ht] at bE
 (try rw [C7] at bE)
 have Xs:=congrArg List.length bE
 cbv
 obtain ⟨J1,fe⟩:∃J1:Nat→List UInt8×Int→Prop,∀n o i,J1 n (o,i)↔(∃k:Nat,i=k∧k+n=l.length∧Ih l=o++((l.drop k).map MJ).flatten):=⟨fun n v=>match v with|(o,i)=>(∃k:Nat,i=k∧k+n=l.length∧Ih l=o++((l.drop k).map MJ).flatten),fun _ _ _=>Iff.rfl⟩
 refine aZ ⟨[3,10,11,12],[],[]⟩ (σ:=List UInt8×Int) (fun v=>[(3,.d (.str (t _ fun _=>v.1))),(12,.d (.int .i64 (t _ fun _=>v.2)))]) (fun v=>[]) J1 ?_
 cbv
 refine aA ⟨l.length,(_,_),(fe _ _ _).2 ?_,by simp only [ht];rfl,?_⟩
 ·exact ⟨0,rfl,by simp,by simp [Ih, *]⟩
 rintro n ⟨o,i⟩ hj
 replace hj:=(fe _ _ _).1 hj
 obtain ⟨k,rfl,j1,j4⟩:=hj
 cbv
 refine ai (fun h2=>?_) (fun h2=>?_)
 ·simp [ht,aa,ar] at h2
  cbv
  refine dg ht aF (cT:=aR.aH t) (by (simp only [ht,aa];omega)) (by (simp only [ht,aa];omega)) (fun _=>rfl) (fun _=>rfl) (fun x3 ke=>?_)
  simp [ht,aa] at ke
  rw [kG ke,MJ] at j4
  have oe:=congrArg List.length j4
  simp only [List.length_append,bH] at oe
  obtain ⟨Pu,hu2⟩:=hu _ (List.mem_of_getElem? ke)
  clear ke
  obtain ⟨pp,⟨q1,q2,q3,q4⟩,⟨q5,q6,q7,q8⟩⟩:=x3
  simp only at oe
  cbv
  refine bJ [false,false,false,false,false,false,false,false,false,false,false,false,true,true] (by kernel_rfl) (by kernel_rfl) ?_
  cbv
  iterate 3 refine gI (by simp) ?_
  refine .inl ?_
  refine aM (fun g4=>⟨trivial,trivial,dP ht _ (by omega)⟩) rfl rfl (fun r5 jA=>?_)
  simp only [ht] at jA
  have Z6:=congrArg List.length jA
  simp only [bH,List.length_append] at Z6
  cbv
  iterate 2 refine gI (by simp) ?_
  refine .inl ?_
  refine aM (fun g6=>⟨trivial,trivial,tg ht _ _ _ _ (by assumption)⟩) rfl rfl (fun r7 gL=>?_)
  simp only [ht] at gL
  have RQ:=congrArg List.length gL
  cbv
  refine gI (by simp [ht];omega) ?_
  iterate 2 refine gI (by simp) ?_
  refine .inl ?_
  refine aM (fun g8=>⟨trivial,trivial,tg ht _ _ _ _ (by assumption)⟩) rfl rfl (fun r9 dN=>?_)
  simp only [ht] at dN
  have Xx:=congrArg List.length dN
  cbv
  refine gI (by simp [ht];omega) ?_
  refine ⟨?_,?_⟩
  ·(simp [ht];omega)
  cbv
  refine bf (_,_) (by simp only [ht];rfl) (n-1) ?_ ((fe _ _ _).2 ?_)
  ·omega
  simp only [aa]
  exact ⟨k+1,aC (by omega),by omega,by rw [j4];simp [*]⟩
 simp [ht,aa,ar] at h2
 cbv
 refine an trivial trivial rfl rfl rfl ?_
 (rw [List.drop_eq_nil_of_le (by omega)] at j4;simp [*];done)
def F3 (s:cH):aD:=ej s.round++ej s.next++C3 s.aW++Ih s.tree++ej s.aI.length++(s.aI.map IC).flatten
theorem Jm (s:cH):m0 s=F3 s++jk s.ev++jk s.au:=rfl
theorem Sk (ht:TT t) (rd nx ef af:Int) {nl:List Node} {pl:List Place} {tl:List aR} {jl:List Jb} {ql:List bX} {el al:List bU} {ns ps ts js qs es cY:List (List D)} (gX:ns=nl.map Node.cells) (hps:ps=pl.map Place.cells) (hts:ts=tl.map aR.cells) (gi:js=jl.map Jb.cells) (fq:qs=ql.map bX.cells) (aF:es=el.map bU.cells) (has:cY=al.map bU.cells) (hrd:rd<18446744073709551616) (Xm:nx<18446744073709551616) (GU:nl.length<1000000000) (nQ:pl.length<1000000000) (afh:∀x∈nl,x.sm) (hnu:∀x∈nl,x.cap.u) (hpu:∀x∈pl,x.v.u∧x.bu<18446744073709551616)
 (htl:tl.length<1000000000) (htu:∀x∈tl,x.dc.u∧x.used.u) (hjl:jl.length<1000000) (hju:∀x∈jl,x.x.sm∧x.id<18446744073709551616) (hef:ef<18446744073709551616) (hel:el.length<1000000000) (heu:∀x∈el,x.round<18446744073709551616∧x.id<18446744073709551616)
 (haf:af<18446744073709551616) (hal:al.length<1000000000) (hau:∀x∈al,x.round<18446744073709551616∧x.id<18446744073709551616) (hn:(m0 ⟨rd,nx,⟨nl,pl⟩,tl,jl,ql,⟨ef,el⟩,⟨af,al⟩⟩).length<9223372036854775000):
 FC 24 [.agg [az rd,az nx,SL ns,SL ps,SL ts,SL js,SL qs,az ef,SL es,az af,SL cY]] [] (.ret (tG (t _ fun _=>m0 ⟨rd,nx,⟨nl,pl⟩,tl,jl,ql,⟨ef,el⟩,⟨af,al⟩⟩))) []:=by
 have C7:IntKind.u64.wrap (js.length:Int)=jl.length:=by rw [bG,gi,lgM];omega
 obtain ⟨z,hz⟩:∃z,z=F3 ⟨rd,nx,⟨nl,pl⟩,tl,jl,ql,⟨ef,el⟩,⟨af,al⟩⟩:=⟨_,rfl⟩
 have CR:=hn
 rw [Jm,←hz] at CR
 simp only [List.length_append] at CR
 have hz1:=congrArg List.length hz
 simp only [F3,List.length_append] at hz1
 have hn2:(C3 ⟨nl,pl⟩).length<9223372036854775000:=by omega
 have hn3:(Ih tl).length<9223372036854775000:=by omega
 have hn4:(jk ⟨ef,el⟩).length<9223372036854775000:=by omega
 have hn5:(jk ⟨af,al⟩).length<9223372036854775000:=by omega
 refine bC ht (aE:=[]) Tryz.func24 (c:=_) rfl rfl (N:=58) rfl (rs:=_) rfl (n:=0) rfl rfl ?_
 cbv
 have fj:ns.length=nl.length:=by rw [gX,lgM]
 have fE:ps.length=pl.length:=by rw [hps,lgM]
 have fZ:ts.length=tl.length:=by rw [hts,lgM]
 have dy:js.length=jl.length:=by rw [gi,lgM]
 have dM:qs.length=ql.length:=by rw [fq,lgM]
 have ar:es.length=el.length:=by rw [aF,lgM]
 have dU:cY.length=al.length:=by rw [has,lgM]
 refine bJ [false,false,false,false,false,false,false,false,false,false,false,false,false,false,false,false,false,false,false,false,true,true] (by kernel_rfl) (by kernel_rfl) ?_
 cbv
 iterate 2 refine gI (by simp) ?_
 refine .inl ?_
 refine aM (fun g0=>⟨trivial,trivial,cK ht _ (by assumption)⟩) rfl rfl (fun r1 cX=>?_)
 simp only [ht] at cX
 (try rw [C7] at cX)
 have Xy:=congrArg List.length cX
 cbv
 iterate 2 refine gI (by simp) ?_
 refine .inl ?_
 refine aM (fun g2=>⟨trivial,trivial,cK ht _ (by assumption)⟩) rfl rfl (fun r3 gH=>?_)
 simp only [ht] at gH
 (try rw [C7] at gH)
 have acp:=congrArg List.length gH
 cbv
 refine gI (by simp [ht];omega) ?_
 iterate 2 refine gI (by simp) ?_
 refine .inl ?_
 refine aM (fun g4=>⟨trivial,trivial,UG ht (by assumption) (by assumption) (by assumption) (by assumption) (by assumption) (by assumption) (by assumption) (by assumption)⟩) rfl rfl (fun r5 jA=>?_)
 simp only [ht] at jA
 have Z6:=congrArg List.length jA
 cbv
 refine gI (by simp [ht];omega) ?_
 iterate 2 refine gI (by simp) ?_
 refine .inl ?_
 refine aM (fun g6=>⟨trivial,trivial,U5 ht (by assumption) (by assumption) (by assumption) (by assumption)⟩) rfl rfl (fun r7 gL=>?_)
 simp only [ht] at gL
 have RQ:=congrArg List.length gL
 cbv
 refine gI (by simp [ht];omega) ?_
 iterate 4 refine gI (by simp) ?_
 refine .inl ?_
 refine aM (fun g8=>⟨trivial,trivial,cK ht _ (by (simp only [ht];((try simp only [aa] at*);omega)))⟩) rfl rfl (fun r9 dN=>?_)
 simp only [ht] at dN
 (try rw [C7] at dN)
 have Xx:=congrArg List.length dN
 cbv
 refine ⟨?_,?_⟩
 ·(simp [ht];omega)
 cbv
 obtain ⟨J10,XW⟩:∃J10:Nat→List UInt8×Int→Prop,∀n o i,J10 n (o,i)↔(∃k:Nat,i=k∧k+n=jl.length∧z=o++((jl.drop k).map IC).flatten):=⟨fun n v=>match v with|(o,i)=>(∃k:Nat,i=k∧k+n=jl.length∧z=o++((jl.drop k).map IC).flatten),fun _ _ _=>Iff.rfl⟩
 refine aZ ⟨[1,3,28,29,30],[],[]⟩ (σ:=List UInt8×Int) (fun v=>[(3,.d (.str (t _ fun _=>v.1))),(30,.d (.int .i64 (t _ fun _=>v.2)))]) (fun v=>[]) J10 ?_
 cbv
 refine aA ⟨jl.length,(_,_),(XW _ _ _).2 ?_,by simp only [ht];rfl,?_⟩
 ·exact ⟨0,rfl,by simp,by rw [hz];simp [F3, *]⟩
 rintro n ⟨o,i⟩ hj
 replace hj:=(XW _ _ _).1 hj
 obtain ⟨k,rfl,j1,j4⟩:=hj
 cbv
 refine ai (fun h11=>?_) (fun h11=>?_)
 ·simp [ht,aa,dy] at h11
  cbv
  refine dg ht gi (cT:=Jb.aH t) (by (simp only [ht,aa];omega)) (by (simp only [ht,aa];omega)) (fun _=>rfl) (fun _=>(by (simp only [ht,Jb.aH];rfl))) (fun x12 U6=>?_)
  simp [ht,aa] at U6
  rw [kG U6,IC] at j4
  have oe:=congrArg List.length j4
  simp only [List.length_append,u64,←bG] at oe
  obtain ⟨Pu,hu2⟩:=hju _ (List.mem_of_getElem? U6)
  clear U6
  obtain ⟨ji,⟨jq,⟨ja,jb,jc,jd⟩,jn,jp,jt,jB⟩,jr,jf⟩:=x12
  simp only at oe
  cbv
  refine bJ [false,false,false,false,false,false,false,false,false,false,false,false,false,true,true] (by kernel_rfl) (by kernel_rfl) ?_
  cbv
  iterate 3 refine gI (by simp) ?_
  refine .inl ?_
  refine aM (fun g13=>⟨trivial,trivial,cK ht _ (by assumption)⟩) rfl rfl (fun r14 wK=>?_)
  simp only [ht] at wK
  (try rw [C7] at wK)
  have ZP:=congrArg List.length wK
  cbv
  iterate 2 refine gI (by simp) ?_
  refine .inl ?_
  refine aM (fun g15=>⟨trivial,trivial,U4 ht _ _ _ _ _ _ _ _ (jH ht rfl) (by assumption) (by ((try simp only [aa] at*);omega))⟩) rfl rfl (fun r16 FO=>?_)
  simp only [ht] at FO
  have ZQ:=congrArg List.length FO
  cbv
  refine gI (by simp [ht];omega) ?_
  iterate 3 refine gI (by simp) ?_
  refine .inl ?_
  refine aM (fun g17=>⟨trivial,trivial,cK ht _ (by (simp only [ht,bG];omega))⟩) rfl rfl (fun r18 Oa=>?_)
  simp only [ht] at Oa
  (try rw [C7] at Oa)
  have adS:=congrArg List.length Oa
  cbv
  refine gI (by simp [ht];omega) ?_
  refine ⟨?_,?_⟩
  ·(simp [ht];omega)
  cbv
  refine bf (_,_) (by simp only [ht];rfl) (n-1) ?_ ((XW _ _ _).2 ?_)
  ·omega
  simp only [aa]
  exact ⟨k+1,aC (by omega),by omega,by rw [j4];simp only [u64,←bG];simp [*]⟩
 simp [ht,aa,dy] at h11
 cbv
 refine bJ [false,false,false,false,false,false,false,false,true,true] (by kernel_rfl) (by kernel_rfl) ?_
 cbv
 iterate 3 refine gI (by simp) ?_
 refine .inl ?_
 refine aM (fun g19=>⟨trivial,trivial,Ct ht _ (by assumption) (by assumption) (by assumption) (by assumption) (by assumption)⟩) rfl rfl (fun r20 Ob=>?_)
 simp only [ht] at Ob
 have adT:=congrArg List.length Ob
 cbv
 refine gI (by simp [ht];grind) ?_
 iterate 2 refine gI (by simp) ?_
 refine .inl ?_
 refine aM (fun g21=>⟨trivial,trivial,Ct ht _ (by assumption) (by assumption) (by assumption) (by assumption) (by assumption)⟩) rfl rfl (fun r22 Z7=>?_)
 simp only [ht] at Z7
 have adU:=congrArg List.length Z7
 cbv
 refine ⟨?_,?_⟩
 ·(simp only [ht];grind)
 cbv
 refine an trivial trivial rfl rfl rfl ?_
 (rw [List.drop_eq_nil_of_le (by omega),List.map_nil,List.flatten_nil,List.append_nil] at j4;simp only [ht,Jm,←hz,j4];simp [*];done)
end Dem
end
section
open Go
namespace Dem
deriving instance DecidableEq for cO
deriving instance DecidableEq for cH
deriving instance DecidableEq for bB
deriving instance DecidableEq for z8
def xA:Ask:=⟨[97],⟨2,0,0,0⟩,2,0,3,[]⟩
def xN:List Node:=[⟨[110,49],⟨4,9,9,9⟩,[⟨[122,111,110,101],[97]⟩],true⟩,⟨[110,50],⟨6,9,9,9⟩,[⟨[122,111,110,101],[98]⟩],true⟩,⟨[110,51],⟨8,9,9,9⟩,[],true⟩]
def xT:List aR:=[⟨[],⟨30,30,30,30⟩,⟨0,0,0,0⟩⟩,⟨[97],⟨6,20,20,20⟩,⟨0,0,0,0⟩⟩,⟨[97,47,98],⟨10,20,20,20⟩,⟨0,0,0,0⟩⟩,⟨[98],⟨14,20,20,20⟩,⟨0,0,0,0⟩⟩]
def xU:List aR:=[⟨[],⟨30,30,30,30⟩,⟨4,0,0,0⟩⟩,⟨[97],⟨6,20,20,20⟩,⟨4,0,0,0⟩⟩,⟨[97,47,98],⟨10,20,20,20⟩,⟨0,0,0,0⟩⟩,⟨[98],⟨14,20,20,20⟩,⟨0,0,0,0⟩⟩]
def xP:List Place:=[⟨1,[110,49],⟨2,0,0,0⟩⟩,⟨1,[110,49],⟨2,0,0,0⟩⟩]
def xJ:List Jb:=[⟨1,xA,false,0⟩]
def xR:List Jb:=[⟨1,xA,true,3⟩]
def xQ:List bX:=[⟨1,0⟩]
def Z8:List bU:=[⟨0,1,1⟩]
def V5:List bU:=[⟨0,1,1⟩,⟨0,1,2⟩]
def xE3:List bU:=[⟨0,1,1⟩,⟨0,1,2⟩,⟨0,1,5⟩]
def xE4:List bU:=[⟨0,1,1⟩,⟨0,1,2⟩,⟨0,1,3⟩]
def xW:List aR:=[⟨[],bz.zero,bz.zero⟩]
theorem xf0:kU 0=⟨0,1,⟨xN,[]⟩,xT,[],[],⟨0,[]⟩,⟨0,[]⟩⟩:=by decide+kernel
theorem xfn:T7=⟨0,1,⟨[],[]⟩,xW,[],[],⟨0,[]⟩,⟨0,[]⟩⟩:=by decide+kernel
theorem xf1:eA ⟨0,1,⟨[],[]⟩,xW,[],[],⟨0,[]⟩,⟨0,[]⟩⟩ ⟨[97],⟨2,0,0,0⟩,2,0,3,[]⟩=(⟨0,1,⟨[],[]⟩,xW,[],[],⟨0,[]⟩,⟨0,[]⟩⟩,0,7):=by decide+kernel
theorem xf2:eA ⟨0,1,⟨xN,[]⟩,xT,[],[],⟨0,[]⟩,⟨0,[]⟩⟩ ⟨[97],⟨2,0,0,0⟩,2,0,3,[]⟩=(⟨0,2,⟨xN,[]⟩,xT,xJ,xQ,⟨0,Z8⟩,⟨0,[]⟩⟩,1,0):=by decide+kernel
theorem xf3:cw ⟨0,2,⟨xN,[]⟩,xT,xJ,xQ,⟨0,Z8⟩,⟨0,[]⟩⟩ 1 [[110,49],[110,49]]=(⟨0,2,⟨xN,xP⟩,xU,xR,[],⟨0,V5⟩,⟨0,[]⟩⟩,0):=by decide+kernel
theorem xf4:cw ⟨0,2,⟨xN,xP⟩,xU,xR,[],⟨0,V5⟩,⟨0,[]⟩⟩ 1 []=(⟨0,2,⟨xN,xP⟩,xU,xR,[],⟨0,V5⟩,⟨0,[]⟩⟩,15):=by decide+kernel
theorem xf5:cw ⟨0,2,⟨xN,[]⟩,xT,xJ,xQ,⟨0,Z8⟩,⟨0,[]⟩⟩ 9 []=(⟨0,2,⟨xN,[]⟩,xT,xJ,xQ,⟨0,Z8⟩,⟨0,[]⟩⟩,7):=by decide+kernel
theorem xf6:jJ ⟨0,2,⟨xN,xP⟩,xU,xR,[],⟨0,V5⟩,⟨0,[]⟩⟩ 1 5=(⟨0,2,⟨xN,[]⟩,xT,xJ,xQ,⟨0,xE3⟩,⟨0,[]⟩⟩,0):=by decide+kernel
theorem xf7:send ⟨0,2,⟨xN,xP⟩,xU,xR,[],⟨0,V5⟩,⟨0,[]⟩⟩ 1 3=(⟨0,2,⟨xN,[]⟩,xT,[],[],⟨0,xE4⟩,⟨0,[]⟩⟩,0):=by decide+kernel
theorem xf8:lA xU []=(⟨[],⟨30,30,30,30⟩,⟨4,0,0,0⟩⟩,true):=by decide+kernel
theorem xf9:eH xR 1=(⟨1,xA,true,3⟩,true):=by decide+kernel
theorem acs:tU ⟨0,xE4⟩ 1=([⟨0,1,2⟩,⟨0,1,3⟩],3):=by decide+kernel
def xB:cH:=⟨0,2,⟨xN,xP⟩,xU,xR,[],⟨0,V5⟩,⟨0,[]⟩⟩
theorem xg1:bD (m0 xB) 0=⟨0,1,true⟩:=by decide+kernel
theorem xg2:bD (m0 xB) 1=⟨2,2,true⟩:=by decide+kernel
theorem xg3:Ib (m0 xB) 2=⟨⟨xN,xP⟩,61,true⟩:=by decide+kernel
theorem xg4:BJ (m0 xB) 61=⟨xU,103,true⟩:=by decide+kernel
theorem xg5:bD (m0 xB) 103=⟨1,104,true⟩:=by decide+kernel
theorem xg6:kB (m0 xB) (1:Int).toNat [] 104=some (xR,116):=by decide+kernel
theorem xg7:lm (m0 xB) 116=some (⟨0,V5⟩,124):=by decide+kernel
theorem xg8:lm (m0 xB) 124=some (⟨0,[]⟩,126):=by decide+kernel
theorem xgl:(m0 xB).length=126:=by decide+kernel
theorem xr1:gq xB=true:=by decide+kernel
theorem xr2:gq ⟨0,0,⟨[],[]⟩,[],[],[],⟨0,[]⟩,⟨0,[]⟩⟩=false:=by decide+kernel
theorem xs1:wz xB xB=true:=by decide+kernel
theorem XX:xA.sm:=⟨by decide,by decide,by decide,by intro m hm;cases hm⟩
theorem Z9:∀x∈xN,x.sm:=by
 intro x hx;simp only [xN,List.mem_cons,List.not_mem_nil,or_false] at hx
 rcases hx with rfl|rfl|rfl<;>refine ⟨by decide,by decide,?_⟩<;>intro p hp<;>simp only [List.mem_cons,List.not_mem_nil,or_false] at hp<;>first|(subst hp;exact ⟨by decide,by decide⟩)|cases hp
theorem xNl:∀x∈xN,x.labels.length<1000000000:=by decide+kernel
theorem xNu:∀x∈xN,x.cap.u:=by
 intro x hx;simp only [xN,List.mem_cons,List.not_mem_nil,or_false] at hx
 rcases hx with rfl|rfl|rfl<;>exact ⟨by decide,by decide,by decide,by decide⟩
theorem xPu:∀x∈xP,x.v.u∧x.bu<18446744073709551616:=by
 intro x hx;simp only [xP,List.mem_cons,List.not_mem_nil,or_false] at hx
 rcases hx with rfl|rfl<;>exact ⟨⟨by decide,by decide,by decide,by decide⟩,by decide⟩
theorem xUu:∀x∈xU,x.dc.u∧x.used.u:=by
 intro x hx;simp only [xU,List.mem_cons,List.not_mem_nil,or_false] at hx
 rcases hx with rfl|rfl|rfl|rfl<;>exact ⟨⟨by decide,by decide,by decide,by decide⟩,by decide,by decide,by decide,by decide⟩
theorem xUp:∀x∈xU,x.path.length<1000000000000:=by decide+kernel
theorem XY:∀x∈xR,x.x.sm:=by intro x hx;rw [List.mem_singleton.1 hx];exact XX
theorem xJw:∀x∈xJ,x.x.fQ.u'∧x.x.path.length<1000000000000:=by decide+kernel
theorem xRw:∀x∈xR,x.x.fQ.u'∧x.x.path.length<1000000000000:=by decide+kernel
theorem acu:xB.sm:=⟨⟨by decide,Z9⟩,by decide,⟨by decide,xUp⟩,⟨by decide,fun x hx=>⟨XY x hx,by rw [List.mem_singleton.1 hx];decide,by rw [List.mem_singleton.1 hx];decide⟩⟩,by decide,by decide,by decide⟩
theorem acv:(⟨0,0,⟨[],[]⟩,[],[],[],⟨0,[]⟩,⟨0,[]⟩⟩:cH).sm:=⟨⟨by decide,by intro x hx;cases hx⟩,by decide,⟨by decide,by intro x hx;cases hx⟩,⟨by decide,by intro x hx;cases hx⟩,by decide,by decide,by decide⟩
end Dem
end
section
open Go Dem Go.Proofs
namespace Dem
variable {t:Th}
theorem Yp (a:Nat):(a:Int).tmod 5=((a%5:Nat):Int):=by rw [Int.tmod_eq_emod_of_nonneg (by omega)];rfl
theorem O2:∀c<8,∀i<4,(eS (c*32) i).nodes.length≤4:=by decide+kernel
theorem Cu {N i:Nat} (hN:N<256) (hi:i<4):(eS N i).nodes.length<1000000000:=by
 rw [IT]
 have:=O2 (N / 32) (by omega) i hi
 omega
theorem LI:∀k,∀p∈Ch k,p.sm:=by
 intro k p hp
 unfold Ch at hp
 split at hp
 ·rw [List.mem_singleton.1 hp]
  rename_i h
  have:k=0∨k=1:=by omega
  rcases this with rfl|rfl<;>exact ⟨by decide,by decide⟩
 cases hp
theorem So:∀k<3,∀N<256,(((N:Nat):Int).fdiv (2^min (IntKind.i64.wrap (5+((k:Nat):Int))).toNat IntKind.u8.bits)).tmod 2=0↔Ux N k=true:=by decide+kernel
theorem yx {a z:Int} {N k:Nat} (hN:N<256) (ea:a=N) (h:(a.fdiv (2^min (IntKind.i64.wrap z).toNat IntKind.u8.bits)).tmod 2=0) (hk:k<3) (hz:z=5+((k:Nat):Int)):Ux N k=true:=by
 subst ea hz;exact (So k hk N hN).1 h
theorem Eo {a z:Int} {N k:Nat} (hN:N<256) (ea:a=N) (h:¬(a.fdiv (2^min (IntKind.i64.wrap z).toNat IntKind.u8.bits)).tmod 2=0) (hk:k<3) (hz:z=5+((k:Nat):Int)):¬Ux N k=true:=by
 subst ea hz;exact fun g=>h ((So k hk N hN).2 g)
theorem oS {N k:Nat} {nm:aD} {w:Int} {r:cO×Int} (h:r=rO ⟨(eS N k).nodes,(eS N k).places⟩ ⟨nm,⟨w,9,9,9⟩,Ch k,false⟩) (hnm:nm=kw.getD k []) (hw:w=((4+2*k:Nat):Int)) (hu:Ux N k=true):eS N (k+1)=r.1:=by
 subst hw hnm h;rw [eS,if_pos hu]
theorem tw {N k:Nat} (hu:¬Ux N k=true):eS N (k+1)=eS N k:=by rw [eS,if_neg hu]
theorem Cv:∀k<3,∀m<5,IntKind.u64.wrap (IntKind.i64.wrap (IntKind.i64.wrap (6+IntKind.i64.wrap (4*((k:Nat):Int)))+IntKind.i64.wrap ((m:Nat):Int)))=((6+4*k+m:Nat):Int):=by decide+kernel
theorem yy {m k:Nat} {p:aD} {w:Int} {r:List aR×Int} (h:r=we (rX m k) p ⟨w,20,20,20⟩) (hp:p=VY.getD k []) (hw:w=((6+4*k+m:Nat):Int)):r.1=rX m (k+1):=by subst hw hp h;rfl
theorem uQ (ht:TT t) (N:Nat) (hN:N<256) {a:Int} (ea:a=N):FC 12 [.d (.int .u8 a)] [] (.ret (yq t (t _ fun _=>kU N))) []:=by
 have hm:N%5<5:=Nat.mod_lt _ (by decide)
 have hl0:=RA (N%5) hm
 refine bC ht (aE:=[]) Tryz.func12 (c:=_) rfl rfl (N:=81) rfl (rs:=_) rfl (n:=0) rfl rfl ?_
 cbv
 refine aS trivial (M8 ht) trivial rfl rfl rfl (fun r0 bE=>?_)
 simp only [ht] at bE
 cbv
 ((refine aS trivial (Ac ht _ _ _ _ _ (l:=[⟨[],bz.zero,bz.zero⟩]) (by simp only [ht,bE];rfl) (by decide) (by decide) (by decide)) (by simp) rfl rfl rfl (fun r1 cX=>?_)))
 cbv
 obtain ⟨J1,fe⟩:∃J1:Nat→Int×List (List D)→Prop,∀m i tr,J1 m (i,tr)↔((i=0∧m=3∧tr=(rX (N%5) 0).map aR.cells)∨(i=1∧m=2∧tr=(rX (N%5) 1).map aR.cells)∨(i=2∧m=1∧tr=(rX (N%5) 2).map aR.cells)∨(i=3∧m=0∧tr=(rX (N%5) 3).map aR.cells)):=⟨fun m v=>match v with|(i,tr)=>((i=0∧m=3∧tr=(rX (N%5) 0).map aR.cells)∨(i=1∧m=2∧tr=(rX (N%5) 1).map aR.cells)∨(i=2∧m=1∧tr=(rX (N%5) 2).map aR.cells)∨(i=3∧m=0∧tr=(rX (N%5) 3).map aR.cells)),fun _ _ _=>Iff.rfl⟩
 refine aZ ⟨[0,2,3,18,19,20],[],[]⟩ (σ:=Int×List (List D)) (fun v=>[(20,.d (.int .i64 (t _ fun _=>v.1)))]) (fun v=>[(1,.var [AV.d (D.int IntKind.u64 r0.1),AV.d (D.int IntKind.u64 r0.2),AV.d (D.sl (t (List (List D)) fun x=>List.map (fun x=>[D.str (Node.name x),D.int IntKind.u64 (bz.a (Node.cap x)),D.int IntKind.u64 (bz.b (Node.cap x)),D.int IntKind.u64 (bz.c (Node.cap x)),D.int IntKind.u64 (bz.d (Node.cap x)),D.sl (List.map (fun p=>[D.str (bT.key p),D.str (bT.value p)]) (Node.labels x)),D.bool (Node.up x)]) (cO.nodes (cH.aW r0)))),AV.d (D.sl (t (List (List D)) fun x=>List.map (fun x=>[D.int IntKind.u64 (Place.bu x),D.str (Place.node x),D.int IntKind.u64 (bz.a (Place.v x)),D.int IntKind.u64 (bz.b (Place.v x)),D.int IntKind.u64 (bz.c (Place.v x)),D.int IntKind.u64 (bz.d (Place.v x))]) (cO.places (cH.aW r0)))),.d (.sl (t _ fun _=>v.2)),AV.d (D.sl (t (List (List D)) fun x=>List.map Jb.cells (cH.aI r0))),AV.d (D.sl (t (List (List D)) fun x=>List.map bX.cells (cH.queue r0))),AV.d (D.int IntKind.u64 r0.7.1),AV.d (D.sl (t (List (List D)) fun x=>List.map bU.cells (qG.l (cH.ev r0)))),AV.d (D.int IntKind.u64 r0.8.1),AV.d (D.sl (t (List (List D)) fun x=>List.map bU.cells (qG.l (cH.au r0))))])]) J1 ?_
 cbv
 refine aA ⟨3,(_,_),(fe _ _ _).2 ?_,by simp only [ht];rfl,?_⟩
 ·exact .inl ⟨rfl,rfl,by simp only [ht,cX];rfl⟩
 rintro m ⟨i,tr⟩ hj
 replace hj:=(fe _ _ _).1 hj
 (rcases hj with ⟨rfl,jm,jt⟩|⟨rfl,jm,jt⟩|⟨rfl,jm,jt⟩|⟨rfl,jm,jt⟩)
 ·cbv
  refine ai (fun h2=>?_) (fun h2=>?_)
  ·simp [ht] at h2
   cbv
   ((refine gS [.str [97]] (by simp only [ht];decide) (by simp only [ht];rfl) ?_))
   cbv
   refine ⟨?_,?_⟩
   ·(simp only [ht];decide)
   cbv
   ((refine aS trivial (Ac ht _ _ _ _ _ (l:=rX (N%5) 0) (by simp only [ht];exact jt) (by have:=hl0 0 (by decide);omega) (by decide) (by decide)) (by simp) rfl rfl rfl (fun r2 cP=>?_)))
   cbv
   refine bf (_,_) (by simp only [ht];rfl) (m-1) ?_ ((fe _ _ _).2 ?_)
   ·omega
   exact .inr (.inl ⟨by rw [bZ (by decide) (by decide)];rfl,by omega,congrArg _ (yy (k:=0) (cP.trans (ht _ _)) rfl (by simp only [ht,ea,Yp];exact Cv 0 (by decide) _ hm))⟩)
  simp [ht] at h2
 ·cbv
  refine ai (fun h3=>?_) (fun h3=>?_)
  ·simp [ht] at h3
   cbv
   ((refine gS [.str [97,47,98]] (by simp only [ht];decide) (by simp only [ht];rfl) ?_))
   cbv
   refine ⟨?_,?_⟩
   ·(simp only [ht];decide)
   cbv
   ((refine aS trivial (Ac ht _ _ _ _ _ (l:=rX (N%5) 1) (by simp only [ht];exact jt) (by have:=hl0 1 (by decide);omega) (by decide) (by decide)) (by simp) rfl rfl rfl (fun r2 cP=>?_)))
   cbv
   refine bf (_,_) (by simp only [ht];rfl) (m-1) ?_ ((fe _ _ _).2 ?_)
   ·omega
   exact .inr (.inr (.inl ⟨by rw [bZ (by decide) (by decide)];rfl,by omega,congrArg _ (yy (k:=1) (cP.trans (ht _ _)) rfl (by simp only [ht,ea,Yp];exact Cv 1 (by decide) _ hm))⟩))
  simp [ht] at h3
 ·cbv
  refine ai (fun h4=>?_) (fun h4=>?_)
  ·simp [ht] at h4
   cbv
   ((refine gS [.str [98]] (by simp only [ht];decide) (by simp only [ht];rfl) ?_))
   cbv
   refine ⟨?_,?_⟩
   ·(simp only [ht];decide)
   cbv
   ((refine aS trivial (Ac ht _ _ _ _ _ (l:=rX (N%5) 2) (by simp only [ht];exact jt) (by have:=hl0 2 (by decide);omega) (by decide) (by decide)) (by simp) rfl rfl rfl (fun r2 cP=>?_)))
   cbv
   refine bf (_,_) (by simp only [ht];rfl) (m-1) ?_ ((fe _ _ _).2 ?_)
   ·omega
   exact .inr (.inr (.inr ⟨by rw [bZ (by decide) (by decide)];rfl,by omega,congrArg _ (yy (k:=2) (cP.trans (ht _ _)) rfl (by simp only [ht,ea,Yp];exact Cv 2 (by decide) _ hm))⟩))
  simp [ht] at h4
 cbv
 refine ai (fun h5=>?_) (fun h5=>?_)
 ·simp [ht] at h5
 simp [ht] at h5
 cbv
 obtain ⟨J6,Jl⟩:∃J6:Nat→Int×List (List D)×List (List D)→Prop,∀m i x y,J6 m (i,x,y)↔((i=0∧m=3∧x=(eS N 0).nodes.map Node.cells∧y=(eS N 0).places.map Place.cells)∨(i=1∧m=2∧x=(eS N 1).nodes.map Node.cells∧y=(eS N 1).places.map Place.cells)∨(i=2∧m=1∧x=(eS N 2).nodes.map Node.cells∧y=(eS N 2).places.map Place.cells)∨(i=3∧m=0∧x=(eS N 3).nodes.map Node.cells∧y=(eS N 3).places.map Place.cells)):=⟨fun m v=>match v with|(i,x,y)=>((i=0∧m=3∧x=(eS N 0).nodes.map Node.cells∧y=(eS N 0).places.map Place.cells)∨(i=1∧m=2∧x=(eS N 1).nodes.map Node.cells∧y=(eS N 1).places.map Place.cells)∨(i=2∧m=1∧x=(eS N 2).nodes.map Node.cells∧y=(eS N 2).places.map Place.cells)∨(i=3∧m=0∧x=(eS N 3).nodes.map Node.cells∧y=(eS N 3).places.map Place.cells)),fun _ _ _ _=>Iff.rfl⟩
 refine aZ ⟨[0,2,3,43,44,45],[],[]⟩ (σ:=Int×List (List D)×List (List D)) (fun v=>[(45,.d (.int .i64 (t _ fun _=>v.1)))]) (fun v=>[(1,.var [AV.d (D.int IntKind.u64 r0.1),AV.d (D.int IntKind.u64 r0.2),.d (.sl (t _ fun _=>v.2.1)),.d (.sl (t _ fun _=>v.2.2)),AV.d (D.sl (t (List (List D)) fun x=>Prod.snd (3,tr))),AV.d (D.sl (t (List (List D)) fun x=>List.map Jb.cells (cH.aI r0))),AV.d (D.sl (t (List (List D)) fun x=>List.map bX.cells (cH.queue r0))),AV.d (D.int IntKind.u64 r0.7.1),AV.d (D.sl (t (List (List D)) fun x=>List.map bU.cells (qG.l (cH.ev r0)))),AV.d (D.int IntKind.u64 r0.8.1),AV.d (D.sl (t (List (List D)) fun x=>List.map bU.cells (qG.l (cH.au r0))))])]) J6 ?_
 cbv
 refine aA ⟨3,(_,_,_),(Jl _ _ _ _).2 ?_,by simp only [ht];rfl,?_⟩
 ·exact .inl ⟨rfl,rfl,by rw [bE];rfl,by rw [bE];rfl⟩
 rintro m ⟨i,x,y⟩ hj
 replace hj:=(Jl _ _ _ _).1 hj
 (rcases hj with ⟨rfl,jm,jx,jy⟩|⟨rfl,jm,jx,jy⟩|⟨rfl,jm,jx,jy⟩|⟨rfl,jm,jx,jy⟩)
 ·cbv
  refine ai (fun h7=>?_) (fun h7=>?_)
  ·simp [ht] at h7
   cbv
   ((refine gS [.str [110,49]] (by simp only [ht];decide) (by simp only [ht];rfl) ?_))
   cbv
   refine ⟨?_,?_⟩
   ·(simp only [ht];decide)
   refine ⟨?_,?_⟩
   ·(simp only [ht];decide)
   cbv
   refine ai (fun h8=>?_) (fun h8=>?_)
   ·simp [ht] at h8
    cbv
    refine ai (fun h9=>?_) (fun h9=>?_)
    ·simp [ht] at h9
     cbv
     ((refine gS [.str [97]] (by simp only [ht];decide) (by simp only [ht];rfl) ?_))
     cbv
     ((refine aS trivial (K1 ht (l:=(eS N 0).nodes) (ps:=(eS N 0).places) (by simp only [ht];exact jx) (by simp only [ht];exact jy) _ _ _ _ _ (lb:=Ch 0) rfl false (Cu hN (by decide)) (by decide) (by decide) (LI _)) (by simp) rfl rfl rfl (fun r4 dO=>?_)))
     cbv
     refine bf (_,_,_) (by simp only [ht];rfl) (m-1) ?_ ((Jl _ _ _ _).2 ?_)
     ·omega
     (refine .inr (.inl ⟨(by rw [bZ (by decide) (by decide)];rfl),by omega,?_,?_⟩);((exact congrArg (fun p:cO=>List.map Node.cells p.nodes) (oS (k:=0) (dO.trans (ht _ _)) rfl (by simp only [ht];decide) (yx hN ea (by assumption) (by decide) (by decide))).symm));((exact congrArg (fun p:cO=>List.map Place.cells p.places) (oS (k:=0) (dO.trans (ht _ _)) rfl (by simp only [ht];decide) (yx hN ea (by assumption) (by decide) (by decide))).symm)))
    simp [ht] at h9
   simp [ht] at h8
   cbv
   refine bf (_,_,_) (by simp only [ht];rfl) (m-1) ?_ ((Jl _ _ _ _).2 ?_)
   ·omega
   (refine .inr (.inl ⟨(by rw [bZ (by decide) (by decide)];rfl),by omega,?_,?_⟩);((exact jx.trans (congrArg (fun p:cO=>List.map Node.cells p.nodes) (tw (N:=N) (k:=0) (Eo hN ea (by assumption) (by decide) (by decide))).symm)));((exact jy.trans (congrArg (fun p:cO=>List.map Place.cells p.places) (tw (N:=N) (k:=0) (Eo hN ea (by assumption) (by decide) (by decide))).symm))))
  simp [ht] at h7
 ·cbv
  refine ai (fun h10=>?_) (fun h10=>?_)
  ·simp [ht] at h10
   cbv
   ((refine gS [.str [110,50]] (by simp only [ht];decide) (by simp only [ht];rfl) ?_))
   cbv
   refine ⟨?_,?_⟩
   ·(simp only [ht];decide)
   refine ⟨?_,?_⟩
   ·(simp only [ht];decide)
   cbv
   refine ai (fun h11=>?_) (fun h11=>?_)
   ·simp [ht] at h11
    cbv
    refine ai (fun h12=>?_) (fun h12=>?_)
    ·simp [ht] at h12
     cbv
     ((refine gS [.str [98]] (by simp only [ht];decide) (by simp only [ht];rfl) ?_))
     cbv
     ((refine aS trivial (K1 ht (l:=(eS N 1).nodes) (ps:=(eS N 1).places) (by simp only [ht];exact jx) (by simp only [ht];exact jy) _ _ _ _ _ (lb:=Ch 1) rfl false (Cu hN (by decide)) (by decide) (by decide) (LI _)) (by simp) rfl rfl rfl (fun r4 dO=>?_)))
     cbv
     refine bf (_,_,_) (by simp only [ht];rfl) (m-1) ?_ ((Jl _ _ _ _).2 ?_)
     ·omega
     (refine .inr (.inr (.inl ⟨(by rw [bZ (by decide) (by decide)];rfl),by omega,?_,?_⟩));((exact congrArg (fun p:cO=>List.map Node.cells p.nodes) (oS (k:=1) (dO.trans (ht _ _)) rfl (by simp only [ht];decide) (yx hN ea (by assumption) (by decide) (by decide))).symm));((exact congrArg (fun p:cO=>List.map Place.cells p.places) (oS (k:=1) (dO.trans (ht _ _)) rfl (by simp only [ht];decide) (yx hN ea (by assumption) (by decide) (by decide))).symm)))
    simp [ht] at h12
   simp [ht] at h11
   cbv
   refine bf (_,_,_) (by simp only [ht];rfl) (m-1) ?_ ((Jl _ _ _ _).2 ?_)
   ·omega
   (refine .inr (.inr (.inl ⟨(by rw [bZ (by decide) (by decide)];rfl),by omega,?_,?_⟩));((exact jx.trans (congrArg (fun p:cO=>List.map Node.cells p.nodes) (tw (N:=N) (k:=1) (Eo hN ea (by assumption) (by decide) (by decide))).symm)));((exact jy.trans (congrArg (fun p:cO=>List.map Place.cells p.places) (tw (N:=N) (k:=1) (Eo hN ea (by assumption) (by decide) (by decide))).symm))))
  simp [ht] at h10
 ·cbv
  refine ai (fun K7=>?_) (fun K7=>?_)
  ·simp [ht] at K7
   cbv
   ((refine gS [.str [110,51]] (by simp only [ht];decide) (by simp only [ht];rfl) ?_))
   cbv
   refine ⟨?_,?_⟩
   ·(simp only [ht];decide)
   refine ⟨?_,?_⟩
   ·(simp only [ht];decide)
   cbv
   refine ai (fun Rq=>?_) (fun Rq=>?_)
   ·simp [ht] at Rq
    cbv
    refine ai (fun h15=>?_) (fun h15=>?_)
    ·simp [ht] at h15
    simp [ht] at h15
    cbv
    ((refine aS trivial (K1 ht (l:=(eS N 2).nodes) (ps:=(eS N 2).places) (by simp only [ht];exact jx) (by simp only [ht];exact jy) _ _ _ _ _ (lb:=Ch 2) rfl false (Cu hN (by decide)) (by decide) (by decide) (LI _)) (by simp) rfl rfl rfl (fun r4 dO=>?_)))
    cbv
    refine bf (_,_,_) (by simp only [ht];rfl) (m-1) ?_ ((Jl _ _ _ _).2 ?_)
    ·omega
    (refine .inr (.inr (.inr ⟨(by rw [bZ (by decide) (by decide)];rfl),by omega,?_,?_⟩));((exact congrArg (fun p:cO=>List.map Node.cells p.nodes) (oS (k:=2) (dO.trans (ht _ _)) rfl (by simp only [ht];decide) (yx hN ea (by assumption) (by decide) (by decide))).symm));((exact congrArg (fun p:cO=>List.map Place.cells p.places) (oS (k:=2) (dO.trans (ht _ _)) rfl (by simp only [ht];decide) (yx hN ea (by assumption) (by decide) (by decide))).symm)))
   simp [ht] at Rq
   cbv
   refine bf (_,_,_) (by simp only [ht];rfl) (m-1) ?_ ((Jl _ _ _ _).2 ?_)
   ·omega
   (refine .inr (.inr (.inr ⟨(by rw [bZ (by decide) (by decide)];rfl),by omega,?_,?_⟩));((exact jx.trans (congrArg (fun p:cO=>List.map Node.cells p.nodes) (tw (N:=N) (k:=2) (Eo hN ea (by assumption) (by decide) (by decide))).symm)));((exact jy.trans (congrArg (fun p:cO=>List.map Place.cells p.places) (tw (N:=N) (k:=2) (Eo hN ea (by assumption) (by decide) (by decide))).symm))))
  simp [ht] at K7
 cbv
 refine ai (fun Xj=>?_) (fun Xj=>?_)
 ·simp [ht] at Xj
 simp [ht] at Xj
 cbv
 refine an trivial trivial rfl rfl rfl ?_
 (simp only [ht,bE,jt,jx,jy];rfl)
theorem Ep (ht:TT t) {es:List (List D)} (hr:∀r∈es,r.length=12):FC 50 [SL es] [] (.ret (.cl es)) []:=by
 refine bC ht (aE:=[]) Tryz.func50 (c:=_) rfl rfl (N:=9) rfl (rs:=_) rfl (n:=0) rfl rfl ?_
 cbv
 refine ⟨?_,QM trivial rfl ?_⟩
 ·simp only [ht,aa,bS];exact ⟨⟨⟨by omega,Int.le_refl _⟩,trivial⟩,hr⟩
 simp [ht,aa,gr]
theorem O3 (ht:TT t) (rd nx ef af:Int) {nl:List Node} {pl:List Place} {tl:List aR} {jl:List Jb} {ql:List bX} {el al:List bU} {ns ps ts js qs es cY:List (List D)} (gX:ns=nl.map Node.cells) (hps:ps=pl.map Place.cells) (hts:ts=tl.map aR.cells) (gi:js=jl.map Jb.cells) (fq:qs=ql.map bX.cells) (aF:es=el.map bU.cells) (has:cY=al.map bU.cells) (ja jb jc jd jn jp jt:Int) (jq:aD) {jB:List Term} {tn:List (List D)} (m8:tn=jB.map Term.cells) (e0:List D) (er:List (List D)) (hj:js=e0::er) (hx:(⟨jq,⟨ja,jb,jc,jd⟩,jn,jp,jt,jB⟩:Ask).sm) (htl:tl.length<100000) (hjl:jl.length<1000000) (V3:ql.length<1000000) (hel:el.length<1000000):
 FC 16 [.agg [az rd,az nx,SL ns,SL ps,SL ts,SL js,SL qs,az ef,SL es,az af,SL cY],.agg [ST jq,az ja,az jb,az jc,az jd,bq jn,bq jp,bq jt,SL tn]] [] (.ret (Sa t (t _ fun _=>eA ⟨rd,nx,⟨nl,pl⟩,tl,jl,ql,⟨ef,el⟩,⟨af,al⟩⟩ ⟨jq,⟨ja,jb,jc,jd⟩,jn,jp,jt,jB⟩))) []:=by
 subst hj
 obtain ⟨ck,SX⟩:∃ck,ck=cR ⟨jq,⟨ja,jb,jc,jd⟩,jn,jp,jt,jB⟩:=⟨_,rfl⟩
 obtain ⟨th,hth⟩:∃th,th=gV tl jq:=⟨_,rfl⟩
 obtain ⟨⟨q9,e9⟩,h9⟩:∃r,r=jI ql ⟨nx,jp⟩:=⟨_,rfl⟩
 have hS:eA ⟨rd,nx,⟨nl,pl⟩,tl,jl,ql,⟨ef,el⟩,⟨af,al⟩⟩ ⟨jq,⟨ja,jb,jc,jd⟩,jn,jp,jt,jB⟩=if ck≠0 then (⟨rd,nx,⟨nl,pl⟩,tl,jl,ql,⟨ef,el⟩,⟨af,al⟩⟩,0,ck) else if !th then (⟨rd,nx,⟨nl,pl⟩,tl,jl,ql,⟨ef,el⟩,⟨af,al⟩⟩,0,7) else if 32≤jl.length∨nx=18446744073709551615 then (⟨rd,nx,⟨nl,pl⟩,tl,jl,ql,⟨ef,el⟩,⟨af,al⟩⟩,0,9) else if e9≠0 then (⟨rd,nx,⟨nl,pl⟩,tl,jl,ql,⟨ef,el⟩,⟨af,al⟩⟩,0,e9) else
  (fO ⟨rd,IntKind.u64.wrap (nx+1),⟨nl,pl⟩,tl,jl++[⟨nx,⟨jq,⟨ja,jb,jc,jd⟩,jn,jp,jt,jB⟩,false,0⟩],q9,⟨ef,el⟩,⟨af,al⟩⟩ nx 1,nx,0):=by
  simp only [eA,←SX,←hth,←h9,u64,←bG]
 rw [hS]
 clear hS
 have hr:∀r∈e0::er,r.length=12:=by rw [gi];intro r hr;obtain ⟨y,_,rfl⟩:=List.mem_map.1 hr;rfl
 have hle:er.length+1=jl.length:=by have:=congrArg List.length gi;simpa using this
 obtain ⟨h1,h2,h3,h4⟩:=id hx
 simp only at h1 h2 h3 h4
 refine bC ht (aE:=[]) Tryz.func16 (c:=_) rfl rfl (N:=68) rfl (rs:=_) rfl (n:=0) rfl rfl ?_
 cbv
 have fj:ns.length=nl.length:=by rw [gX,lgM]
 have fE:ps.length=pl.length:=by rw [hps,lgM]
 have fZ:ts.length=tl.length:=by rw [hts,lgM]
 have dM:qs.length=ql.length:=by rw [fq,lgM]
 have ar:es.length=el.length:=by rw [aF,lgM]
 have dU:cY.length=al.length:=by rw [has,lgM]
 have tq:tn.length=jB.length:=by rw [m8,lgM]
 refine ay trivial (oO ht _ _ _ _ _ _ _ _ (by assumption) (by assumption)) trivial rfl rfl (fun r0 bE=>?_)
 simp only [ht] at bE
 rw [←SX] at bE
 subst r0
 cbv
 refine ai (fun h1=>?_) (fun h1=>?_)
 ·simp [ht] at h1
  cbv
  refine an trivial trivial rfl rfl rfl ?_
  (simp only [ht];grind)
 simp [ht] at h1
 cbv
 refine ay trivial (yp ht _ (by assumption) (by omega) (by assumption)) trivial rfl rfl (fun r2 cP=>?_)
 simp only [ht] at cP
 rw [←hth] at cP
 subst r2
 cbv
 refine ai (fun h3=>?_) (fun h3=>?_)
 ·simp [ht] at h3
  cbv
  refine an trivial trivial rfl rfl rfl ?_
  (simp only [ht];grind)
 simp [ht] at h3
 cbv
 iterate 3 refine gI (by simp [ht]) ?_
 refine pI (by simp [ht]) ?_
 refine ai (fun h4=>?_) (fun h4=>?_)
 ·simp [ht,aa] at h4
  cbv
  refine an trivial trivial rfl rfl rfl ?_
  (simp only [ht];grind)
 simp [ht,aa] at h4
 cbv
 refine aS trivial (Cq ht _ _ (by assumption) (by assumption)) trivial rfl rfl rfl (fun r5 jA=>?_)
 simp only [ht] at jA
 rw [←h9] at jA
 subst r5
 cbv
 refine ai (fun h6=>?_) (fun h6=>?_)
 ·simp [ht] at h6
  cbv
  refine an trivial trivial rfl rfl rfl ?_
  (simp only [ht];grind)
 simp [ht] at h6
 cbv
 refine Qx [0,4,9,10] [false,false,false,false,false,false,false,false,false,false,false,false,true,true,true,true,true] (by kernel_rfl) (by kernel_rfl) (by kernel_rfl) (by kernel_rfl) (by kernel_rfl) ?_
 cbv
 iterate 3 refine gI (by simp) ?_
 refine .inl ?_
 (refine mT (fun g=>⟨trivial,trivial,Ep ht hr⟩) rfl rfl rfl ?_)
 cbv
 iterate 4 refine gI (by simp) ?_
 refine gI (by (simp only [ht];intro _;refine ⟨by simp only [List.length_cons,List.length_nil];omega,?_⟩;intro r h;rcases List.mem_append.1 h with h|h;exact hr r h;simp at h;subst h;rfl)) ?_
 iterate 3 refine gI (by simp) ?_
 (refine aS trivial (oR ht rd _ ef af nx 1 (nl:=nl) (pl:=pl) (tl:=tl) (jl:=jl++[⟨nx,⟨jq,⟨ja,jb,jc,jd⟩,jn,jp,jt,jB⟩,false,0⟩]) (ql:=q9) (el:=el) (al:=al) gX hps hts (by simp only [ht,gi];simp [Jb.cells,m8]) (by simp only [ht]) aF has hel) trivial rfl rfl rfl (fun r9 dN=>?_);simp only [ht] at dN)
 cbv
 refine an trivial trivial rfl rfl rfl ?_
 (simp only [ht];grind)
theorem O4 (ht:TT t) (rd nx ef af:Int) {nl:List Node} {pl:List Place} {tl:List aR} {jl:List Jb} {ql:List bX} {el al:List bU} {ns ps ts js qs es cY:List (List D)} (gX:ns=nl.map Node.cells) (hps:ps=pl.map Place.cells) (hts:ts=tl.map aR.cells) (gi:js=jl.map Jb.cells) (fq:qs=ql.map bX.cells) (aF:es=el.map bU.cells) (has:cY=al.map bU.cells) (ja jb jc jd jn jp jt:Int) (jq:aD) {jB:List Term} {tn:List (List D)} (m8:tn=jB.map Term.cells) (hj:js=[]) (hx:(⟨jq,⟨ja,jb,jc,jd⟩,jn,jp,jt,jB⟩:Ask).sm) (htl:tl.length<100000) (hjl:jl.length<1000000) (V3:ql.length<1000000) (hel:el.length<1000000):
 FC 16 [.agg [az rd,az nx,SL ns,SL ps,SL ts,SL js,SL qs,az ef,SL es,az af,SL cY],.agg [ST jq,az ja,az jb,az jc,az jd,bq jn,bq jp,bq jt,SL tn]] [] (.ret (Sa t (t _ fun _=>eA ⟨rd,nx,⟨nl,pl⟩,tl,jl,ql,⟨ef,el⟩,⟨af,al⟩⟩ ⟨jq,⟨ja,jb,jc,jd⟩,jn,jp,jt,jB⟩))) []:=by
 subst hj
 obtain ⟨ck,SX⟩:∃ck,ck=cR ⟨jq,⟨ja,jb,jc,jd⟩,jn,jp,jt,jB⟩:=⟨_,rfl⟩
 obtain ⟨th,hth⟩:∃th,th=gV tl jq:=⟨_,rfl⟩
 obtain ⟨⟨q9,e9⟩,h9⟩:∃r,r=jI ql ⟨nx,jp⟩:=⟨_,rfl⟩
 have hS:eA ⟨rd,nx,⟨nl,pl⟩,tl,jl,ql,⟨ef,el⟩,⟨af,al⟩⟩ ⟨jq,⟨ja,jb,jc,jd⟩,jn,jp,jt,jB⟩=if ck≠0 then (⟨rd,nx,⟨nl,pl⟩,tl,jl,ql,⟨ef,el⟩,⟨af,al⟩⟩,0,ck) else if !th then (⟨rd,nx,⟨nl,pl⟩,tl,jl,ql,⟨ef,el⟩,⟨af,al⟩⟩,0,7) else if 32≤jl.length∨nx=18446744073709551615 then (⟨rd,nx,⟨nl,pl⟩,tl,jl,ql,⟨ef,el⟩,⟨af,al⟩⟩,0,9) else if e9≠0 then (⟨rd,nx,⟨nl,pl⟩,tl,jl,ql,⟨ef,el⟩,⟨af,al⟩⟩,0,e9) else
  (fO ⟨rd,IntKind.u64.wrap (nx+1),⟨nl,pl⟩,tl,jl++[⟨nx,⟨jq,⟨ja,jb,jc,jd⟩,jn,jp,jt,jB⟩,false,0⟩],q9,⟨ef,el⟩,⟨af,al⟩⟩ nx 1,nx,0):=by
  simp only [eA,←SX,←hth,←h9,u64,←bG]
 rw [hS]
 clear hS
 have hle:jl=[]:=by cases jl with
  |nil=>rfl
  |cons x l=>cases gi
 obtain ⟨h1,h2,h3,h4⟩:=id hx
 simp only at h1 h2 h3 h4
 refine bC ht (aE:=[]) Tryz.func16 (c:=_) rfl rfl (N:=68) rfl (rs:=_) rfl (n:=0) rfl rfl ?_
 cbv
 have fj:ns.length=nl.length:=by rw [gX,lgM]
 have fE:ps.length=pl.length:=by rw [hps,lgM]
 have fZ:ts.length=tl.length:=by rw [hts,lgM]
 have dM:qs.length=ql.length:=by rw [fq,lgM]
 have ar:es.length=el.length:=by rw [aF,lgM]
 have dU:cY.length=al.length:=by rw [has,lgM]
 have tq:tn.length=jB.length:=by rw [m8,lgM]
 refine ay trivial (oO ht _ _ _ _ _ _ _ _ (by assumption) (by assumption)) trivial rfl rfl (fun r0 bE=>?_)
 simp only [ht] at bE
 rw [←SX] at bE
 subst r0
 cbv
 refine ai (fun h1=>?_) (fun h1=>?_)
 ·simp [ht] at h1
  cbv
  refine an trivial trivial rfl rfl rfl ?_
  (simp only [ht];grind)
 simp [ht] at h1
 cbv
 refine ay trivial (yp ht _ (by assumption) (by omega) (by assumption)) trivial rfl rfl (fun r2 cP=>?_)
 simp only [ht] at cP
 rw [←hth] at cP
 subst r2
 cbv
 refine ai (fun h3=>?_) (fun h3=>?_)
 ·simp [ht] at h3
  cbv
  refine an trivial trivial rfl rfl rfl ?_
  (simp only [ht];grind)
 simp [ht] at h3
 cbv
 iterate 3 refine gI (by simp [ht]) ?_
 refine pI (by simp [ht]) ?_
 refine ai (fun h4=>?_) (fun h4=>?_)
 ·simp [ht] at h4
  cbv
  refine an trivial trivial rfl rfl rfl ?_
  (simp only [ht];grind)
 simp [ht] at h4
 cbv
 refine aS trivial (Cq ht _ _ (by assumption) (by assumption)) trivial rfl rfl rfl (fun r5 jA=>?_)
 simp only [ht] at jA
 rw [←h9] at jA
 subst r5
 cbv
 refine ai (fun h6=>?_) (fun h6=>?_)
 ·simp [ht] at h6
  cbv
  refine an trivial trivial rfl rfl rfl ?_
  (simp only [ht];grind)
 simp [ht] at h6
 cbv
 refine Qx [0,4,9,10] [false,false,false,false,false,false,false,false,false,false,false,false,true,true,true,true,true] (by kernel_rfl) (by kernel_rfl) (by kernel_rfl) (by kernel_rfl) (by kernel_rfl) ?_
 cbv
 iterate 3 refine gI (by simp) ?_
 refine .inl ?_
 (refine mT (fun g=>⟨trivial,trivial,Ep ht (by simp)⟩) rfl rfl rfl ?_)
 cbv
 iterate 4 refine gI (by simp) ?_
 refine gI (by simp [ht]) ?_
 iterate 3 refine gI (by simp) ?_
 (refine aS trivial (oR ht rd _ ef af nx 1 (nl:=nl) (pl:=pl) (tl:=tl) (jl:=jl++[⟨nx,⟨jq,⟨ja,jb,jc,jd⟩,jn,jp,jt,jB⟩,false,0⟩]) (ql:=q9) (el:=el) (al:=al) gX hps hts (by simp only [ht,hle];simp [Jb.cells,m8]) (by simp only [ht]) aF has hel) trivial rfl rfl rfl (fun r9 dN=>?_);simp only [ht] at dN)
 cbv
 refine an trivial trivial rfl rfl rfl ?_
 (simp only [ht];grind)
theorem oT (ht:TT t) (rd nx ef af:Int) {nl:List Node} {pl:List Place} {tl:List aR} {jl:List Jb} {ql:List bX} {el al:List bU} {ns ps ts js qs es cY:List (List D)} (gX:ns=nl.map Node.cells) (hps:ps=pl.map Place.cells) (hts:ts=tl.map aR.cells) (gi:js=jl.map Jb.cells) (fq:qs=ql.map bX.cells) (aF:es=el.map bU.cells) (has:cY=al.map bU.cells) (ja jb jc jd jn jp jt:Int) (jq:aD) {jB:List Term} {tn:List (List D)} (m8:tn=jB.map Term.cells) (hx:(⟨jq,⟨ja,jb,jc,jd⟩,jn,jp,jt,jB⟩:Ask).sm) (htl:tl.length<100000) (hjl:jl.length<1000000) (V3:ql.length<1000000) (hel:el.length<1000000):
 FC 16 [.agg [az rd,az nx,SL ns,SL ps,SL ts,SL js,SL qs,az ef,SL es,az af,SL cY],.agg [ST jq,az ja,az jb,az jc,az jd,bq jn,bq jp,bq jt,SL tn]] [] (.ret (Sa t (t _ fun _=>eA ⟨rd,nx,⟨nl,pl⟩,tl,jl,ql,⟨ef,el⟩,⟨af,al⟩⟩ ⟨jq,⟨ja,jb,jc,jd⟩,jn,jp,jt,jB⟩))) []:=by
 cases js with
 |nil=>exact O4 ht rd nx ef af gX hps hts gi fq aF has ja jb jc jd jn jp jt jq m8 rfl hx htl hjl V3 hel
 |cons e0 er=>exact O3 ht rd nx ef af gX hps hts gi fq aF has ja jb jc jd jn jp jt jq m8 e0 er rfl hx htl hjl V3 hel
theorem m5 (ht:TT t) (rd nx ef af:Int) {nl:List Node} {pl:List Place} {tl:List aR} {jl:List Jb} {ql:List bX} {el al:List bU} {ns ps ts js qs es cY:List (List D)} (gX:ns=nl.map Node.cells) (hps:ps=pl.map Place.cells) (hts:ts=tl.map aR.cells) (gi:js=jl.map Jb.cells) (fq:qs=ql.map bX.cells) (aF:es=el.map bU.cells) (has:cY=al.map bU.cells) (id:Int) {names:List aD} {nr:List (List D)} (XA:nr=names.map aT) (fR:∀x∈jl,x.x.fQ.u'∧x.x.path.length<1000000000000) (htl:tl.length<100000) (hjl:jl.length<1000000) (GU:nl.length<1000000) (nQ:pl.length<1000000) (V3:ql.length<1000000) (hel:el.length<1000000) (hnn:names.length<1000000):
 FC 29 [.agg [az rd,az nx,SL ns,SL ps,SL ts,SL js,SL qs,az ef,SL es,az af,SL cY],az id,SL nr] [] (.ret (Jd t (t _ fun _=>cw ⟨rd,nx,⟨nl,pl⟩,tl,jl,ql,⟨ef,el⟩,⟨af,al⟩⟩ id names))) []:=by
 refine bC ht (aE:=[]) Tryz.func29 (c:=_) rfl rfl (N:=100) rfl (rs:=_) rfl (n:=0) rfl rfl ?_
 cbv
 have fj:ns.length=nl.length:=by rw [gX,lgM]
 have fE:ps.length=pl.length:=by rw [hps,lgM]
 have fZ:ts.length=tl.length:=by rw [hts,lgM]
 have dy:js.length=jl.length:=by rw [gi,lgM]
 have dM:qs.length=ql.length:=by rw [fq,lgM]
 have ar:es.length=el.length:=by rw [aF,lgM]
 have dU:cY.length=al.length:=by rw [has,lgM]
 have FU:nr.length=names.length:=by rw [XA,lgM]
 refine ay trivial (tv ht _ _ _ _ _ _ _ _ _ _ _ (by assumption) (by omega)) trivial rfl rfl (fun r0 bE=>?_)
 simp only [ht] at bE
 have ec:=LB bE fR
 clear bE
 rcases ec with ⟨e1,e2⟩|⟨i,xi,xa,xb,xc,xd,xn,xp,xt,xf,xq,xr,xl,e1,e2,e3,e4,e5,⟨e6,e7⟩,e8⟩
 ·cbv
  refine ai (fun h1=>?_) (fun h1=>?_)
  ·simp [ht] at h1
   cbv
   refine an trivial trivial rfl rfl rfl ?_
   (simp [cw, *];done)
  simp [ht] at h1
  omega
 cbv
 refine ai (fun h2=>?_) (fun h2=>?_)
 ·simp [ht] at h2
  (simp only [aa] at*;omega)
 simp [ht] at h2
 cbv
 refine Bz ht gi (cT:=Jb.aH t) e3 (by assumption) (fun _=>rfl) (fun _=>(by (simp only [ht,Jb.aH];rfl))) ?_
 cbv
 refine ai (fun h4=>?_) (fun h4=>?_)
 ·cbv
  refine an trivial trivial rfl rfl rfl ?_
  (simp only [ht,cw,e4,e5,j9];simp [*];done)
 cbv
 refine ai (fun h5=>?_) (fun h5=>?_)
 ·simp [ht,aa,FU] at h5
  cbv
  refine an trivial trivial rfl rfl rfl ?_
  (simp only [ht,cw,e4,e5,j9];simp [*];done)
 simp [ht,aa,FU] at h5
 cbv
 (obtain ⟨⟨⟨v1,v2,v3,v4⟩,vk⟩,hv⟩:∃r,r=cW ⟨xq,⟨xa,xb,xc,xd⟩,xn,xp,xt,xl⟩:=⟨_,rfl⟩;refine ay trivial (tj ht xq xa xb xc xd xn xp xt (sl:=xl) _ e6) trivial rfl rfl (fun r9 dN=>?_);simp only [ht] at dN;rw [←hv] at dN;subst dN)
 cbv
 refine ai (fun h6=>?_) (fun h6=>?_)
 ·simp [ht] at h6
  cbv
  refine an trivial trivial rfl rfl rfl ?_
  (simp only [ht,cw,e4,e5,j9,←hv];(try (simp only [←gL];clear gL));(try (simp only [←dN];clear dN));simp [*];done)
 simp [ht] at h6
 cbv
 refine aS trivial (Ls ht _ _ _ _ _ (by assumption) (by assumption) (by assumption)) trivial rfl rfl rfl (fun r7 gL=>?_)
 simp only [ht] at gL
 cbv
 refine ai (fun h8=>?_) (fun h8=>?_)
 ·simp [ht] at h8
  cbv
  refine an trivial trivial rfl rfl rfl ?_
  (simp only [ht,cw,e4,e5,j9,←hv];(try (simp only [←gL];clear gL));(try (simp only [←dN];clear dN));simp [*];done)
 simp [ht] at h8
 cbv
 refine aS trivial (W9 ht _ _ _ _ _ (by assumption) (by assumption) (by assumption) (by omega) (by omega) (by omega)) trivial rfl rfl rfl (fun r9 dN=>?_)
 simp only [ht] at dN
 cbv
 refine ai (fun h10=>?_) (fun h10=>?_)
 ·simp [ht] at h10
  cbv
  refine an trivial trivial rfl rfl rfl ?_
  (simp only [ht,cw,e4,e5,j9,←hv];(try (simp only [←gL];clear gL));(try (simp only [←dN];clear dN));simp [*];done)
 simp [ht] at h10
 cbv
 refine aS trivial (Jg ht _ (by assumption) (by assumption)) trivial rfl rfl rfl (fun Yn pZ=>?_)
 simp only [ht] at pZ
 cbv
 (refine DF [0,2] (.more 0 (.more 1 (.one 2 (.one 3 (.one 4 (.one 5 (.one 6 (.one 7 (.one 8 .done))))))) (.one 2 (.more 1 (.one 3 (.one 4 (.one 5 (.one 6 (.one 7 (.one 8 .done)))))) (.one 3 (.more 1 (.one 4 (.one 5 (.one 6 (.one 7 (.one 8 .done))))) (.one 4 (.one 1 (.one 5 (.one 6 (.one 7 (.one 8 .done))))))))))) (.one 2 (.one 0 (.more 1 (.one 3 (.one 4 (.one 5 (.one 6 (.one 7 (.one 8 .done)))))) (.one 3 (.more 1 (.one 4 (.one 5 (.one 6 (.one 7 (.one 8 .done))))) (.one 4 (.one 1 (.one 5 (.one 6 (.one 7 (.one 8 .done)))))))))))) _ (by kernel_rfl) (by kernel_rfl) (by kernel_rfl) (by kernel_rfl) (by cbv;repeat' (first|exact rfl|refine ⟨?_,?_⟩)) ?_)
 cbv
 refine aS trivial (Na ht _ _ _ _ (jH ht rfl) (jH ht rfl) (jH ht rfl) (by assumption) (jH ht rfl) (by assumption) (by assumption) _ _ _ _ _ _ _ _ _ _ _ (jH ht rfl) (by assumption) (by assumption) (by assumption)) trivial rfl rfl rfl (fun Xw oN=>?_)
 simp only [ht] at oN
 have hwe:(Xw).ev.l.length<1000000:=by rw [oN];exact hel
 cbv
 refine aS trivial (oR ht _ _ _ _ _ _ (jH ht rfl) (jH ht rfl) (jH ht rfl) (jH ht rfl) (jH ht rfl) (jH ht rfl) (jH ht rfl) (by assumption)) trivial rfl rfl rfl (fun r13 FP=>?_)
 simp only [ht] at FP
 cbv
 refine an trivial trivial rfl rfl rfl ?_
 (simp only [ht,cw,e4,e5,j9,←hv];(try (simp only [←gL];clear gL));(try (simp only [←dN];clear dN));simp [*];done)
end Dem
end
