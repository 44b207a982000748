/- Parts of a proof, joined. -/
import Derived.Test.YtjnbpclolnmimaaGreatDoorJ18
set_option linter.unusedSimpArgs false
set_option linter.unusedVariables false
set_option maxRecDepth 100000
set_option maxHeartbeats 4000000
section
open Go Dem Go.Proofs
namespace Dem
variable {t:Th}
theorem Rd (ht:TT t) (s:aD) (hs:s.length<9223372036854775807) {r:Int} (hr:r=rN s):FC 151 [ST s] [] (.ret (bq r)) []:=by
 refine bC ht (aE:=[]) Tryz.func151 (c:=_) rfl rfl (N:=5) rfl (rs:=_) rfl (n:=0) rfl rfl ?_
 cbv
 refine gj trivial (Uh ht s hs hr) trivial rfl rfl ?_
 cbv
 exact an trivial trivial rfl rfl rfl rfl
theorem BK (ht:TT t) (s:aD) (hs:s.length<9223372036854775807) {r:Bool} (hr:r=dX s):FC 93 [ST s] [] (.ret (BL r)) []:=by
 obtain ⟨J,hJ⟩:∃J:Nat→Nat→Prop,∀n v,J n v↔(s.length≤v+n∧(DN s).all WV=(iA s n v).all WV):=⟨fun n v=>s.length≤v+n∧(DN s).all WV=(iA s n v).all WV,fun _ _=>Iff.rfl⟩
 refine bC ht (aE:=[]) Tryz.func93 (c:=_) rfl rfl (N:=32) rfl (rs:=_) rfl (n:=0) rfl rfl ?_
 cbv
 refine aZ ⟨[0,2,6],[],[]⟩ (σ:=Nat) (fun _=>[]) (fun v=>[(0,.it s (t _ fun _=>v))]) J ?_
 cbv
 refine aA ⟨s.length,0,(hJ _ _).2 ⟨by simp,by simp [DN]⟩,by simp only [ht];rfl,?_⟩
 rintro n pos hj
 obtain ⟨hf,hj⟩:=(hJ _ _).1 hj
 cbv
 refine ⟨fun hp=>?_,fun hp=>?_⟩
 ·simp only [ht] at hp hj hf
  cases n with
  |zero=>exfalso;omega
  |succ n=>
  rw [iA,if_pos hp] at hj
  obtain ⟨b1,qK⟩:∃b,b=HW (dec s pos).1 Fg:=⟨_,rfl⟩
  obtain ⟨b2,CL⟩:∃b,b=HW (dec s pos).1 marks:=⟨_,rfl⟩
  cbv
  refine mS rfl ?_
  cbv
  refine gj trivial (MP ht _ Fg rfl (by decide) (r:=b1) (by simp only [ht,aa];exact qK)) trivial rfl rfl ?_
  cbv
  repeat (refine gI (by (simp [ht];done)) ?_)
  refine HL (fun hg=>⟨by simp [ht] at hg ⊢;exact hg,trivial,MP ht _ marks rfl (by decide) (r:=b2) (by simp only [ht,aa];exact CL)⟩) rfl rfl ?_
  cbv
  repeat (first|refine gI (by first|(simp [ht,ak];done)|(simp [ht,ak];intros;simp_all;done)) ?_|refine pI (by (simp [ht];done)) ?_)
  obtain ⟨b,hb⟩:∃b,b=(!b1&&(decide (pos=0)||!b2)):=⟨_,rfl⟩
  have hw:WV (pos,(dec s pos).1)=!b:=by
   simp only [WV,←qK,←CL,hb];cases b1<;>cases b2<;>simp
  refine ai (fun hc=>?_) (fun hc=>?_)
  ·have hbt:b=true:=by rw [hb];simp [ht,aa] at hc;revert hc;cases b1<;>cases b2<;>simp
   cbv
   refine an trivial trivial rfl rfl rfl ?_
   simp only [List.all_cons,hw,hbt] at hj
   simp [hr,dX,hj]
  have hbf:b=false:=by rw [hb];simp [ht,aa] at hc;revert hc;cases b1<;>cases b2<;>simp
  cbv
  have hd:=MD s pos hp
  refine aA ⟨n,pos+(dec s pos).2,⟨by omega,(hJ _ _).2 ⟨by omega,?_⟩⟩,?_⟩
  ·rw [hj,List.all_cons,hw,hbf];rfl
  simp only [ht];rfl
 simp only [ht] at hp hj
 have e:iA s n pos=[]:=by cases n with
  |zero=>rfl
  |succ n=>rw [iA,if_neg hp]
 rw [e] at hj
 obtain ⟨k,hk⟩:∃k:Int,k=rN s:=⟨_,rfl⟩
 cbv
 refine qj rfl ?_
 cbv
 repeat (refine gI (by (simp [ht];done)) ?_)
 refine HL (fun hg=>⟨by simp [ht] at hg ⊢;exact hg,trivial,Rd ht s hs hk⟩) rfl rfl ?_
 cbv
 repeat (first|refine gI (by (simp [ht];done)) ?_|refine pI (by (simp [ht];done)) ?_)
 refine an trivial trivial rfl rfl rfl ?_
 simp only [List.all_nil] at hj
 simp only [ht,aa,hr,dX,hj,hk,Bool.true_and]
 simp
 congr 1
 rw [decide_eq_decide];omega
end Dem
end
section
open Go Dem Go.Proofs
namespace Dem
variable {t:Th}
theorem Re (ht:TT t) (l:List bT) (hl:l.length<9223372036854775807) (fR:∀p∈l,p.sm) {es:List (List D)} (aF:es=l.map bT.cells) {r:Bool} (hr:r=pN l):FC 94 [SL es] [] (.ret (BL r)) []:=by
 have hel:es.length=l.length:=by rw [aF,List.length_map]
 obtain ⟨J,hJ⟩:∃J:Nat→Nat→Prop,∀n v,J n v↔(v+n=l.length∧iY none l=iY (lY l v) (l.drop v)):=⟨fun n v=>v+n=l.length∧iY none l=iY (lY l v) (l.drop v),fun _ _=>Iff.rfl⟩
 refine bC ht (aE:=[]) Tryz.func94 (c:=_) rfl rfl (N:=41) rfl (rs:=_) rfl (n:=0) rfl rfl ?_
 cbv
 refine aZ ⟨[0,2,5,6,7],[],[]⟩ (σ:=Nat) (fun k=>[(7,bq (t _ fun _=>(k:Int)))]) (fun _=>[]) J ?_
 cbv
 refine aA ⟨l.length,0,(hJ _ _).2 ⟨by simp,by simp [lY]⟩,by simp only [ht];rfl,?_⟩
 rintro n k hj
 obtain ⟨h2,h3⟩:=(hJ _ _).1 hj
 clear hj
 cbv
 refine ai (fun h=>?_) (fun h=>?_)
 ·simp only [ht,aa,decide_eq_true_eq] at h
  have hk:k<l.length:=by omega
  obtain ⟨⟨ky,vl⟩,hx⟩:∃x,l[k]?=some x:=⟨l[k],by simp⟩
  obtain ⟨sk,sv⟩:=fR _ (List.mem_of_getElem? hx)
  obtain ⟨b1,qK⟩:∃b,b=dX ky:=⟨_,rfl⟩
  obtain ⟨b2,CL⟩:∃b,b=dX vl:=⟨_,rfl⟩
  cbv
  refine gS [.str ky,.str vl] ?_ ?_ ?_
  ·simp only [ht,aa];refine ⟨by omega,h,?_⟩;rw [aF];intro r hr;obtain ⟨y,_,rfl⟩:=List.mem_map.1 hr;rfl
  ·simp [ht,aa,aF,hx]
  cbv
  refine bJ [true,true,true,true,true,true,true,true,true,true,true,true,true,true,false,false,false,false,false,false,false,false,true,true,true] (by kernel_rfl) (by kernel_rfl) ?_
  cbv
  refine gj trivial (BK ht ky sk qK) trivial rfl rfl ?_
  cbv
  repeat (refine gI (by (simp [ht];done)) ?_)
  refine HL (fun hg=>⟨by simp [ht] at hg ⊢;exact hg,trivial,BK ht vl sv CL⟩) rfl rfl ?_
  cbv
  obtain ⟨⟨qk,qv⟩,hq⟩:∃q:bT,k≠0→l[k-1]?=some q:=by
   by_cases h0:k=0
   ·exact ⟨⟨[],[]⟩,fun h=>absurd h0 h⟩
   exact ⟨l[k-1],fun _=>by simp⟩
  repeat (first|refine gI (by (simp [ht];done)) ?_|refine pI (by (simp [ht];done)) ?_)
  refine QK [.str qk,.str qv] ?_ ?_
  ·intro hg
   simp [ht,aa] at hg
   have h0:k≠0:=by omega
   have hw:IntKind.i64.wrap ((k:Int)-1)=((k-1:Nat):Int):=by rw [wrap64 (by omega) (by omega)];omega
   refine ⟨⟨?_,?_⟩,?_⟩
   ·simp [ht,aa];omega
   ·simp only [ht,aa,hw]
    refine ⟨by omega,by omega,?_⟩
    rw [aF];intro r hr;obtain ⟨y,_,rfl⟩:=List.mem_map.1 hr;rfl
   simp [ht,aa,hw,aF,hq h0]
  cbv
  repeat (first|refine gI (by first|(simp [ht,ak];done)|(simp [ht,ak];intros;simp_all;done)) ?_|refine pI (by (simp [ht];done)) ?_)
  obtain ⟨b,hb⟩:∃b,b=(!b1||!b2||(decide (0<k)&&sle ky qk)):=⟨_,rfl⟩
  have hstep:iY (lY l k) (l.drop k)=(!b&&iY (lY l (k+1)) (l.drop (k+1))):=by
   have e1:l.drop k=⟨ky,vl⟩::l.drop (k+1):=by
    rw [List.drop_eq_getElem_cons hk];congr 1
    rw [List.getElem?_eq_getElem hk] at hx;exact Option.some.inj hx
   have e2:lY l (k+1)=some ky:=by simp [lY,hx]
   rw [e1,e2]
   cases k with
   |zero=>simp [iY,lY,←qK,←CL,hb]
   |succ k=>
    have:=hq (by omega)
    simp only [Nat.add_sub_cancel] at this
    simp [iY,lY,this,←qK,←CL,hb]
  refine ai (fun hc=>?_) (fun hc=>?_)
  ·have hbt:b=true:=by rw [hb];simp [ht,aa,sle] at hc ⊢;revert hc;cases b1<;>cases b2<;>simp
   cbv
   refine an trivial trivial rfl rfl rfl ?_
   rw [hr,pN,h3,hstep,hbt];rfl
  have hbf:b=false:=by rw [hb];simp [ht,aa,sle] at hc ⊢;revert hc;cases b1<;>cases b2<;>simp
  cbv
  refine aA ⟨n-1,k+1,⟨by omega,(hJ _ _).2 ⟨by omega,?_⟩⟩,?_⟩
  ·rw [h3,hstep,hbf];rfl
  simp only [ht,aa,aC (show k<9223372036854775807 by omega)];rfl
 simp only [ht,aa,decide_eq_false_iff_not] at h
 have hk:k=l.length:=by omega
 clear h
 cbv
 refine an trivial trivial rfl rfl rfl ?_
 simp only [ht,aa,hel,hr,pN,h3,hk,List.drop_length,iY,Bool.true_and]
 simp
 omega
end Dem
end
section
open Go Dem Go.Proofs
namespace Dem
variable {t:Th}
theorem Io (ht:TT t) (nm Vw:aD) (a b c d a' b' c' d':Int) {lb lb':List bT} {lr JH:List (List D)} (hlr:lr=lb.map bT.cells) (pS:JH=lb'.map bT.cells) (up Yl:Bool) (hl:lb.length<1000000000) (hl':lb'.length<1000000000):
 FC 70 [.agg [ST nm,az a,az b,az c,az d,SL lr,BL up],.agg [ST Vw,az a',az b',az c',az d',SL JH,BL Yl]] [] (.ret (bY (t _ fun _=>decide ((⟨nm,⟨a,b,c,d⟩,lb,up⟩:Node)=⟨Vw,⟨a',b',c',d'⟩,lb',Yl⟩)))) []:=by
 refine bC ht (aE:=[]) Tryz.func70 (c:=_) rfl rfl (N:=31) rfl (rs:=_) rfl (n:=0) rfl rfl ?_
 cbv
 have KZ:lr.length=lb.length:=by rw [hlr,List.length_map]
 have aaq:JH.length=lb'.length:=by rw [pS,List.length_map]
 iterate 5 refine gI (by simp [ht]) ?_
 refine pI (by simp [ht]) ?_
 iterate 5 refine gI (by simp [ht]) ?_
 refine pI (by simp [ht]) ?_
 iterate 4 refine gI (by simp [ht]) ?_
 refine aM (fun g0=>⟨by simp [ht] at g0 ⊢;exact g0,trivial,NW ht (by assumption) (by assumption) (by assumption) (by assumption)⟩) rfl rfl (fun r1 cX=>?_)
 simp only [ht] at cX
 cbv
 refine pI (by simp [ht]) ?_
 refine an trivial trivial rfl rfl rfl ?_
 (simp [*];grind)
theorem N0 (ht:TT t) {l m:List Node} {es fs:List (List D)} (aF:es=l.map Node.cells) (qL:fs=m.map Node.cells) (hl:l.length<1000000000) (hm:m.length<1000000000) (hls:∀x∈l,x.labels.length<1000000000) (Tl:∀x∈m,x.labels.length<1000000000):
 FC 69 [SL es,SL fs,.fn 70 []] [] (.ret (bY (t _ fun _=>decide (l=m)))) []:=by
 refine bC ht (aE:=[]) Tryz.func69 (c:=_) rfl rfl (N:=32) rfl (rs:=_) rfl (n:=0) rfl rfl ?_
 cbv
 have ar:es.length=l.length:=by rw [aF,List.length_map]
 have cD:fs.length=m.length:=by rw [qL,List.length_map]
 refine ai (fun h0=>?_) (fun h0=>?_)
 ·simp [ht,aa,ar,cD] at h0
  cbv
  refine an trivial trivial rfl rfl rfl ?_
  (simp [ht];rintro rfl;simp_all;done)
 simp [ht,aa,ar,cD] at h0
 cbv
 obtain ⟨J1,fe⟩:∃J1:Nat→Int→Prop,∀n i,J1 n i↔(∃k:Nat,i=k∧k+n=l.length∧l.length=m.length∧decide (l=m)=decide (l.drop k=m.drop k)):=⟨fun n v=>match v with|i=>(∃k:Nat,i=k∧k+n=l.length∧l.length=m.length∧decide (l=m)=decide (l.drop k=m.drop k)),fun _ _=>Iff.rfl⟩
 refine aZ ⟨[1,2,15,16,17],[],[]⟩ (σ:=Int) (fun v=>[(17,.d (.int .i64 (t _ fun _=>v)))]) (fun v=>[]) J1 ?_
 cbv
 refine aA ⟨l.length,_,(fe _ _).2 ?_,by simp only [ht];rfl,?_⟩
 ·(simp only [aa];grind)
 rintro n i hj
 replace hj:=(fe _ _).1 hj
 obtain ⟨k,rfl,j1,j2,j4⟩:=hj
 cbv
 refine ai (fun h2=>?_) (fun h2=>?_)
 ·simp [ht,aa,ar] at h2
  cbv
  refine dg ht aF (cT:=Node.aH t) (by (simp only [ht,aa];omega)) (by (simp only [ht,aa];omega)) (fun _=>rfl) (fun _=>(by (simp only [ht,Node.aH];done))) (fun x3 ke=>?_)
  simp [ht,aa] at ke
  rw [bO ke] at j4
  have sx3:=hls _ (List.mem_of_getElem? ke)
  cbv
  refine dg ht qL (cT:=Node.aH t) (by (simp only [ht,aa];omega)) (by (simp only [ht,aa];omega)) (fun _=>rfl) (fun _=>(by (simp only [ht,Node.aH];done))) (fun x4 qt=>?_)
  simp [ht,aa] at qt
  rw [bO qt] at j4
  have sx4:=Tl _ (List.mem_of_getElem? qt)
  cbv
  refine ay trivial (Io ht _ _ _ _ _ _ _ _ _ _ (jH ht rfl) (jH ht rfl) _ _ (by assumption) (by assumption)) trivial rfl rfl (fun r5 jA=>?_)
  simp only [ht] at jA
  cbv
  refine ai (fun h6=>?_) (fun h6=>?_)
  ·simp [ht] at h6
   cbv
   refine an trivial trivial rfl rfl rfl ?_
   (simp [ht];rintro rfl;simp_all;done)
  simp [ht] at h6
  cbv
  refine bf _ rfl (n-1) ?_ ((fe _ _).2 ?_)
  ·omega
  simp only [ht,aa]
  refine ⟨k+1,aC (by omega),by omega,by omega,?_⟩
  (simp_all [TO,nT];done)
 simp [ht,aa,ar] at h2
 cbv
 refine an trivial trivial rfl rfl rfl ?_
 (simp [ht,j4,List.drop_eq_nil_of_le (show l.length≤k by omega),List.drop_eq_nil_of_le (show m.length≤k by omega)];done)
theorem Ui (ht:TT t) {l l':List Node} {ps ps':List Place} {es es' qs Xa:List (List D)} (aF:es=l.map Node.cells) (KU:es'=l'.map Node.cells) (fq:qs=ps.map Place.cells) (Xb:Xa=ps'.map Place.cells)
 (hl:l.length<1000000000) (hl':l'.length<1000000000) (nQ:ps.length<1000000000) (aeR:ps'.length<1000000000) (hls:∀x∈l,x.labels.length<1000000000) (abL:∀x∈l',x.labels.length<1000000000):
 FC 23 [.agg [SL es,SL qs],.agg [SL es',SL Xa]] [] (.ret (bY (t _ fun _=>decide (l=l'∧ps=ps')))) []:=by
 refine bC ht (aE:=[]) Tryz.func23 (c:=_) rfl rfl (N:=17) rfl (rs:=_) rfl (n:=0) rfl rfl ?_
 cbv
 have ar:es.length=l.length:=by rw [aF,List.length_map]
 have Uj:es'.length=l'.length:=by rw [KU,List.length_map]
 have dM:qs.length=ps.length:=by rw [fq,List.length_map]
 have Uk:Xa.length=ps'.length:=by rw [Xb,List.length_map]
 refine ay trivial (N0 ht (by assumption) (by assumption) (by assumption) (by assumption) (by assumption) (by assumption)) trivial rfl rfl (fun r0 bE=>?_)
 simp only [ht] at bE
 cbv
 iterate 4 refine gI (by simp) ?_
 refine aM (fun g1=>⟨by simp at g1 ⊢;exact g1,trivial,KY ht (by assumption) (by assumption) (by assumption) (by assumption)⟩) rfl rfl (fun r2 cP=>?_)
 simp only [ht] at cP
 cbv
 refine pI (by simp) ?_
 refine an trivial trivial rfl rfl rfl ?_
 (simp [*];done)
theorem oK (ht:TT t) (s:aD) (hs:s.length<9223372036854775807):FC 93 [ST s] [] (.ret (bY (t _ fun _=>dX s))) []:=by
 simp only [ht];exact BK ht s hs rfl
theorem sU (ht:TT t) {l:List bT} {es:List (List D)} (aF:es=l.map bT.cells) (hl:l.length<1000000000) (fR:∀p∈l,p.sm):FC 94 [SL es] [] (.ret (bY (t _ fun _=>pN l))) []:=by
 simp only [ht];exact Re ht l (by omega) fR aF rfl
theorem Ul (ht:TT t) (jb:Int) (nd:aD) (v1 v2 v3 v4:Int) {l:List Node} {es qs:List (List D)} (aF:es=l.map Node.cells) (hl:l.length<1000000000) {r:Bool} (hr:r=By l ⟨jb,nd,⟨v1,v2,v3,v4⟩⟩):
 FC 103 [.agg [az jb,ST nd,az v1,az v2,az v3,az v4],.ptr 0 0] [.var [SL es,SL qs]] (.ret (BL r)) [.var [SL es,SL qs]]:=by
 refine bC ht (aE:=[.var [SL es,SL qs]]) Tryz.func103 (c:=_) rfl rfl (N:=9) rfl (rs:=_) rfl (n:=1) rfl rfl ?_
 cbv
 have ar:es.length=l.length:=by rw [aF,List.length_map]
 refine ay trivial (Im ht _ (by assumption) (by omega)) trivial rfl rfl (fun r0 bE=>?_)
 simp only [ht] at bE
 cbv
 refine an trivial trivial rfl rfl rfl ?_
 (simp [By,eT, *];grind)
theorem Iq (ht:TT t) (ns qs:List (List D)) {l:List (Place)} {es:List (List D)} (aF:es=l.map Place.cells) (f:Nat) (p:Place→Bool) (hl:l.length<9223372036854775807)
 (hf:∀x∈l,FC f [.agg [.d (.int .u64 x.bu),.d (.str x.node),.d (.int .u64 x.v.a),.d (.int .u64 x.v.b),.d (.int .u64 x.v.c),.d (.int .u64 x.v.d)],.ptr 0 0] [.var [SL ns,SL qs]] (.ret (BL (p x))) [.var [SL ns,SL qs]]) {r:Int} (hr:r=idxOf p l):FC 161 [SL es,.fn f [.ptr 0 0]] [.var [SL ns,SL qs]] (.ret (bq r)) [.var [SL ns,SL qs]]:=by
 have hel:es.length=l.length:=by rw [aF,List.length_map]
 obtain ⟨J,hJ⟩:∃J:Nat→Nat→Prop,∀n v,J n v↔(v+n=l.length∧∀i<v,∀x,l[i]?=some x→p x=false):=⟨fun n v=>v+n=l.length∧∀i<v,∀x,l[i]?=some x→p x=false,fun _ _=>Iff.rfl⟩
 refine bC ht (aE:=[.var [SL ns,SL qs]]) Tryz.func161 (c:=_) rfl rfl (N:=19) rfl (rs:=_) rfl (n:=1) rfl rfl ?_
 cbv
 refine aZ ⟨[0,1,7,8],[],[]⟩ (σ:=Nat) (fun k=>[(8,bq (t _ fun _=>(k:Int)))]) (fun _=>[]) J ?_
 cbv
 refine aA ⟨l.length,0,(hJ _ _).2 ⟨by omega,by intro i hi;simp at hi⟩,by simp only [ht];rfl,?_⟩
 rintro n k hj
 obtain ⟨h2,h3⟩:=(hJ _ _).1 hj
 clear hj
 cbv
 refine ai (fun h=>?_) (fun h=>?_)
 ·simp only [ht,aa,decide_eq_true_eq] at h
  have hk:k<l.length:=by omega
  obtain ⟨x,hx⟩:∃x,l[k]?=some x:=⟨l[k],by simp⟩
  have og:x∈l:=List.mem_of_getElem? hx
  have gY:=hf x og
  obtain ⟨px,hpx⟩:∃b,b=p x:=⟨_,rfl⟩
  rw [←hpx] at gY
  obtain ⟨jb,nd,⟨v1,v2,v3,v4⟩⟩:=x
  cbv
  refine gS [.int .u64 jb,.str nd,.int .u64 v1,.int .u64 v2,.int .u64 v3,.int .u64 v4] ?_ ?_ ?_
  ·simp only [ht,aa];refine ⟨by omega,h,?_⟩;rw [aF];intro r hr;obtain ⟨y,_,rfl⟩:=List.mem_map.1 hr;rfl
  ·simp [ht,aa,aF,hx]
  cbv
  refine dn trivial gY ?_
  cbv
  refine ai (fun hb=>?_) (fun hb=>?_)
  ·cbv
   refine an trivial trivial rfl rfl rfl ?_
   have e:=cN hx (hpx▸hb) h3
   simp only [ht,aa,hr,idxOf,e]
  cbv
  refine aA ⟨n-1,k+1,⟨by omega,(hJ _ _).2 ⟨by omega,?_⟩⟩,?_⟩
  ·intro i hi y hy
   by_cases hik:i<k
   ·exact h3 i hik y hy
   have:i=k:=by omega
   subst this;rw [hx] at hy;cases hy;rw [←hpx];exact hb
  simp only [ht,aa,aC (show k<9223372036854775807 by omega)];rfl
 simp only [ht,aa,decide_eq_false_iff_not] at h
 have hk:¬k<l.length:=by omega
 clear h
 cbv
 refine an trivial trivial rfl rfl rfl ?_
 rw [hr,idxOf,cS]
 intro i y hy
 have:i<l.length:=by
  rcases Nat.lt_or_ge i l.length with h'|h';· exact h'
  simp [List.getElem?_eq_none h'] at hy
 exact h3 i (by omega) y hy
theorem Ir (ht:TT t) (ns qs:List (List D)) {l:List (Place)} {es:List (List D)} (aF:es=l.map Place.cells) (f:Nat) (p:Place→Bool) (hl:l.length<9223372036854775807)
 (hf:∀x∈l,FC f [.agg [.d (.int .u64 x.bu),.d (.str x.node),.d (.int .u64 x.v.a),.d (.int .u64 x.v.b),.d (.int .u64 x.v.c),.d (.int .u64 x.v.d)],.ptr 0 0] [.var [SL ns,SL qs]] (.ret (BL (p x))) [.var [SL ns,SL qs]]) {r:Bool} (hr:r=l.any p):FC 104 [SL es,.fn f [.ptr 0 0]] [.var [SL ns,SL qs]] (.ret (BL r)) [.var [SL ns,SL qs]]:=by
 obtain ⟨k,hk⟩:∃k,k=idxOf p l:=⟨_,rfl⟩
 refine bC ht (aE:=[.var [SL ns,SL qs]]) Tryz.func104 (c:=_) rfl rfl (N:=9) rfl (rs:=_) rfl (n:=1) rfl rfl ?_
 cbv
 refine dn trivial (Iq ht ns qs aF f p hl hf hk) ?_
 cbv
 refine an trivial trivial rfl rfl rfl ?_
 simp only [ht,hr,eT,hk]
theorem N1 (ht:TT t) {l:List Node} {ps:List Place} {es qs:List (List D)} (aF:es=l.map Node.cells) (fq:qs=ps.map Place.cells) (hl:l.length<1000000000) (nQ:ps.length<1000000000) {r:Bool} (hr:r=ps.any (By l)):
 FC 104 [SL qs,.fn 103 [.ptr 0 0]] [.var [SL es,SL qs]] (.ret (BL r)) [.var [SL es,SL qs]]:=
 Ir ht es qs fq 103 (By l) (by omega) (fun x _=>Ul ht x.bu x.node x.v.a x.v.b x.v.c x.v.d aF hl rfl) hr
theorem D2 (ht:TT t) {l:List Node} {ps:List Place} {es qs:List (List D)} (aF:es=l.map Node.cells) (fq:qs=ps.map Place.cells) (hl:l.length<1000000000) (nQ:ps.length<1000000000) (fR:∀x∈l,x.sm):
 FC 39 [.agg [SL es,SL qs]] [] (.ret (bY (t _ fun _=>nU ⟨l,ps⟩))) []:=by
 refine bC ht (aE:=[]) Tryz.func39 (c:=_) rfl rfl (N:=66) rfl (rs:=_) rfl (n:=0) rfl rfl ?_
 cbv
 have ar:es.length=l.length:=by rw [aF,List.length_map]
 have dM:qs.length=ps.length:=by rw [fq,List.length_map]
 obtain ⟨J0,eg⟩:∃J0:Nat→Int→Prop,∀n i,J0 n i↔(∃k:Nat,i=k∧k+n=l.length∧iZ l ps none l=iZ l ps (oH l k) (l.drop k)):=⟨fun n v=>match v with|i=>(∃k:Nat,i=k∧k+n=l.length∧iZ l ps none l=iZ l ps (oH l k) (l.drop k)),fun _ _=>Iff.rfl⟩
 refine aZ ⟨[1,9,10,11],[],[]⟩ (σ:=Int) (fun v=>[(11,.d (.int .i64 (t _ fun _=>v)))]) (fun v=>[]) J0 ?_
 cbv
 refine aA ⟨l.length,_,(eg _ _).2 ?_,by simp only [ht];rfl,?_⟩
 ·exact ⟨0,rfl,by simp,by simp [oH]⟩
 rintro n i hj
 replace hj:=(eg _ _).1 hj
 obtain ⟨k,rfl,j1,j4⟩:=hj
 cbv
 refine ai (fun h1=>?_) (fun h1=>?_)
 ·simp [ht,aa,ar] at h1
  cbv
  refine dg ht aF (cT:=Node.aH t) (by (simp only [ht,aa];omega)) (by (simp only [ht,aa];omega)) (fun _=>rfl) (fun _=>(by (simp only [ht,Node.aH];done))) (fun x2 iw=>?_)
  simp [ht,aa] at iw
  simp only [bO iw,iZ] at j4
  first|obtain ⟨s1,s2,s3⟩:=fR _ (List.mem_of_getElem? iw)|skip
  cbv
  refine ay trivial (Fv ht _ (by assumption) (by assumption) (by omega) (by omega)) trivial rfl rfl (fun r3 gH=>?_)
  simp only [ht] at gH
  cbv
  refine bJ [true,true,true,true,true,true,true,true,true,true,true,true,true,true,true,true,true,true,false,false,false,false,false,false,false,false,false,true,true,true] (by kernel_rfl) (by kernel_rfl) ?_
  cbv
  iterate 2 refine gI (by simp [ht]) ?_
  refine aM (fun g4=>⟨by simp [ht] at g4 ⊢;exact g4,trivial,oK ht _ (by assumption)⟩) rfl rfl (fun r5 jA=>?_)
  simp only [ht] at jA
  cbv
  refine gI (by simp [ht]) ?_
  refine pI (by simp [ht]) ?_
  iterate 2 refine gI (by simp [ht]) ?_
  refine aM (fun g6=>⟨by simp [ht] at g6 ⊢;exact g6,trivial,sU ht (jH ht rfl) (by assumption) (by assumption)⟩) rfl rfl (fun r7 gL=>?_)
  simp only [ht] at gL
  cbv
  refine gI (by simp [ht]) ?_
  refine pI (by simp [ht]) ?_
  iterate 9 refine gI (by simp [ht]) ?_
  (refine HY ht aF (cT:=Node.aH t) (k-1) (fun g=>by simp [ht,aa] at g ⊢;simp [g]) (fun g=>by simp [ht,aa] at g;simp only [ht,aa];exact ⟨vX (by omega) (by omega),by omega⟩) (fun _=>rfl) (fun _=>by simp only [ht,Node.aH]) (fun y my=>?_);simp [ht,aa] at my)
  cbv
  iterate 3 refine gI (by simp [ht]) ?_
  refine gI (by simp [ht,ak];intros;simp_all) ?_
  refine pI (by simp [ht]) ?_
  refine ai (fun h8=>?_) (fun h8=>?_)
  ·simp [ht,aa] at h8
   cbv
   refine an trivial trivial rfl rfl rfl ?_
   (simp only [ht];rw [DO] at j4;grind [nU,sle])
  simp [ht,aa] at h8
  cbv
  refine bf _ rfl (n-1) ?_ ((eg _ _).2 ?_)
  ·omega
  simp only [ht,aa]
  refine ⟨k+1,aC (by omega),by omega,?_⟩
  (rw [DO] at j4;simp only [oH,iw,Option.map_some];grind [sle])
 simp [ht,aa,ar] at h1
 cbv
 iterate 3 refine gI (by simp [ht]) ?_
 (obtain ⟨r9,dN⟩:∃r,r=ps.any (By l):=⟨_,rfl⟩;refine WM [0] (fun g=>⟨by simp [ht] at g ⊢;exact g,N1 ht aF fq hl nQ dN⟩) rfl rfl rfl rfl ?_)
 cbv
 refine gI (by simp [ht]) ?_
 refine pI (by simp [ht]) ?_
 refine an trivial trivial rfl rfl rfl ?_
 (rw [List.drop_eq_nil_of_le (by omega),iZ] at j4;simp [ht,aa,nU,j4,dN,ar];congr 1;rw [decide_eq_decide];omega)
end Dem
end
section
open Go Dem Go.Proofs
namespace Dem
variable {t:Th}
theorem Xc (ht:TT t) (nm:aD) (a b c d:Int) {lb:List (List D)} (up:Bool) (Vw:aD) (a' b' c' d':Int) {lb':List (List D)} (Yl:Bool) {r:Bool} (hr:r=!Op.bytesLess Vw nm):
 FC 97 [.agg [ST Vw,az a',az b',az c',az d',SL lb',BL Yl],.ptr 0 0] [.var [ST nm,az a,az b,az c,az d,SL lb,BL up]] (.ret (BL r)) [.var [ST nm,az a,az b,az c,az d,SL lb,BL up]]:=by
 refine bC ht (aE:=[.var [ST nm,az a,az b,az c,az d,SL lb,BL up]]) Tryz.func97 (c:=_) rfl rfl (N:=9) rfl (rs:=_) rfl (n:=1) rfl rfl ?_
 cbv
 refine an trivial trivial rfl rfl rfl ?_
 (simp only [ht,hr];done)
theorem K0 (ht:TT t) (nm:aD) (a b c d:Int) (lb:List (List D)) (up:Bool) {l:List (Node)} {es:List (List D)} (aF:es=l.map Node.cells) (f:Nat) (p:Node→Bool) (hl:l.length<9223372036854775807)
 (hf:∀x∈l,FC f [.agg [.d (.str x.name),.d (.int .u64 x.cap.a),.d (.int .u64 x.cap.b),.d (.int .u64 x.cap.c),.d (.int .u64 x.cap.d),.d (.sl (x.labels.map bT.cells)),.d (.bool x.up)],.ptr 0 0] [.var [ST nm,az a,az b,az c,az d,SL lb,BL up]] (.ret (BL (p x))) [.var [ST nm,az a,az b,az c,az d,SL lb,BL up]]) {r:Int} (hr:r=idxOf p l):FC 96 [SL es,.fn f [.ptr 0 0]] [.var [ST nm,az a,az b,az c,az d,SL lb,BL up]] (.ret (bq r)) [.var [ST nm,az a,az b,az c,az d,SL lb,BL up]]:=by
 have hel:es.length=l.length:=by rw [aF,List.length_map]
 obtain ⟨J,hJ⟩:∃J:Nat→Nat→Prop,∀n v,J n v↔(v+n=l.length∧∀i<v,∀x,l[i]?=some x→p x=false):=⟨fun n v=>v+n=l.length∧∀i<v,∀x,l[i]?=some x→p x=false,fun _ _=>Iff.rfl⟩
 refine bC ht (aE:=[.var [ST nm,az a,az b,az c,az d,SL lb,BL up]]) Tryz.func96 (c:=_) rfl rfl (N:=19) rfl (rs:=_) rfl (n:=1) rfl rfl ?_
 cbv
 refine aZ ⟨[0,1,7,8],[],[]⟩ (σ:=Nat) (fun k=>[(8,bq (t _ fun _=>(k:Int)))]) (fun _=>[]) J ?_
 cbv
 refine aA ⟨l.length,0,(hJ _ _).2 ⟨by omega,by intro i hi;simp at hi⟩,by simp only [ht];rfl,?_⟩
 rintro n k hj
 obtain ⟨h2,h3⟩:=(hJ _ _).1 hj
 clear hj
 cbv
 refine ai (fun h=>?_) (fun h=>?_)
 ·simp only [ht,aa,decide_eq_true_eq] at h
  have hk:k<l.length:=by omega
  obtain ⟨x,hx⟩:∃x,l[k]?=some x:=⟨l[k],by simp⟩
  have og:x∈l:=List.mem_of_getElem? hx
  have gY:=hf x og
  obtain ⟨px,hpx⟩:∃b,b=p x:=⟨_,rfl⟩
  rw [←hpx] at gY
  obtain ⟨Vw,⟨a',b',c',d'⟩,lb',Yl⟩:=x;obtain ⟨JH,pS⟩:∃lr:List (List D),lr=lb'.map bT.cells:=⟨_,rfl⟩;simp only [←pS] at gY
  cbv
  refine gS [.str Vw,.int .u64 a',.int .u64 b',.int .u64 c',.int .u64 d',.sl JH,.bool Yl] ?_ ?_ ?_
  ·simp only [ht,aa];refine ⟨by omega,h,?_⟩;rw [aF];intro r hr;obtain ⟨y,_,rfl⟩:=List.mem_map.1 hr;rfl
  ·simp [ht,aa,aF,hx,pS]
  cbv
  refine dn trivial gY ?_
  cbv
  refine ai (fun hb=>?_) (fun hb=>?_)
  ·cbv
   refine an trivial trivial rfl rfl rfl ?_
   have e:=cN hx (hpx▸hb) h3
   simp only [ht,aa,hr,idxOf,e]
  cbv
  refine aA ⟨n-1,k+1,⟨by omega,(hJ _ _).2 ⟨by omega,?_⟩⟩,?_⟩
  ·intro i hi y hy
   by_cases hik:i<k
   ·exact h3 i hik y hy
   have:i=k:=by omega
   subst this;rw [hx] at hy;cases hy;rw [←hpx];exact hb
  simp only [ht,aa,aC (show k<9223372036854775807 by omega)];rfl
 simp only [ht,aa,decide_eq_false_iff_not] at h
 have hk:¬k<l.length:=by omega
 clear h
 cbv
 refine an trivial trivial rfl rfl rfl ?_
 rw [hr,idxOf,cS]
 intro i y hy
 have:i<l.length:=by
  rcases Nat.lt_or_ge i l.length with h'|h';· exact h'
  simp [List.getElem?_eq_none h'] at hy
 exact h3 i (by omega) y hy
theorem tW (ht:TT t) {l:List Node} {x:Node} {k:Nat} {i:Int} {lr:List (List D)} (hi:i=k) (hk:k≤l.length) (hl:l.length<1000000) (hlr:lr=x.labels.map bT.cells):
 FC 98 [.ow 0 7 (t _ fun _=>(l.map Node.cells).length),bq i,.cl [[.str x.name,.int .u64 x.cap.a,.int .u64 x.cap.b,.int .u64 x.cap.c,.int .u64 x.cap.d,.sl lr,.bool x.up]]] [.row 7 (t _ fun _=>l.map Node.cells)] (.ret (SL (t _ fun _=>(l.take k++x::l.drop k).map Node.cells))) [.dead]:=by
 simp only [ht];subst hi hlr
 refine pO (args':=[.ow 0 7 (l.map Node.cells).length,bq k,SL [Node.cells x]]) ?_ (Ft ht (by simp) (by simpa using hk) ?_ rfl (by simpa using hl) (by simp))
 ·intro β w ok vs h
  simp only [aj] at h ⊢
  obtain ⟨u1,us1,rfl,h1,u2,PS,rfl,h2,u3,Xd,rfl,h3,h4⟩:=h
  exact ⟨u1,_,rfl,h1,u2,_,rfl,h2,u3,Xd,rfl,MF h3,h4⟩
 intro r hr;obtain ⟨y,_,rfl⟩:=List.mem_map.1 hr;rfl
theorem K1 (ht:TT t) {l:List Node} {ps:List Place} {es qs:List (List D)} (aF:es=l.map Node.cells) (fq:qs=ps.map Place.cells) (nm:aD) (a b c d:Int) {lb:List bT} {lr:List (List D)} (hlr:lr=lb.map bT.cells) (up:Bool) (hl:l.length<1000000000) (hn:nm.length<9223372036854775807) (hlb:lb.length<1000000000) (fR:∀p∈lb,p.sm):
 FC 35 [.agg [SL es,SL qs],.agg [ST nm,az a,az b,az c,az d,SL lr,BL up]] [] (.ret (QX t (t _ fun _=>rO ⟨l,ps⟩ ⟨nm,⟨a,b,c,d⟩,lb,up⟩))) []:=by
 refine bC ht (aE:=[]) Tryz.func35 (c:=_) rfl rfl (N:=51) rfl (rs:=_) rfl (n:=0) rfl rfl ?_
 cbv
 have ar:es.length=l.length:=by rw [aF,List.length_map]
 have dM:qs.length=ps.length:=by rw [fq,List.length_map]
 have KZ:lr.length=lb.length:=by rw [hlr,List.length_map]
 refine ay trivial (oK ht _ (by assumption)) trivial rfl rfl (fun r0 bE=>?_)
 simp only [ht] at bE
 cbv
 refine ai (fun h1=>?_) (fun h1=>?_)
 ·simp [ht] at h1
  cbv
  refine an trivial trivial rfl rfl rfl ?_
  (simp only [ht,rO];grind)
 simp [ht] at h1
 cbv
 refine ay trivial (sU ht (by assumption) (by assumption) (by assumption)) trivial rfl rfl (fun r2 cP=>?_)
 simp only [ht] at cP
 cbv
 refine ai (fun h3=>?_) (fun h3=>?_)
 ·simp [ht] at h3
  cbv
  refine an trivial trivial rfl rfl rfl ?_
  (simp only [ht,rO];grind)
 simp [ht] at h3
 cbv
 refine ay trivial (Im ht _ (by assumption) (by omega)) trivial rfl rfl (fun r4 dO=>?_)
 simp only [ht] at dO
 cbv
 refine ai (fun h5=>?_) (fun h5=>?_)
 ·simp [ht] at h5
  cbv
  refine an trivial trivial rfl rfl rfl ?_
  (simp only [ht,rO];grind)
 simp [ht] at h5
 cbv
 refine ai (fun h6=>?_) (fun h6=>?_)
 ·simp [ht,aa,ar] at h6
  cbv
  refine an trivial trivial rfl rfl rfl ?_
  (simp only [ht,rO];grind)
 simp [ht,aa,ar] at h6
 cbv
 (obtain ⟨r9,dN⟩:∃r,r=idxOf (fun o:Node=>!Op.bytesLess o.name nm) l:=⟨_,rfl⟩;refine cE [1] trivial rfl rfl (K0 ht nm a b c d lr true aF 97 (fun o:Node=>!Op.bytesLess o.name nm) (by omega) (fun x _=>Xc ht nm a b c d true x.name x.cap.a x.cap.b x.cap.c x.cap.d x.up rfl) dN) (bK ?_);have ec:=cU dN;clear dN;rcases ec with ⟨e1,e2,e3⟩|⟨i,x,hi,hil,e1,e2,e3,e4⟩)
 ·cbv
  refine ai (fun h7=>?_) (fun h7=>?_)
  ·simp [ht] at h7
   cbv
   refine bJ [false,false,false,false,false,false,true,true,true] (by kernel_rfl) (by kernel_rfl) ?_
   cbv
   iterate 2 refine gI (by simp) ?_
   refine .inr (MB trivial (wj ht (by assumption) (by assumption)) trivial rfl (.inr rfl) rfl ?_)
   cbv
   iterate 3 refine gI (by simp) ?_
   refine cE [3] trivial rfl rfl (tW ht (l:=l) (x:=⟨nm,⟨a,b,c,d⟩,lb,true⟩) (k:=pat l nm) (by (simp [ht,pat,e2,ar];done)) (by (simp [pat,e2];done)) (by simp only [aa] at*;omega) hlr) (bK ?_)
   cbv
   refine an trivial trivial rfl rfl rfl ?_
   (simp only [ht,rO];grind)
  simp [ht] at h7
  omega
 cbv
 refine ai (fun h8=>?_) (fun h8=>?_)
 ·simp [ht] at h8
  (simp only [aa] at*;omega)
 simp [ht] at h8
 cbv
 refine bJ [false,false,false,false,false,false,true,true,true] (by kernel_rfl) (by kernel_rfl) ?_
 cbv
 iterate 2 refine gI (by simp) ?_
 refine .inr (MB trivial (wj ht (by assumption) (by assumption)) trivial rfl (.inr rfl) rfl ?_)
 cbv
 iterate 3 refine gI (by simp) ?_
 refine cE [3] trivial rfl rfl (tW ht (l:=l) (x:=⟨nm,⟨a,b,c,d⟩,lb,true⟩) (k:=pat l nm) (by (simp only [pat,e3];exact hi)) (by (simp only [pat,e3];omega)) (by simp only [aa] at*;omega) hlr) (bK ?_)
 cbv
 refine an trivial trivial rfl rfl rfl ?_
 (simp only [ht,rO];grind)
end Dem
end
section
open Go Dem Go.Proofs
namespace Dem
variable {t:Th}
def bU.aH (_:Th) (n:bU):List D:=[.int .u64 n.round,.int .u64 n.id,.int .i64 n.kind]
theorem Xe {x y:bU}:x=y↔x.round=y.round∧x.id=y.id∧x.kind=y.kind:=by cases x;cases y;simp
def Rf (t:Th) (x:qG):AV:=.agg [az x.first,SL (t _ fun _=>x.l.map bU.cells)]
def ZD (t:Th) (r:List bU×Int):AV:=.dF [SL (t _ fun _=>r.1.map bU.cells),az r.2]
theorem BM (ht:TT t) {es:List (List D)} (hr:∀r∈es,r.length=3):FC 33 [SL es] [] (.ret (.cl es)) []:=by
 refine bC ht (aE:=[]) Tryz.func33 (c:=_) rfl rfl (N:=9) rfl (rs:=_) rfl (n:=0) rfl rfl ?_
 cbv
 refine ⟨?_,QM trivial rfl ?_⟩
 ·simp only [ht,aa,bS];exact ⟨⟨⟨by omega,Int.le_refl _⟩,trivial⟩,hr⟩
 simp [ht,aa,gr]
theorem Fw (ht:TT t) (first f:Int) {l:List bU} {es:List (List D)} (aF:es=l.map bU.cells) (hl:l.length<1000000000):
 FC 11 [.agg [az first,SL es],az f] [] (.ret (ZD t (t _ fun _=>tU ⟨first,l⟩ f))) []:=by
 refine bC ht (aE:=[]) Tryz.func11 (c:=_) rfl rfl (N:=43) rfl (rs:=_) rfl (n:=0) rfl rfl ?_
 cbv
 have ar:es.length=l.length:=by rw [aF,List.length_map]
 obtain ⟨J0,eg⟩:∃J0:Nat→List (List D)×Int×Int→Prop,∀n o nx i,J0 n (o,nx,i)↔(∃(k:Nat) (rs:List bU),i=k∧k+n=l.length∧o=rs.map bU.cells∧rs.length≤k∧tU ⟨first,l⟩ f=wg first f (l.drop k) k (rs,nx)):=⟨fun n v=>match v with|(o,nx,i)=>(∃(k:Nat) (rs:List bU),i=k∧k+n=l.length∧o=rs.map bU.cells∧rs.length≤k∧tU ⟨first,l⟩ f=wg first f (l.drop k) k (rs,nx)),fun _ _ _ _=>Iff.rfl⟩
 refine aZ ⟨[1,2,4,5,14,15,16],[(4,3)],[]⟩ (σ:=List (List D)×Int×Int) (fun v=>[(4,.ow 1 3 (t _ fun _=>(v.1).length)),(5,.d (.int .u64 (t _ fun _=>v.2.1))),(16,.d (.int .i64 (t _ fun _=>v.2.2)))]) (fun v=>[(1,.row 3 (t _ fun _=>v.1))]) J0 ?_
 cbv
 refine aA ⟨l.length,([],_,_),(eg _ _ _ _).2 ?_,by simp only [ht];rfl,?_⟩
 ·exact ⟨0,[],rfl,by simp,rfl,by simp,rfl⟩
 rintro n ⟨o,nx,i⟩ hj
 replace hj:=(eg _ _ _ _).1 hj
 obtain ⟨k,rs,rfl,j1,j2,j3,j4⟩:=hj
 have tV:o.length=rs.length:=by rw [j2,List.length_map]
 have hkw:IntKind.u64.wrap (k:Int)=(k:Int):=by rw [bG];omega
 cbv
 refine ai (fun h1=>?_) (fun h1=>?_)
 ·simp [ht,aa,ar] at h1
  cbv
  refine dg ht aF (cT:=bU.aH t) (by (simp only [ht,aa];omega)) (by (simp only [ht,aa];omega)) (fun _=>rfl) (fun _=>rfl) (fun x2 iw=>?_)
  simp [ht,aa] at iw
  rw [bO iw,wg] at j4
  simp only [u64,←bG] at j4
  cbv
  iterate 3 refine gI (by simp [ht]) ?_
  refine pI (by simp [ht]) ?_
  refine ai (fun h3=>?_) (fun h3=>?_)
  ·simp [ht,aa,tV] at h3
   cbv
   refine ⟨?_,?_⟩
   ·(simp only [ht,true_and];exact zb j2 (fun _=>rfl) rfl (by omega) (by decide))
   cbv
   refine bf (_,_,_) (by simp only [ht,←List.length_append];rfl) (n-1) ?_ ((eg _ _ _ _).2 ?_)
   ·omega
   simp only [aa]
   (simp only [aa] at h3 hkw j4 ⊢;rw [hkw] at h3 ⊢;rw [if_pos (by simp;omega)] at j4;exact ⟨k+1,rs++[x2],aC (by omega),by omega,by rw [j2];simp [bU.cells],by simp;omega,j4⟩)
  simp [ht,aa,tV] at h3
  cbv
  refine bf (_,_,_) (by simp only [ht];rfl) (n-1) ?_ ((eg _ _ _ _).2 ?_)
  ·omega
  simp only [aa]
  (simp only [aa] at h3 hkw j4 ⊢;rw [hkw] at h3;rw [if_neg (by simp;omega)] at j4;exact ⟨k+1,rs,aC (by omega),by omega,j2,by omega,j4⟩)
 simp [ht,aa,ar] at h1
 cbv
 refine an trivial (by simp [ht]) rfl rfl rfl ?_
 (rw [List.drop_eq_nil_of_le (by ((try simp only [aa] at*);omega)),wg] at j4;simp only [ht,j4,j2];done)
end Dem
end
section
open Go Dem Go.Proofs
namespace Dem
variable {t:Th}
theorem Um (ht:TT t) (first rd id kd:Int):
 FC 10 [.agg [az first,SL []],.agg [az rd,az id,bq kd]] [] (.ret (Rf t (t _ fun _=>tell ⟨first,[]⟩ ⟨rd,id,kd⟩))) []:=by
 refine bC ht (aE:=[]) Tryz.func10 (c:=_) rfl rfl (N:=25) rfl (rs:=_) rfl (n:=0) rfl rfl ?_
 cbv
 refine bJ [false,false,false,false,false,true,true,true] (by kernel_rfl) (by kernel_rfl) ?_
 cbv
 iterate 2 refine gI (by simp) ?_
 refine .inl ?_
 (refine mT (fun g=>⟨trivial,trivial,BM ht (by simp)⟩) rfl rfl rfl ?_)
 cbv
 iterate 2 refine gI (by simp) ?_
 refine ⟨?_,?_⟩
 ·(simp [ht];done)
 refine ⟨?_,?_⟩
 ·(simp [ht];done)
 cbv
 refine ai (fun h0=>?_) (fun h0=>?_)
 ·simp [ht] at h0
 simp [ht] at h0
 cbv
 refine an trivial (by simp [ht]) rfl rfl rfl ?_
 (simp [ht,tell,bU.cells];done)
theorem Un (ht:TT t) (first rd id kd:Int) (e0:List D) (er:List (List D)) {l:List bU} (aF:e0::er=l.map bU.cells) (hl:l.length<1000000):
 FC 10 [.agg [az first,SL (e0::er)],.agg [az rd,az id,bq kd]] [] (.ret (Rf t (t _ fun _=>tell ⟨first,l⟩ ⟨rd,id,kd⟩))) []:=by
 have hr:∀r∈e0::er,r.length=3:=by rw [aF];intro r hr;obtain ⟨y,_,rfl⟩:=List.mem_map.1 hr;rfl
 have hle:(e0::er).length=l.length:=by rw [aF,List.length_map]
 refine bC ht (aE:=[]) Tryz.func10 (c:=_) rfl rfl (N:=25) rfl (rs:=_) rfl (n:=0) rfl rfl ?_
 cbv
 refine bJ [false,false,false,false,false,true,true,true] (by kernel_rfl) (by kernel_rfl) ?_
 cbv
 iterate 2 refine gI (by simp) ?_
 refine .inl ?_
 (refine mT (fun g=>⟨trivial,trivial,BM ht hr⟩) rfl rfl rfl ?_)
 cbv
 iterate 2 refine gI (by simp) ?_
 refine ⟨?_,?_⟩
 ·(simp only [ht];grind)
 refine ⟨?_,?_⟩
 ·(simp [ht];done)
 cbv
 refine ai (fun h0=>?_) (fun h0=>?_)
 ·simp [ht,aa] at h0
  cbv
  refine ⟨?_,?_⟩
  ·(simp only [ht,bS];refine ⟨by simp,⟨by omega,by simp;omega⟩,?_⟩;intro r h;rcases List.mem_append.1 h with h|h;exact hr r h;simp at h;subst h;rfl)
  cbv
  refine an trivial trivial rfl rfl rfl ?_
  (simp only [aa] at h0;simp only [List.length_cons] at hle;have tl:tell ⟨first,l⟩ ⟨rd,id,kd⟩=⟨u64 (first+1),(l++[(⟨rd,id,kd⟩:bU)]).drop 1⟩:=(by unfold tell;rw [if_pos (by simp only [List.length_append,List.length_cons,List.length_nil];omega)]);simp only [ht,tl,aF,gr,u64,bG];rw [List.map_drop,List.map_append];rfl)
 simp [ht,aa] at h0
 cbv
 refine an trivial (by simp [ht]) rfl rfl rfl ?_
 (simp only [aa] at h0;simp only [List.length_cons] at hle;have tl:tell ⟨first,l⟩ ⟨rd,id,kd⟩=⟨first,l++[(⟨rd,id,kd⟩:bU)]⟩:=(by unfold tell;rw [if_neg (by simp only [List.length_append,List.length_cons,List.length_nil];omega)]);simp only [ht,tl,aF];rw [List.map_append];rfl)
theorem MQ (ht:TT t) (first rd id kd:Int) {l:List bU} {es:List (List D)} (aF:es=l.map bU.cells) (hl:l.length<1000000):
 FC 10 [.agg [az first,SL es],.agg [az rd,az id,bq kd]] [] (.ret (Rf t (t _ fun _=>tell ⟨first,l⟩ ⟨rd,id,kd⟩))) []:=by
 cases l with
 |nil=>subst aF;exact Um ht first rd id kd
 |cons x l=>subst aF;exact Un ht first rd id kd _ _ rfl hl
end Dem
end
section
open Go
namespace Dem
def fK (l:List bU) (k:Nat):qG:=(l.take k).foldl tell ⟨0,[]⟩
theorem pT (l:List bU):∀k,k≤l.length→k<1000000→fK l k=⟨(k-32:Nat),(l.take k).drop (k-32)⟩
 |0,_,_=>by simp [fK]
 |k+1,h,hk=>by
  obtain ⟨x,hx⟩:∃x,l[k]?=some x:=⟨_,List.getElem?_eq_getElem (by omega)⟩
  have e:fK l (k+1)=tell (fK l k) x:=by unfold fK;rw [eU hx,List.foldl_append];rfl
  have ll:((l.take k).drop (k-32)++[x]).length=k-(k-32)+1:=by simp;omega
  rw [e,pT l k (by omega) (by omega)]
  unfold tell
  simp only
  rw [ll,eU hx]
  by_cases g:32<k-(k-32)+1
  ·rw [if_pos g]
   have e1:u64 (((k-32:Nat):Int)+1)=((k+1-32:Nat):Int):=by unfold u64;omega
   have e2:((l.take k).drop (k-32)++[x]).drop 1=(l.take k++[x]).drop (k+1-32):=by
    rw [List.drop_append_of_le_length (by simp;omega),List.drop_append_of_le_length (by simp;omega),List.drop_drop]
    congr 2;omega
   rw [e1,e2]
  rw [if_neg g]
  have e1:k-32=0:=by omega
  have e2:k+1-32=0:=by omega
  rw [e1,e2];simp
theorem K2 {l:List bU} {k:Nat} {x:bU} (hx:l[k]?=some x):fK l (k+1)=tell (fK l k) x:=by unfold fK;rw [eU hx,List.foldl_append];rfl
theorem pU {first f:Int} {d:Nat} (h0:0≤first) (hf:0≤f) (hd:d=(f-first).toNat):∀(L:List bU) (k:Nat) (acc:List bU) (nx:Int),first+k+L.length<18446744073709551616→
 wg first f L k (acc,nx)=(acc++(L.drop (d-k)).take (8-acc.length),if (L.drop (d-k)).take (8-acc.length)=[] then nx else first+(max k d:Nat)+((L.drop (d-k)).take (8-acc.length)).length)
 |[],k,acc,nx,_=>by simp [wg]
 |n::L,k,acc,nx,h=>by
  simp only [List.length_cons] at h
  have e1:u64 (first+k)=first+k:=by unfold u64;omega
  have e2:u64 (first+k+1)=first+k+1:=by unfold u64;omega
  unfold wg
  rw [e1,e2]
  by_cases g:f≤first+k
  ·have dk:d-k=0:=by omega
   by_cases g2:acc.length<8
   ·rw [if_pos (by simp [g,g2]),pU h0 hf hd L (k+1) _ _ (by omega)]
    have d1:d-(k+1)=0:=by omega
    have el:8-acc.length=(8-(acc++[n]).length)+1:=by simp;omega
    rw [dk,d1,el]
    simp only [List.drop_zero,List.take_succ_cons,List.length_cons,reduceCtorEq,if_false]
    have m1:max (k+1) d=k+1:=by omega
    have m2:max k d=k:=by omega
    rw [m1,m2]
    generalize L.take (8-(acc++[n]).length)=m
    refine Prod.ext (by simp) ?_
    simp only
    by_cases hm:m=[]
    ·subst hm;simp
    rw [if_neg hm];omega
   rw [if_neg (by simp [g2]),pU h0 hf hd L (k+1) _ _ (by omega)]
   rw [show 8-acc.length=0 by omega];simp
  rw [if_neg (by simp [g]),pU h0 hf hd L (k+1) _ _ (by omega)]
  have dk:d-k=(d-(k+1))+1:=by omega
  have m1:max (k+1) d=max k d:=by omega
  rw [dk,List.drop_succ_cons,m1]
theorem BN {first f:Int} {L:List bU} (h0:0≤first) (hf:0≤f) (h:first+L.length<18446744073709551616):
 tU ⟨first,L⟩ f=((L.drop (f-first).toNat).take 8,if (L.drop (f-first).toNat).take 8=[] then max f first else first+(f-first).toNat+((L.drop (f-first).toNat).take 8).length):=by
 unfold tU
 simp only
 rw [pU h0 hf rfl L 0 [] _ (by simpa using h)]
 simp
def dx (n i:Nat):Nat:=min n (n-32+8*i)
def kg (n i:Nat):Nat:=if i=0 then 0 else dx n i
theorem N2 {l:List bU} {n:Nat} (hn:n≤l.length) (h60:n<1000000) (i:Nat):
 tU (fK l n) (kg n i)=(((l.take n).drop (dx n i)).take 8,((kg n (i+1):Nat):Int)):=by
 rw [pT l n hn h60,BN (by omega) (by omega) (by simp;omega)]
 have e1:n-32+(((kg n i:Nat):Int)-((n-32:Nat):Int)).toNat=dx n i:=by unfold kg dx;split<;>omega
 rw [List.drop_drop,e1]
 refine Prod.ext rfl ?_
 simp only
 have hl:(((l.take n).drop (dx n i)).take 8).length=dx n (i+1)-dx n i:=by
  simp only [List.length_take,List.length_drop];unfold dx;omega
 have hle:dx n i≤dx n (i+1):=by unfold dx;omega
 have ha:kg n (i+1)=dx n (i+1):=by unfold kg;simp
 rw [ha]
 split
 ·rename_i g
  rw [g] at hl
  simp only [List.length_nil] at hl
  unfold kg
  by_cases i0:i=0
  ·subst i0;unfold dx at*;simp;omega
  rw [if_neg i0];unfold dx at*;omega
 rw [hl];omega
theorem Rg (n:Nat):dx n 9=n∧kg n 9=n:=by unfold kg dx;simp;omega
theorem N3 {l:List bU} {n:Nat} (hn:n≤l.length) (h60:n<1000000) {f:Int} (hf:(n:Int)≤f):tU (fK l n) f=([],f):=by
 rw [pT l n hn h60,BN (by omega) (by omega) (by simp;omega)]
 have e:(((l.take n).drop (n-32)).drop (f-((n-32:Nat):Int)).toNat)=[]:=by
  rw [List.drop_drop,List.drop_eq_nil_of_le];simp;omega
 rw [e];simp;omega
theorem Uo {l:List bU} {n i z:Nat} (hn:n≤l.length) (hz:z<(((l.take n).drop (dx n i)).take 8).length):(((l.take n).drop (dx n i)).take 8)[z]?=l[dx n i+z]?∧dx n i+z<n:=by
 simp only [List.length_take,List.length_drop] at hz
 refine ⟨?_,by omega⟩
 rw [List.getElem?_take,if_pos (by omega),List.getElem?_drop,List.getElem?_take,if_pos (by omega)]
theorem Rh {l:List bU} {n i:Nat} (hn:n≤l.length):(((l.take n).drop (dx n i)).take 8).length=min 8 (n-dx n i):=by
 simp only [List.length_take,List.length_drop];omega
theorem K3 {n i:Nat}:dx n (i+1)=dx n i+min 8 (n-dx n i):=by unfold dx;omega
end Dem
end
section
open Go Dem Go.Proofs
namespace Dem
variable {t:Th}
theorem Is (ht:TT t) (s:aD) {z:Int} (hz:z=47):FC 242 [ST s,.d (.int .u8 z)] [] (.ret (kR (t _ fun _=>(s.count 47:Nat)))) []:=by
 subst hz
 refine fcX Tryz.func242 (by kernel_rfl) (by kernel_rfl) (by kernel_rfl) (e:=Extern.BytealgCount.count) (by kernel_rfl) ?_
 intro β w vs ok h
 simp only [aj,ah,aK] at h
 obtain ⟨_,_,rfl,rfl,_,_,rfl,rfl,rfl⟩:=h
 refine ⟨_,Lib.run_countString _ _ _,?_⟩
 simp [kR,ah,aK,Lib.countByte,ht]
theorem zR (ht:TT t) (s:aD) {z:Int} (hz:z=47):FC 249 [ST s,.d (.int .u8 z)] [] (.ret (kR (t _ fun _=>Lib.indexByte s 47))) []:=by
 subst hz
 refine fcX Tryz.func249 (by kernel_rfl) (by kernel_rfl) (by kernel_rfl) (e:=Extern.BytealgIndexByte.indexByte) (by kernel_rfl) ?_
 intro β w vs ok h
 simp only [aj,ah,aK] at h
 obtain ⟨_,_,rfl,rfl,_,_,rfl,rfl,rfl⟩:=h
 refine ⟨_,Lib.run_indexByteString _ _ _,?_⟩
 simp [kR,ah,aK,ht]
theorem Ri (ht:TT t) (s:aD):FC 235 [ST s,ST [47]] [] (.ret (kR (t _ fun _=>(s.count 47:Nat)))) []:=by
 refine bC ht (aE:=[]) Tryz.func235 (c:=_) rfl rfl (N:=34) rfl (rs:=_) rfl (n:=0) rfl rfl ?_
 cbv
 refine ai (fun h0=>?_) (fun h0=>?_)
 ·simp [ht] at h0
 simp [ht] at h0
 cbv
 refine ai (fun h1=>?_) (fun h1=>?_)
 ·simp [ht] at h1
  cbv
  refine ⟨?_,?_⟩
  ·(simp [ht];done)
  cbv
  refine ay trivial (Is ht _ (jH ht rfl)) trivial rfl rfl (fun r2 cP=>?_)
  simp only [ht] at cP
  cbv
  refine an trivial trivial rfl rfl rfl ?_
  (simp [*];done)
 simp [ht] at h1
theorem Fx (ht:TT t) (s:aD) {z:Int} (hz:z=47):FC 245 [ST s,.d (.int .u8 z)] [] (.ret (kR (t _ fun _=>Lib.indexByte s 47))) []:=by
 refine bC ht (aE:=[]) Tryz.func245 (c:=_) rfl rfl (N:=8) rfl (rs:=_) rfl (n:=0) rfl rfl ?_
 cbv
 refine ay trivial (zR ht _ (by assumption)) trivial rfl rfl (fun r0 bE=>?_)
 simp only [ht] at bE
 cbv
 refine an trivial trivial rfl rfl rfl ?_
 (simp [*];done)
theorem K4 (ht:TT t) (s:aD):FC 243 [ST s,ST [47]] [] (.ret (kR (t _ fun _=>Lib.indexByte s 47))) []:=by
 refine bC ht (aE:=[]) Tryz.func243 (c:=_) rfl rfl (N:=143) rfl (rs:=_) rfl (n:=0) rfl rfl ?_
 cbv
 iterate 3 refine gI (by simp [ht]) ?_
 refine pI (by simp [ht]) ?_
 refine ai (fun h0=>?_) (fun h0=>?_)
 ·simp [ht] at h0
  cbv
  refine an trivial trivial rfl rfl rfl ?_
  (subst h0;(try simp only [ht]);rfl)
 simp [ht] at h0
 cbv
 refine ai (fun h1=>?_) (fun h1=>?_)
 ·simp [ht] at h1
  cbv
  refine ⟨?_,?_⟩
  ·(simp [ht];done)
  cbv
  refine ay trivial (Fx ht _ (jH ht rfl)) trivial rfl rfl (fun r2 cP=>?_)
  simp only [ht] at cP
  cbv
  refine an trivial trivial rfl rfl rfl ?_
  (simp [*];done)
 simp [ht] at h1
theorem Rj (ht:TT t) (s:aD):FC 236 [ST s,ST [47]] [] (.ret (kR (t _ fun _=>Lib.indexByte s 47))) []:=by
 refine bC ht (aE:=[]) Tryz.func236 (c:=_) rfl rfl (N:=8) rfl (rs:=_) rfl (n:=0) rfl rfl ?_
 cbv
 refine ay trivial (K4 ht _) trivial rfl rfl (fun r0 bE=>?_)
 simp only [ht] at bE
 cbv
 refine an trivial trivial rfl rfl rfl ?_
 (simp [*];done)
theorem Xf {pre:List aD} {m k:Nat} {x:aD} {u:List (List D)} (h:pre.length=k) (hk:k≤m) (hu:u=(pre++List.replicate (m+1-k) []).map aT):
 u.set k (bF (u.getD k []) 0 [D.str x])=((pre++[x])++List.replicate (m-k) []).map aT:=by
 obtain ⟨d,rfl⟩:∃d,m=k+d:=⟨m-k,by omega⟩
 have e:k+d+1-k=d+1:=by omega
 rw [hu,e,Nat.add_sub_cancel_left,List.replicate_succ]
 simp [bF,←h,aT]
theorem Rk {pre:List aD} {m k:Nat} {x:aD} {V:List (List D)} (hV:V=((pre++[x])++List.replicate (m-k) []).map aT) (h:pre.length=k) (hk:k≤m) (hm:m<1000000000001):
 m+1=V.length∧(bS V.length none (some (IntKind.i64.wrap ((k:Int)+1)))∧∀r∈V,r.length=1)∧gr V none (some (IntKind.i64.wrap ((k:Int)+1)))=(pre++[x]).map aT:=by
 have e:IntKind.i64.wrap ((k:Int)+1)=((k+1:Nat):Int):=by rw [wrap64 (by omega) (by omega)];omega
 have hl:V.length=m+1:=by rw [hV];simp [h];omega
 refine ⟨hl.symm,⟨?_,?_⟩,?_⟩
 ·rw [e,hl];simp only [bS];omega
 ·intro r hr;rw [hV] at hr;obtain ⟨y,_,rfl⟩:=List.mem_map.1 hr;rfl
 rw [e,hV];simp only [gr,Int.toNat_natCast];rw [List.map_append,List.take_append_of_le_length (by simp [h]),List.take_of_length_le (by simp [h])]
theorem Iu (ht:TT t) (s:aD) (hs:s.length<1000000000000):FC 221 [ST s,ST [47],bq 0,bq (-1)] [] (.ret (HX t (t _ fun _=>bP 47 s))) []:=by
 obtain ⟨m,hm⟩:∃m,m=s.count 47:=⟨_,rfl⟩
 have Tl:m≤s.length:=by rw [hm];exact List.count_le_length
 have hmin:∀r:Int,r=(m:Nat)→min (IntKind.i64.wrap (r+1)) (IntKind.i64.wrap ((s.length:Int)+1))=((m+1:Nat):Int):=fun r hr=>by rw [hr,wrap64 (by omega) (by omega),wrap64 (by omega) (by omega)];omega
 have hmv:IntKind.i64.wrap (m:Int)=(m:Int):=wrap64 (by omega) (by omega)
 have Up:IntKind.i64.wrap (((m+1:Nat):Int)-1)=(m:Int):=by rw [wrap64 (by omega) (by omega)];omega
 refine bC ht (aE:=[]) Tryz.func221 (c:=_) rfl rfl (N:=66) rfl (rs:=_) rfl (n:=0) rfl rfl ?_
 cbv
 refine ai (fun h0=>?_) (fun h0=>?_)
 ·simp [ht] at h0
 simp [ht] at h0
 cbv
 refine ai (fun h1=>?_) (fun h1=>?_)
 ·simp [ht] at h1
 simp [ht] at h1
 cbv
 refine ai (fun h2=>?_) (fun h2=>?_)
 ·simp [ht] at h2
  cbv
  refine ay trivial (Ri ht _) trivial rfl rfl (fun r3 gH=>?_)
  simp only [ht] at gH
  (rw [←hm] at gH;replace hmin:=hmin _ gH)
  cbv
  refine ⟨?_,?_⟩
  ·(simp only [ht,aa];grind)
  cbv
  obtain ⟨J4,Gh⟩:∃J4:Nat→List UInt8×Int×List (List D)→Prop,∀n s2 i u,J4 n (s2,i,u)↔(∃(k:Nat) (pre:List aD),i=k∧pre.length=k∧bP 47 s=pre++bP 47 s2∧k+s2.count 47=m∧k+n=m∧u=(pre++List.replicate (m+1-k) []).map aT∧s2.length≤s.length):=⟨fun n v=>match v with|(s2,i,u)=>(∃(k:Nat) (pre:List aD),i=k∧pre.length=k∧bP 47 s=pre++bP 47 s2∧k+s2.count 47=m∧k+n=m∧u=(pre++List.replicate (m+1-k) []).map aT∧s2.length≤s.length),fun _ _ _ _=>Iff.rfl⟩
  refine aZ ⟨[0,1,2,3,9,10],[],[]⟩ (σ:=List UInt8×Int×List (List D)) (fun v=>[(0,.d (.str (t _ fun _=>v.1))),(10,.d (.int .i64 (t _ fun _=>v.2.1)))]) (fun v=>[(0,.row 1 (t _ fun _=>v.2.2))]) J4 ?_
  cbv
  refine aA ⟨m,(_,_,_),(Gh _ _ _ _).2 ?_,by simp only [ht];rfl,?_⟩
  ·exact ⟨0,[],rfl,rfl,rfl,by omega,by omega,by simp only [hmin];simp,by omega⟩
  rintro n ⟨s2,i,u⟩ hj
  replace hj:=(Gh _ _ _ _).1 hj
  obtain ⟨k,pre,rfl,j1,j2,j3,j4,j5,j6⟩:=hj
  have Xg:=fun x=>Xf (x:=x) j1 (show k≤m by omega) j5
  cbv
  refine ai (fun h5=>?_) (fun h5=>?_)
  ·simp [ht,aa,hmin,hmv] at h5
   cbv
   refine ay trivial (Rj ht _) trivial rfl rfl (fun r6 gv=>?_)
   simp only [ht] at gv
   cbv
   refine ai (fun h7=>?_) (fun h7=>?_)
   ·simp [ht] at h7
    cbv
    refine ⟨?_,?_⟩
    ·(exfalso;have q:=Fl gv h7;omega)
    refine ⟨?_,?_⟩
    ·(exfalso;have q:=Fl gv h7;omega)
    refine ⟨?_,?_⟩
    ·(exfalso;have q:=Fl gv h7;omega)
    cbv
    refine an trivial trivial rfl rfl rfl ?_
    (exfalso;have q:=Fl gv h7;omega)
   simp [ht] at h7
   cbv
   refine ⟨?_,?_⟩
   ·(obtain ⟨j,e1,e2,e3,e4⟩:=Fm gv h7;simp only [ht,e1];simp [bS];rw [wrap64 (by omega) (by omega)];omega)
   refine ⟨?_,?_⟩
   ·(simp only [ht,aa] at*;omega)
   refine ⟨?_,?_⟩
   ·(simp only [ht,aa];grind)
   refine ⟨?_,?_⟩
   ·(obtain ⟨j,e1,e2,e3,e4⟩:=Fm gv h7;simp only [ht,e1];simp [bS];rw [wrap64 (by omega) (by omega)];omega)
   cbv
   refine bf (_,_,_) (by simp only [ht];rfl) (n-1) ?_ ((Gh _ _ _ _).2 ?_)
   ·omega
   simp only [aa]
   (obtain ⟨j,e1,e2,e3,e4⟩:=Fm gv h7;subst e1;have ew:IntKind.i64.wrap ((j:Int)+([47]:aD).length)=((j+1:Nat):Int):=(by simp;rw [wrap64 (by omega) (by omega)]);have ez:IntKind.i64.wrap ((j:Int)+0)=(j:Nat):=(by rw [wrap64 (by omega) (by omega)];omega);rw [ew,ez];simp only [gr,Int.toNat_natCast];exact ⟨k+1,pre++[s2.take j],aC (by ((try simp only [aa] at*);omega)),by simp [j1],by rw [j2,e3];simp,by ((try simp only [aa] at*);omega),by ((try simp only [aa] at*);omega),by rw [Xg];simp,by simp;omega⟩)
  simp [ht,aa,hmin,hmv] at h5
  cbv
  refine ⟨?_,?_⟩
  ·(simp only [ht,aa] at*;omega)
  refine ⟨?_,?_⟩
  ·(simp only [ht,aa];grind)
  refine ⟨?_,?_⟩
  ·(have q:=Rk (Xg s2) j1 (by omega) (by omega);simp only [ht,Int.toNat_natCast,hmin];exact ⟨q.1,q.2.1⟩)
  cbv
  refine an trivial trivial rfl rfl rfl ?_
  (have q:=Rk (Xg s2) j1 (by omega) (by omega);simp only [ht,Int.toNat_natCast];rw [q.2.2,j2,BH (by omega)])
 simp [ht] at h2
theorem Rl (ht:TT t) (s:aD) (hs:s.length<1000000000000):FC 198 [ST s,ST [47]] [] (.ret (HX t (t _ fun _=>bP 47 s))) []:=by
 refine bC ht (aE:=[]) Tryz.func198 (c:=_) rfl rfl (N:=8) rfl (rs:=_) rfl (n:=0) rfl rfl ?_
 cbv
 refine aS trivial (Iu ht _ (by assumption)) trivial rfl rfl rfl (fun r0 bE=>?_)
 simp only [ht] at bE
 cbv
 refine an trivial trivial rfl rfl rfl ?_
 (simp [*];done)
end Dem
end
