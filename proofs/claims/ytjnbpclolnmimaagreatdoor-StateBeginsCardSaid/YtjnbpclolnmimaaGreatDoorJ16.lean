/- Parts of a proof, joined. -/
import Derived.Test.YtjnbpclolnmimaaGreatDoorJ15
import Derived.Shelf.Strings.OnBuilder
import Derived.Test.YtjnbpclolnmimaaGreatDoorProg
set_option linter.unusedSimpArgs false
set_option linter.unusedVariables false
set_option maxRecDepth 100000
set_option maxHeartbeats 4000000
section
open Go Dem Go.Proofs
namespace Dem
variable {t:Th}
theorem Rd (ht:TT t) (s:aD) (hs:s.length<9223372036854775807) {r:Int} (hr:r=rN s):FC 151 [ST s] [] (.ret (bq r)) []:=by
 refine bC ht (aE:=[]) Tryz.func151 (c:=_) rfl rfl (N:=5) rfl (rs:=_) rfl (n:=0) rfl rfl ?_
 cbv
 refine gj trivial (Uh ht s hs hr) trivial rfl rfl ?_
 cbv
 exact an trivial trivial rfl rfl rfl rfl
theorem BK (ht:TT t) (s:aD) (hs:s.length<9223372036854775807) {r:Bool} (hr:r=dX s):FC 93 [ST s] [] (.ret (BL r)) []:=by
 obtain ⟨J,hJ⟩:∃J:Nat→Nat→Prop,∀n v,J n v↔(s.length≤v+n∧(DN s).all WV=(iA s n v).all WV):=⟨fun n v=>s.length≤v+n∧(DN s).all WV=(iA s n v).all WV,fun _ _=>Iff.rfl⟩
 refine bC ht (aE:=[]) Tryz.func93 (c:=_) rfl rfl (N:=32) rfl (rs:=_) rfl (n:=0) rfl rfl ?_
 cbv
 refine aZ ⟨[0,2,6],[],[]⟩ (σ:=Nat) (fun _=>[]) (fun v=>[(0,.it s (t _ fun _=>v))]) J ?_
 cbv
 refine aA ⟨s.length,0,(hJ _ _).2 ⟨by simp,by simp [DN]⟩,by simp only [ht];rfl,?_⟩
 rintro n pos hj
 obtain ⟨hf,hj⟩:=(hJ _ _).1 hj
 cbv
 refine ⟨fun hp=>?_,fun hp=>?_⟩
 ·simp only [ht] at hp hj hf
  cases n with
  |zero=>exfalso;omega
  |succ n=>
  rw [iA,if_pos hp] at hj
  obtain ⟨b1,qK⟩:∃b,b=HW (dec s pos).1 Fg:=⟨_,rfl⟩
  obtain ⟨b2,CL⟩:∃b,b=HW (dec s pos).1 marks:=⟨_,rfl⟩
  cbv
  refine mS rfl ?_
  cbv
  refine gj trivial (MP ht _ Fg rfl (by decide) (r:=b1) (by simp only [ht,aa];exact qK)) trivial rfl rfl ?_
  cbv
  repeat (refine gI (by (simp [ht];done)) ?_)
  refine HL (fun hg=>⟨by simp [ht] at hg ⊢;exact hg,trivial,MP ht _ marks rfl (by decide) (r:=b2) (by simp only [ht,aa];exact CL)⟩) rfl rfl ?_
  cbv
  repeat (first|refine gI (by first|(simp [ht,ak];done)|(simp [ht,ak];intros;simp_all;done)) ?_|refine pI (by (simp [ht];done)) ?_)
  obtain ⟨b,hb⟩:∃b,b=(!b1&&(decide (pos=0)||!b2)):=⟨_,rfl⟩
  have hw:WV (pos,(dec s pos).1)=!b:=by
   simp only [WV,←qK,←CL,hb];cases b1<;>cases b2<;>simp
  refine ai (fun hc=>?_) (fun hc=>?_)
  ·have hbt:b=true:=by rw [hb];simp [ht,aa] at hc;revert hc;cases b1<;>cases b2<;>simp
   cbv
   refine an trivial trivial rfl rfl rfl ?_
   simp only [List.all_cons,hw,hbt] at hj
   simp [hr,dX,hj]
  have hbf:b=false:=by rw [hb];simp [ht,aa] at hc;revert hc;cases b1<;>cases b2<;>simp
  cbv
  have hd:=MD s pos hp
  refine aA ⟨n,pos+(dec s pos).2,⟨by omega,(hJ _ _).2 ⟨by omega,?_⟩⟩,?_⟩
  ·rw [hj,List.all_cons,hw,hbf];rfl
  simp only [ht];rfl
 simp only [ht] at hp hj
 have e:iA s n pos=[]:=by cases n with
  |zero=>rfl
  |succ n=>rw [iA,if_neg hp]
 rw [e] at hj
 obtain ⟨k,hk⟩:∃k:Int,k=rN s:=⟨_,rfl⟩
 cbv
 refine qj rfl ?_
 cbv
 repeat (refine gI (by (simp [ht];done)) ?_)
 refine HL (fun hg=>⟨by simp [ht] at hg ⊢;exact hg,trivial,Rd ht s hs hk⟩) rfl rfl ?_
 cbv
 repeat (first|refine gI (by (simp [ht];done)) ?_|refine pI (by (simp [ht];done)) ?_)
 refine an trivial trivial rfl rfl rfl ?_
 simp only [List.all_nil] at hj
 simp only [ht,aa,hr,dX,hj,hk,Bool.true_and]
 simp
 congr 1
 rw [decide_eq_decide];omega
theorem Re (ht:TT t) (l:List bT) (hl:l.length<9223372036854775807) (fR:∀p∈l,p.sm) {es:List (List D)} (aF:es=l.map bT.cells) {r:Bool} (hr:r=pN l):FC 94 [SL es] [] (.ret (BL r)) []:=by
 have hel:es.length=l.length:=by rw [aF,lgM]
 obtain ⟨J,hJ⟩:∃J:Nat→Nat→Prop,∀n v,J n v↔(v+n=l.length∧iY none l=iY (lY l v) (l.drop v)):=⟨fun n v=>v+n=l.length∧iY none l=iY (lY l v) (l.drop v),fun _ _=>Iff.rfl⟩
 refine bC ht (aE:=[]) Tryz.func94 (c:=_) rfl rfl (N:=41) rfl (rs:=_) rfl (n:=0) rfl rfl ?_
 cbv
 refine aZ ⟨[0,2,5,6,7],[],[]⟩ (σ:=Nat) (fun k=>[(7,bq (t _ fun _=>(k:Int)))]) (fun _=>[]) J ?_
 cbv
 refine aA ⟨l.length,0,(hJ _ _).2 ⟨by simp,by simp [lY]⟩,by simp only [ht];rfl,?_⟩
 rintro n k hj
 obtain ⟨h2,h3⟩:=(hJ _ _).1 hj
 clear hj
 cbv
 refine ai (fun h=>?_) (fun h=>?_)
 ·simp only [ht,aa,decide_eq_true_eq] at h
  have hk:k<l.length:=by omega
  obtain ⟨⟨ky,vl⟩,hx⟩:∃x,l[k]?=some x:=⟨l[k],by simp⟩
  obtain ⟨sk,sv⟩:=fR _ (List.mem_of_getElem? hx)
  obtain ⟨b1,qK⟩:∃b,b=dX ky:=⟨_,rfl⟩
  obtain ⟨b2,CL⟩:∃b,b=dX vl:=⟨_,rfl⟩
  cbv
  refine gS [.str ky,.str vl] ?_ ?_ ?_
  ·simp only [ht,aa];refine ⟨by omega,h,?_⟩;rw [aF];intro r hr;obtain ⟨y,_,rfl⟩:=List.mem_map.1 hr;rfl
  ·simp [ht,aa,aF,hx]
  cbv
  refine bJ [true,true,true,true,true,true,true,true,true,true,true,true,true,true,false,false,false,false,false,false,false,false,true,true,true] (by kernel_rfl) (by kernel_rfl) ?_
  cbv
  refine gj trivial (BK ht ky sk qK) trivial rfl rfl ?_
  cbv
  repeat (refine gI (by (simp [ht];done)) ?_)
  refine HL (fun hg=>⟨by simp [ht] at hg ⊢;exact hg,trivial,BK ht vl sv CL⟩) rfl rfl ?_
  cbv
  obtain ⟨⟨qk,qv⟩,hq⟩:∃q:bT,k≠0→l[k-1]?=some q:=by
   by_cases h0:k=0
   ·exact ⟨⟨[],[]⟩,fun h=>absurd h0 h⟩
   exact ⟨l[k-1],fun _=>by simp⟩
  repeat (first|refine gI (by (simp [ht];done)) ?_|refine pI (by (simp [ht];done)) ?_)
  refine QK [.str qk,.str qv] ?_ ?_
  ·intro hg
   simp [ht,aa] at hg
   have h0:k≠0:=by omega
   have hw:IntKind.i64.wrap ((k:Int)-1)=((k-1:Nat):Int):=by rw [wrap64 (by omega) (by omega)];omega
   refine ⟨⟨?_,?_⟩,?_⟩
   ·simp [ht,aa];omega
   ·simp only [ht,aa,hw]
    refine ⟨by omega,by omega,?_⟩
    rw [aF];intro r hr;obtain ⟨y,_,rfl⟩:=List.mem_map.1 hr;rfl
   simp [ht,aa,hw,aF,hq h0]
  cbv
  repeat (first|refine gI (by first|(simp [ht,ak];done)|(simp [ht,ak];intros;simp_all;done)) ?_|refine pI (by (simp [ht];done)) ?_)
  obtain ⟨b,hb⟩:∃b,b=(!b1||!b2||(decide (0<k)&&sle ky qk)):=⟨_,rfl⟩
  have hstep:iY (lY l k) (l.drop k)=(!b&&iY (lY l (k+1)) (l.drop (k+1))):=by
   have e1:l.drop k=⟨ky,vl⟩::l.drop (k+1):=by
    rw [List.drop_eq_getElem_cons hk];congr 1
    rw [List.getElem?_eq_getElem hk] at hx;exact Option.some.inj hx
   have e2:lY l (k+1)=some ky:=by simp [lY,hx]
   rw [e1,e2]
   cases k with
   |zero=>simp [iY,lY,←qK,←CL,hb]
   |succ k=>
    have:=hq (by omega)
    simp only [Nat.add_sub_cancel] at this
    simp [iY,lY,this,←qK,←CL,hb]
  refine ai (fun hc=>?_) (fun hc=>?_)
  ·have hbt:b=true:=by rw [hb];simp [ht,aa,sle] at hc ⊢;revert hc;cases b1<;>cases b2<;>simp
   cbv
   refine an trivial trivial rfl rfl rfl ?_
   rw [hr,pN,h3,hstep,hbt];rfl
  have hbf:b=false:=by rw [hb];simp [ht,aa,sle] at hc ⊢;revert hc;cases b1<;>cases b2<;>simp
  cbv
  refine aA ⟨n-1,k+1,⟨by omega,(hJ _ _).2 ⟨by omega,?_⟩⟩,?_⟩
  ·rw [h3,hstep,hbf];rfl
  simp only [ht,aa,aC (show k<9223372036854775807 by omega)];rfl
 simp only [ht,aa,decide_eq_false_iff_not] at h
 have hk:k=l.length:=by omega
 clear h
 cbv
 refine an trivial trivial rfl rfl rfl ?_
 simp only [ht,aa,hel,hr,pN,h3,hk,List.drop_length,iY,Bool.true_and]
 simp
 omega
theorem Io (ht:TT t) (nm Vw:aD) (a b c d a' b' c' d':Int) {lb lb':List bT} {lr JH:List (List D)} (hlr:lr=lb.map bT.cells) (pS:JH=lb'.map bT.cells) (up Yl:Bool) (hl:lb.length<1000000000) (hl':lb'.length<1000000000):
 FC 70 [.agg [ST nm,az a,az b,az c,az d,SL lr,BL up],.agg [ST Vw,az a',az b',az c',az d',SL JH,BL Yl]] [] (.ret (bY (t _ fun _=>decide ((⟨nm,⟨a,b,c,d⟩,lb,up⟩:Node)=⟨Vw,⟨a',b',c',d'⟩,lb',Yl⟩)))) []:=by
 refine bC ht (aE:=[]) Tryz.func70 (c:=_) rfl rfl (N:=31) rfl (rs:=_) rfl (n:=0) rfl rfl ?_
 cbv
 have KZ:lr.length=lb.length:=by rw [hlr,lgM]
 have aaq:JH.length=lb'.length:=by rw [pS,lgM]
 iterate 5 refine gI (by simp [ht]) ?_
 refine pI (by simp [ht]) ?_
 iterate 5 refine gI (by simp [ht]) ?_
 refine pI (by simp [ht]) ?_
 iterate 4 refine gI (by simp [ht]) ?_
 refine aM (fun g0=>⟨by simp [ht] at g0 ⊢;exact g0,trivial,NW ht (by assumption) (by assumption) (by assumption) (by assumption)⟩) rfl rfl (fun r1 cX=>?_)
 simp only [ht] at cX
 cbv
 refine pI (by simp [ht]) ?_
 refine an trivial trivial rfl rfl rfl ?_
 (simp [*];grind)
theorem N0 (ht:TT t) {l m:List Node} {es fs:List (List D)} (aF:es=l.map Node.cells) (qL:fs=m.map Node.cells) (hl:l.length<1000000000) (hm:m.length<1000000000) (hls:∀x∈l,x.labels.length<1000000000) (Tl:∀x∈m,x.labels.length<1000000000):
 FC 69 [SL es,SL fs,.fn 70 []] [] (.ret (bY (t _ fun _=>decide (l=m)))) []:=by
 refine bC ht (aE:=[]) Tryz.func69 (c:=_) rfl rfl (N:=32) rfl (rs:=_) rfl (n:=0) rfl rfl ?_
 cbv
 have ar:es.length=l.length:=by rw [aF,lgM]
 have cD:fs.length=m.length:=by rw [qL,lgM]
 refine ai (fun h0=>?_) (fun h0=>?_)
 ·simp [ht,aa,ar,cD] at h0
  cbv
  refine an trivial trivial rfl rfl rfl ?_
  (simp [ht];rintro rfl;simp_all;done)
 simp [ht,aa,ar,cD] at h0
 cbv
 obtain ⟨J1,fe⟩:∃J1:Nat→Int→Prop,∀n i,J1 n i↔(∃k:Nat,i=k∧k+n=l.length∧l.length=m.length∧decide (l=m)=decide (l.drop k=m.drop k)):=⟨fun n v=>match v with|i=>(∃k:Nat,i=k∧k+n=l.length∧l.length=m.length∧decide (l=m)=decide (l.drop k=m.drop k)),fun _ _=>Iff.rfl⟩
 refine aZ ⟨[1,2,15,16,17],[],[]⟩ (σ:=Int) (fun v=>[(17,.d (.int .i64 (t _ fun _=>v)))]) (fun v=>[]) J1 ?_
 cbv
 refine aA ⟨l.length,_,(fe _ _).2 ?_,by simp only [ht];rfl,?_⟩
 ·(simp only [aa];grind)
 rintro n i hj
 replace hj:=(fe _ _).1 hj
 obtain ⟨k,rfl,j1,j2,j4⟩:=hj
 cbv
 refine ai (fun h2=>?_) (fun h2=>?_)
 ·simp [ht,aa,ar] at h2
  cbv
  refine dg ht aF (cT:=Node.aH t) (by (simp only [ht,aa];omega)) (by (simp only [ht,aa];omega)) (fun _=>rfl) (fun _=>(by (simp only [ht,Node.aH];done))) (fun x3 ke=>?_)
  simp [ht,aa] at ke
  rw [bO ke] at j4
  have sx3:=hls _ (List.mem_of_getElem? ke)
  cbv
  refine dg ht qL (cT:=Node.aH t) (by (simp only [ht,aa];omega)) (by (simp only [ht,aa];omega)) (fun _=>rfl) (fun _=>(by (simp only [ht,Node.aH];done))) (fun x4 qt=>?_)
  simp [ht,aa] at qt
  rw [bO qt] at j4
  have sx4:=Tl _ (List.mem_of_getElem? qt)
  cbv
  refine ay trivial (Io ht _ _ _ _ _ _ _ _ _ _ (jH ht rfl) (jH ht rfl) _ _ (by assumption) (by assumption)) trivial rfl rfl (fun r5 jA=>?_)
  simp only [ht] at jA
  cbv
  refine ai (fun h6=>?_) (fun h6=>?_)
  ·simp [ht] at h6
   cbv
   refine an trivial trivial rfl rfl rfl ?_
   (simp [ht];rintro rfl;simp_all;done)
  simp [ht] at h6
  cbv
  refine bf _ rfl (n-1) ?_ ((fe _ _).2 ?_)
  ·omega
  simp only [ht,aa]
  refine ⟨k+1,aC (by omega),by omega,by omega,?_⟩
  (simp_all [TO,nT];done)
 simp [ht,aa,ar] at h2
 cbv
 refine an trivial trivial rfl rfl rfl ?_
 (simp [ht,j4,List.drop_eq_nil_of_le (show l.length≤k by omega),List.drop_eq_nil_of_le (show m.length≤k by omega)];done)
theorem Ui (ht:TT t) {l l':List Node} {ps ps':List Place} {es es' qs Xa:List (List D)} (aF:es=l.map Node.cells) (KU:es'=l'.map Node.cells) (fq:qs=ps.map Place.cells) (Xb:Xa=ps'.map Place.cells)
 (hl:l.length<1000000000) (hl':l'.length<1000000000) (nQ:ps.length<1000000000) (aeR:ps'.length<1000000000) (hls:∀x∈l,x.labels.length<1000000000) (abL:∀x∈l',x.labels.length<1000000000):
 FC 23 [.agg [SL es,SL qs],.agg [SL es',SL Xa]] [] (.ret (bY (t _ fun _=>decide (l=l'∧ps=ps')))) []:=by
 refine bC ht (aE:=[]) Tryz.func23 (c:=_) rfl rfl (N:=17) rfl (rs:=_) rfl (n:=0) rfl rfl ?_
 cbv
 have ar:es.length=l.length:=by rw [aF,lgM]
 have Uj:es'.length=l'.length:=by rw [KU,lgM]
 have dM:qs.length=ps.length:=by rw [fq,lgM]
 have Uk:Xa.length=ps'.length:=by rw [Xb,lgM]
 refine ay trivial (N0 ht (by assumption) (by assumption) (by assumption) (by assumption) (by assumption) (by assumption)) trivial rfl rfl (fun r0 bE=>?_)
 simp only [ht] at bE
 cbv
 iterate 4 refine gI (by simp) ?_
 refine aM (fun g1=>⟨by simp at g1 ⊢;exact g1,trivial,KY ht (by assumption) (by assumption) (by assumption) (by assumption)⟩) rfl rfl (fun r2 cP=>?_)
 simp only [ht] at cP
 cbv
 refine pI (by simp) ?_
 refine an trivial trivial rfl rfl rfl ?_
 (simp [*];done)
theorem oK (ht:TT t) (s:aD) (hs:s.length<9223372036854775807):FC 93 [ST s] [] (.ret (bY (t _ fun _=>dX s))) []:=by
 simp only [ht];exact BK ht s hs rfl
theorem sU (ht:TT t) {l:List bT} {es:List (List D)} (aF:es=l.map bT.cells) (hl:l.length<1000000000) (fR:∀p∈l,p.sm):FC 94 [SL es] [] (.ret (bY (t _ fun _=>pN l))) []:=by
 simp only [ht];exact Re ht l (by omega) fR aF rfl
theorem Ul (ht:TT t) (jb:Int) (nd:aD) (v1 v2 v3 v4:Int) {l:List Node} {es qs:List (List D)} (aF:es=l.map Node.cells) (hl:l.length<1000000000) {r:Bool} (hr:r=By l ⟨jb,nd,⟨v1,v2,v3,v4⟩⟩):
 FC 103 [.agg [az jb,ST nd,az v1,az v2,az v3,az v4],.ptr 0 0] [.var [SL es,SL qs]] (.ret (BL r)) [.var [SL es,SL qs]]:=by
 refine bC ht (aE:=[.var [SL es,SL qs]]) Tryz.func103 (c:=_) rfl rfl (N:=9) rfl (rs:=_) rfl (n:=1) rfl rfl ?_
 cbv
 have ar:es.length=l.length:=by rw [aF,lgM]
 refine ay trivial (Im ht _ (by assumption) (by omega)) trivial rfl rfl (fun r0 bE=>?_)
 simp only [ht] at bE
 cbv
 refine an trivial trivial rfl rfl rfl ?_
 (simp [By,eT, *];grind)
theorem Iq (ht:TT t) (ns qs:List (List D)) {l:List (Place)} {es:List (List D)} (aF:es=l.map Place.cells) (f:Nat) (p:Place→Bool) (hl:l.length<9223372036854775807)
 (hf:∀x∈l,FC f [.agg [.d (.int .u64 x.bu),.d (.str x.node),.d (.int .u64 x.v.a),.d (.int .u64 x.v.b),.d (.int .u64 x.v.c),.d (.int .u64 x.v.d)],.ptr 0 0] [.var [SL ns,SL qs]] (.ret (BL (p x))) [.var [SL ns,SL qs]]) {r:Int} (hr:r=idxOf p l):FC 161 [SL es,.fn f [.ptr 0 0]] [.var [SL ns,SL qs]] (.ret (bq r)) [.var [SL ns,SL qs]]:=by
 have hel:es.length=l.length:=by rw [aF,lgM]
 obtain ⟨J,hJ⟩:∃J:Nat→Nat→Prop,∀n v,J n v↔(v+n=l.length∧∀i<v,∀x,l[i]?=some x→p x=false):=⟨fun n v=>v+n=l.length∧∀i<v,∀x,l[i]?=some x→p x=false,fun _ _=>Iff.rfl⟩
 refine bC ht (aE:=[.var [SL ns,SL qs]]) Tryz.func161 (c:=_) rfl rfl (N:=19) rfl (rs:=_) rfl (n:=1) rfl rfl ?_
 cbv
 refine aZ ⟨[0,1,7,8],[],[]⟩ (σ:=Nat) (fun k=>[(8,bq (t _ fun _=>(k:Int)))]) (fun _=>[]) J ?_
 cbv
 refine aA ⟨l.length,0,(hJ _ _).2 ⟨by omega,by intro i hi;simp at hi⟩,by simp only [ht];rfl,?_⟩
 rintro n k hj
 obtain ⟨h2,h3⟩:=(hJ _ _).1 hj
 clear hj
 cbv
 refine ai (fun h=>?_) (fun h=>?_)
 ·simp only [ht,aa,decide_eq_true_eq] at h
  have hk:k<l.length:=by omega
  obtain ⟨x,hx⟩:∃x,l[k]?=some x:=⟨l[k],by simp⟩
  have og:x∈l:=List.mem_of_getElem? hx
  have gY:=hf x og
  obtain ⟨px,hpx⟩:∃b,b=p x:=⟨_,rfl⟩
  rw [←hpx] at gY
  obtain ⟨jb,nd,⟨v1,v2,v3,v4⟩⟩:=x
  cbv
  refine gS [.int .u64 jb,.str nd,.int .u64 v1,.int .u64 v2,.int .u64 v3,.int .u64 v4] ?_ ?_ ?_
  ·simp only [ht,aa];refine ⟨by omega,h,?_⟩;rw [aF];intro r hr;obtain ⟨y,_,rfl⟩:=List.mem_map.1 hr;rfl
  ·simp [ht,aa,aF,hx]
  cbv
  refine dn trivial gY ?_
  cbv
  refine ai (fun hb=>?_) (fun hb=>?_)
  ·cbv
   refine an trivial trivial rfl rfl rfl ?_
   have e:=cN hx (hpx▸hb) h3
   simp only [ht,aa,hr,idxOf,e]
  cbv
  refine aA ⟨n-1,k+1,⟨by omega,(hJ _ _).2 ⟨by omega,?_⟩⟩,?_⟩
  ·intro i hi y hy
   by_cases hik:i<k
   ·exact h3 i hik y hy
   have:i=k:=by omega
   subst this;rw [hx] at hy;cases hy;rw [←hpx];exact hb
  simp only [ht,aa,aC (show k<9223372036854775807 by omega)];rfl
 simp only [ht,aa,decide_eq_false_iff_not] at h
 have hk:¬k<l.length:=by omega
 clear h
 cbv
 refine an trivial trivial rfl rfl rfl ?_
 rw [hr,idxOf,cS]
 intro i y hy
 have:i<l.length:=by
  rcases Nat.lt_or_ge i l.length with h'|h';· exact h'
  simp [List.getElem?_eq_none h'] at hy
 exact h3 i (by omega) y hy
theorem Ir (ht:TT t) (ns qs:List (List D)) {l:List (Place)} {es:List (List D)} (aF:es=l.map Place.cells) (f:Nat) (p:Place→Bool) (hl:l.length<9223372036854775807)
 (hf:∀x∈l,FC f [.agg [.d (.int .u64 x.bu),.d (.str x.node),.d (.int .u64 x.v.a),.d (.int .u64 x.v.b),.d (.int .u64 x.v.c),.d (.int .u64 x.v.d)],.ptr 0 0] [.var [SL ns,SL qs]] (.ret (BL (p x))) [.var [SL ns,SL qs]]) {r:Bool} (hr:r=l.any p):FC 104 [SL es,.fn f [.ptr 0 0]] [.var [SL ns,SL qs]] (.ret (BL r)) [.var [SL ns,SL qs]]:=by
 obtain ⟨k,hk⟩:∃k,k=idxOf p l:=⟨_,rfl⟩
 refine bC ht (aE:=[.var [SL ns,SL qs]]) Tryz.func104 (c:=_) rfl rfl (N:=9) rfl (rs:=_) rfl (n:=1) rfl rfl ?_
 cbv
 refine dn trivial (Iq ht ns qs aF f p hl hf hk) ?_
 cbv
 refine an trivial trivial rfl rfl rfl ?_
 simp only [ht,hr,eT,hk]
theorem N1 (ht:TT t) {l:List Node} {ps:List Place} {es qs:List (List D)} (aF:es=l.map Node.cells) (fq:qs=ps.map Place.cells) (hl:l.length<1000000000) (nQ:ps.length<1000000000) {r:Bool} (hr:r=ps.any (By l)):
 FC 104 [SL qs,.fn 103 [.ptr 0 0]] [.var [SL es,SL qs]] (.ret (BL r)) [.var [SL es,SL qs]]:=
 Ir ht es qs fq 103 (By l) (by omega) (fun x _=>Ul ht x.bu x.node x.v.a x.v.b x.v.c x.v.d aF hl rfl) hr
theorem D2 (ht:TT t) {l:List Node} {ps:List Place} {es qs:List (List D)} (aF:es=l.map Node.cells) (fq:qs=ps.map Place.cells) (hl:l.length<1000000000) (nQ:ps.length<1000000000) (fR:∀x∈l,x.sm):
 FC 39 [.agg [SL es,SL qs]] [] (.ret (bY (t _ fun _=>nU ⟨l,ps⟩))) []:=by
 refine bC ht (aE:=[]) Tryz.func39 (c:=_) rfl rfl (N:=66) rfl (rs:=_) rfl (n:=0) rfl rfl ?_
 cbv
 have ar:es.length=l.length:=by rw [aF,lgM]
 have dM:qs.length=ps.length:=by rw [fq,lgM]
 obtain ⟨J0,eg⟩:∃J0:Nat→Int→Prop,∀n i,J0 n i↔(∃k:Nat,i=k∧k+n=l.length∧iZ l ps none l=iZ l ps (oH l k) (l.drop k)):=⟨fun n v=>match v with|i=>(∃k:Nat,i=k∧k+n=l.length∧iZ l ps none l=iZ l ps (oH l k) (l.drop k)),fun _ _=>Iff.rfl⟩
 refine aZ ⟨[1,9,10,11],[],[]⟩ (σ:=Int) (fun v=>[(11,.d (.int .i64 (t _ fun _=>v)))]) (fun v=>[]) J0 ?_
 cbv
 refine aA ⟨l.length,_,(eg _ _).2 ?_,by simp only [ht];rfl,?_⟩
 ·exact ⟨0,rfl,by simp,by simp [oH]⟩
 rintro n i hj
 replace hj:=(eg _ _).1 hj
 obtain ⟨k,rfl,j1,j4⟩:=hj
 cbv
 refine ai (fun h1=>?_) (fun h1=>?_)
 ·simp [ht,aa,ar] at h1
  cbv
  refine dg ht aF (cT:=Node.aH t) (by (simp only [ht,aa];omega)) (by (simp only [ht,aa];omega)) (fun _=>rfl) (fun _=>(by (simp only [ht,Node.aH];done))) (fun x2 iw=>?_)
  simp [ht,aa] at iw
  simp only [bO iw,iZ] at j4
  first|obtain ⟨s1,s2,s3⟩:=fR _ (List.mem_of_getElem? iw)|skip
  cbv
  refine ay trivial (Fv ht _ (by assumption) (by assumption) (by omega) (by omega)) trivial rfl rfl (fun r3 gH=>?_)
  simp only [ht] at gH
  cbv
  refine bJ [true,true,true,true,true,true,true,true,true,true,true,true,true,true,true,true,true,true,false,false,false,false,false,false,false,false,false,true,true,true] (by kernel_rfl) (by kernel_rfl) ?_
  cbv
  iterate 2 refine gI (by simp [ht]) ?_
  refine aM (fun g4=>⟨by simp [ht] at g4 ⊢;exact g4,trivial,oK ht _ (by assumption)⟩) rfl rfl (fun r5 jA=>?_)
  simp only [ht] at jA
  cbv
  refine gI (by simp [ht]) ?_
  refine pI (by simp [ht]) ?_
  iterate 2 refine gI (by simp [ht]) ?_
  refine aM (fun g6=>⟨by simp [ht] at g6 ⊢;exact g6,trivial,sU ht (jH ht rfl) (by assumption) (by assumption)⟩) rfl rfl (fun r7 gL=>?_)
  simp only [ht] at gL
  cbv
  refine gI (by simp [ht]) ?_
  refine pI (by simp [ht]) ?_
  iterate 9 refine gI (by simp [ht]) ?_
  (refine HY ht aF (cT:=Node.aH t) (k-1) (fun g=>by simp [ht,aa] at g ⊢;simp [g]) (fun g=>by simp [ht,aa] at g;simp only [ht,aa];exact ⟨vX (by omega) (by omega),by omega⟩) (fun _=>rfl) (fun _=>by simp only [ht,Node.aH]) (fun y my=>?_);simp [ht,aa] at my)
  cbv
  iterate 3 refine gI (by simp [ht]) ?_
  refine gI (by simp [ht,ak];intros;simp_all) ?_
  refine pI (by simp [ht]) ?_
  refine ai (fun h8=>?_) (fun h8=>?_)
  ·simp [ht,aa] at h8
   cbv
   refine an trivial trivial rfl rfl rfl ?_
   (simp only [ht];rw [DO] at j4;grind [nU,sle])
  simp [ht,aa] at h8
  cbv
  refine bf _ rfl (n-1) ?_ ((eg _ _).2 ?_)
  ·omega
  simp only [ht,aa]
  refine ⟨k+1,aC (by omega),by omega,?_⟩
  (rw [DO] at j4;simp only [oH,iw,Option.map_some];grind [sle])
 simp [ht,aa,ar] at h1
 cbv
 iterate 3 refine gI (by simp [ht]) ?_
 (obtain ⟨r9,dN⟩:∃r,r=ps.any (By l):=⟨_,rfl⟩;refine WM [0] (fun g=>⟨by simp [ht] at g ⊢;exact g,N1 ht aF fq hl nQ dN⟩) rfl rfl rfl rfl ?_)
 cbv
 refine gI (by simp [ht]) ?_
 refine pI (by simp [ht]) ?_
 refine an trivial trivial rfl rfl rfl ?_
 (rw [List.drop_eq_nil_of_le (by omega),iZ] at j4;simp [ht,aa,nU,j4,dN,ar];congr 1;rw [decide_eq_decide];omega)
theorem Xc (ht:TT t) (nm:aD) (a b c d:Int) {lb:List (List D)} (up:Bool) (Vw:aD) (a' b' c' d':Int) {lb':List (List D)} (Yl:Bool) {r:Bool} (hr:r=!Op.bytesLess Vw nm):
 FC 97 [.agg [ST Vw,az a',az b',az c',az d',SL lb',BL Yl],.ptr 0 0] [.var [ST nm,az a,az b,az c,az d,SL lb,BL up]] (.ret (BL r)) [.var [ST nm,az a,az b,az c,az d,SL lb,BL up]]:=by
 refine bC ht (aE:=[.var [ST nm,az a,az b,az c,az d,SL lb,BL up]]) Tryz.func97 (c:=_) rfl rfl (N:=9) rfl (rs:=_) rfl (n:=1) rfl rfl ?_
 cbv
 refine an trivial trivial rfl rfl rfl ?_
 (simp only [ht,hr];done)
theorem K0 (ht:TT t) (nm:aD) (a b c d:Int) (lb:List (List D)) (up:Bool) {l:List (Node)} {es:List (List D)} (aF:es=l.map Node.cells) (f:Nat) (p:Node→Bool) (hl:l.length<9223372036854775807)
 (hf:∀x∈l,FC f [.agg [.d (.str x.name),.d (.int .u64 x.cap.a),.d (.int .u64 x.cap.b),.d (.int .u64 x.cap.c),.d (.int .u64 x.cap.d),.d (.sl (x.labels.map bT.cells)),.d (.bool x.up)],.ptr 0 0] [.var [ST nm,az a,az b,az c,az d,SL lb,BL up]] (.ret (BL (p x))) [.var [ST nm,az a,az b,az c,az d,SL lb,BL up]]) {r:Int} (hr:r=idxOf p l):FC 96 [SL es,.fn f [.ptr 0 0]] [.var [ST nm,az a,az b,az c,az d,SL lb,BL up]] (.ret (bq r)) [.var [ST nm,az a,az b,az c,az d,SL lb,BL up]]:=by
 have hel:es.length=l.length:=by rw [aF,lgM]
 obtain ⟨J,hJ⟩:∃J:Nat→Nat→Prop,∀n v,J n v↔(v+n=l.length∧∀i<v,∀x,l[i]?=some x→p x=false):=⟨fun n v=>v+n=l.length∧∀i<v,∀x,l[i]?=some x→p x=false,fun _ _=>Iff.rfl⟩
 refine bC ht (aE:=[.var [ST nm,az a,az b,az c,az d,SL lb,BL up]]) Tryz.func96 (c:=_) rfl rfl (N:=19) rfl (rs:=_) rfl (n:=1) rfl rfl ?_
 cbv
 refine aZ ⟨[0,1,7,8],[],[]⟩ (σ:=Nat) (fun k=>[(8,bq (t _ fun _=>(k:Int)))]) (fun _=>[]) J ?_
 cbv
 refine aA ⟨l.length,0,(hJ _ _).2 ⟨by omega,by intro i hi;simp at hi⟩,by simp only [ht];rfl,?_⟩
 rintro n k hj
 obtain ⟨h2,h3⟩:=(hJ _ _).1 hj
 clear hj
 cbv
 refine ai (fun h=>?_) (fun h=>?_)
 ·simp only [ht,aa,decide_eq_true_eq] at h
  have hk:k<l.length:=by omega
  obtain ⟨x,hx⟩:∃x,l[k]?=some x:=⟨l[k],by simp⟩
  have og:x∈l:=List.mem_of_getElem? hx
  have gY:=hf x og
  obtain ⟨px,hpx⟩:∃b,b=p x:=⟨_,rfl⟩
  rw [←hpx] at gY
  obtain ⟨Vw,⟨a',b',c',d'⟩,lb',Yl⟩:=x;obtain ⟨JH,pS⟩:∃lr:List (List D),lr=lb'.map bT.cells:=⟨_,rfl⟩;simp only [←pS] at gY
  cbv
  refine gS [.str Vw,.int .u64 a',.int .u64 b',.int .u64 c',.int .u64 d',.sl JH,.bool Yl] ?_ ?_ ?_
  ·simp only [ht,aa];refine ⟨by omega,h,?_⟩;rw [aF];intro r hr;obtain ⟨y,_,rfl⟩:=List.mem_map.1 hr;rfl
  ·simp [ht,aa,aF,hx,pS]
  cbv
  refine dn trivial gY ?_
  cbv
  refine ai (fun hb=>?_) (fun hb=>?_)
  ·cbv
   refine an trivial trivial rfl rfl rfl ?_
   have e:=cN hx (hpx▸hb) h3
   simp only [ht,aa,hr,idxOf,e]
  cbv
  refine aA ⟨n-1,k+1,⟨by omega,(hJ _ _).2 ⟨by omega,?_⟩⟩,?_⟩
  ·intro i hi y hy
   by_cases hik:i<k
   ·exact h3 i hik y hy
   have:i=k:=by omega
   subst this;rw [hx] at hy;cases hy;rw [←hpx];exact hb
  simp only [ht,aa,aC (show k<9223372036854775807 by omega)];rfl
 simp only [ht,aa,decide_eq_false_iff_not] at h
 have hk:¬k<l.length:=by omega
 clear h
 cbv
 refine an trivial trivial rfl rfl rfl ?_
 rw [hr,idxOf,cS]
 intro i y hy
 have:i<l.length:=by
  rcases Nat.lt_or_ge i l.length with h'|h';· exact h'
  simp [List.getElem?_eq_none h'] at hy
 exact h3 i (by omega) y hy
theorem tW (ht:TT t) {l:List Node} {x:Node} {k:Nat} {i:Int} {lr:List (List D)} (hi:i=k) (hk:k≤l.length) (hl:l.length<1000000) (hlr:lr=x.labels.map bT.cells):
 FC 98 [.ow 0 7 (t _ fun _=>(l.map Node.cells).length),bq i,.cl [[.str x.name,.int .u64 x.cap.a,.int .u64 x.cap.b,.int .u64 x.cap.c,.int .u64 x.cap.d,.sl lr,.bool x.up]]] [.row 7 (t _ fun _=>l.map Node.cells)] (.ret (SL (t _ fun _=>(l.take k++x::l.drop k).map Node.cells))) [.dead]:=by
 simp only [ht];subst hi hlr
 refine pO (args':=[.ow 0 7 (l.map Node.cells).length,bq k,SL [Node.cells x]]) ?_ (Ft ht (by simp) (by simpa using hk) ?_ rfl (by simpa using hl) (by simp))
 ·intro β w ok vs h
  simp only [aj] at h ⊢
  obtain ⟨u1,us1,rfl,h1,u2,PS,rfl,h2,u3,Xd,rfl,h3,h4⟩:=h
  exact ⟨u1,_,rfl,h1,u2,_,rfl,h2,u3,Xd,rfl,MF h3,h4⟩
 intro r hr;obtain ⟨y,_,rfl⟩:=List.mem_map.1 hr;rfl
theorem K1 (ht:TT t) {l:List Node} {ps:List Place} {es qs:List (List D)} (aF:es=l.map Node.cells) (fq:qs=ps.map Place.cells) (nm:aD) (a b c d:Int) {lb:List bT} {lr:List (List D)} (hlr:lr=lb.map bT.cells) (up:Bool) (hl:l.length<1000000000) (hn:nm.length<9223372036854775807) (hlb:lb.length<1000000000) (fR:∀p∈lb,p.sm):
 FC 35 [.agg [SL es,SL qs],.agg [ST nm,az a,az b,az c,az d,SL lr,BL up]] [] (.ret (QX t (t _ fun _=>rO ⟨l,ps⟩ ⟨nm,⟨a,b,c,d⟩,lb,up⟩))) []:=by
 refine bC ht (aE:=[]) Tryz.func35 (c:=_) rfl rfl (N:=51) rfl (rs:=_) rfl (n:=0) rfl rfl ?_
 cbv
 have ar:es.length=l.length:=by rw [aF,lgM]
 have dM:qs.length=ps.length:=by rw [fq,lgM]
 have KZ:lr.length=lb.length:=by rw [hlr,lgM]
 refine ay trivial (oK ht _ (by assumption)) trivial rfl rfl (fun r0 bE=>?_)
 simp only [ht] at bE
 cbv
 refine ai (fun h1=>?_) (fun h1=>?_)
 ·simp [ht] at h1
  cbv
  refine an trivial trivial rfl rfl rfl ?_
  (simp only [ht,rO];grind)
 simp [ht] at h1
 cbv
 refine ay trivial (sU ht (by assumption) (by assumption) (by assumption)) trivial rfl rfl (fun r2 cP=>?_)
 simp only [ht] at cP
 cbv
 refine ai (fun h3=>?_) (fun h3=>?_)
 ·simp [ht] at h3
  cbv
  refine an trivial trivial rfl rfl rfl ?_
  (simp only [ht,rO];grind)
 simp [ht] at h3
 cbv
 refine ay trivial (Im ht _ (by assumption) (by omega)) trivial rfl rfl (fun r4 dO=>?_)
 simp only [ht] at dO
 cbv
 refine ai (fun h5=>?_) (fun h5=>?_)
 ·simp [ht] at h5
  cbv
  refine an trivial trivial rfl rfl rfl ?_
  (simp only [ht,rO];grind)
 simp [ht] at h5
 cbv
 refine ai (fun h6=>?_) (fun h6=>?_)
 ·simp [ht,aa,ar] at h6
  cbv
  refine an trivial trivial rfl rfl rfl ?_
  (simp only [ht,rO];grind)
 simp [ht,aa,ar] at h6
 cbv
 (obtain ⟨r9,dN⟩:∃r,r=idxOf (fun o:Node=>!Op.bytesLess o.name nm) l:=⟨_,rfl⟩;refine cE [1] trivial rfl rfl (K0 ht nm a b c d lr true aF 97 (fun o:Node=>!Op.bytesLess o.name nm) (by omega) (fun x _=>Xc ht nm a b c d true x.name x.cap.a x.cap.b x.cap.c x.cap.d x.up rfl) dN) (bK ?_);have ec:=cU dN;clear dN;rcases ec with ⟨e1,e2,e3⟩|⟨i,x,hi,hil,e1,e2,e3,e4⟩)
 ·cbv
  refine ai (fun h7=>?_) (fun h7=>?_)
  ·simp [ht] at h7
   cbv
   refine bJ [false,false,false,false,false,false,true,true,true] (by kernel_rfl) (by kernel_rfl) ?_
   cbv
   iterate 2 refine gI (by simp) ?_
   refine .inr (MB trivial (wj ht (by assumption) (by assumption)) trivial rfl (.inr rfl) rfl ?_)
   cbv
   iterate 3 refine gI (by simp) ?_
   refine cE [3] trivial rfl rfl (tW ht (l:=l) (x:=⟨nm,⟨a,b,c,d⟩,lb,true⟩) (k:=pat l nm) (by (simp [ht,pat,e2,ar];done)) (by (simp [pat,e2];done)) (by simp only [aa] at*;omega) hlr) (bK ?_)
   cbv
   refine an trivial trivial rfl rfl rfl ?_
   (simp only [ht,rO];grind)
  simp [ht] at h7
  omega
 cbv
 refine ai (fun h8=>?_) (fun h8=>?_)
 ·simp [ht] at h8
  (simp only [aa] at*;omega)
 simp [ht] at h8
 cbv
 refine bJ [false,false,false,false,false,false,true,true,true] (by kernel_rfl) (by kernel_rfl) ?_
 cbv
 iterate 2 refine gI (by simp) ?_
 refine .inr (MB trivial (wj ht (by assumption) (by assumption)) trivial rfl (.inr rfl) rfl ?_)
 cbv
 iterate 3 refine gI (by simp) ?_
 refine cE [3] trivial rfl rfl (tW ht (l:=l) (x:=⟨nm,⟨a,b,c,d⟩,lb,true⟩) (k:=pat l nm) (by (simp only [pat,e3];exact hi)) (by (simp only [pat,e3];omega)) (by simp only [aa] at*;omega) hlr) (bK ?_)
 cbv
 refine an trivial trivial rfl rfl rfl ?_
 (simp only [ht,rO];grind)
def bU.aH (_:Th) (n:bU):List D:=[.int .u64 n.round,.int .u64 n.id,.int .i64 n.kind]
theorem Xe {x y:bU}:x=y↔x.round=y.round∧x.id=y.id∧x.kind=y.kind:=by cases x;cases y;simp
def Rf (t:Th) (x:qG):AV:=.agg [az x.first,SL (t _ fun _=>x.l.map bU.cells)]
def ZD (t:Th) (r:List bU×Int):AV:=.dF [SL (t _ fun _=>r.1.map bU.cells),az r.2]
theorem BM (ht:TT t) {es:List (List D)} (hr:∀r∈es,r.length=3):FC 33 [SL es] [] (.ret (.cl es)) []:=by
 refine bC ht (aE:=[]) Tryz.func33 (c:=_) rfl rfl (N:=9) rfl (rs:=_) rfl (n:=0) rfl rfl ?_
 cbv
 refine ⟨?_,QM trivial rfl ?_⟩
 ·simp only [ht,aa,bS];exact ⟨⟨⟨by omega,Int.le_refl _⟩,trivial⟩,hr⟩
 simp [ht,aa,gr]
theorem Fw (ht:TT t) (first f:Int) {l:List bU} {es:List (List D)} (aF:es=l.map bU.cells) (hl:l.length<1000000000):
 FC 11 [.agg [az first,SL es],az f] [] (.ret (ZD t (t _ fun _=>tU ⟨first,l⟩ f))) []:=by
 refine bC ht (aE:=[]) Tryz.func11 (c:=_) rfl rfl (N:=43) rfl (rs:=_) rfl (n:=0) rfl rfl ?_
 cbv
 have ar:es.length=l.length:=by rw [aF,lgM]
 obtain ⟨J0,eg⟩:∃J0:Nat→List (List D)×Int×Int→Prop,∀n o nx i,J0 n (o,nx,i)↔(∃(k:Nat) (rs:List bU),i=k∧k+n=l.length∧o=rs.map bU.cells∧rs.length≤k∧tU ⟨first,l⟩ f=wg first f (l.drop k) k (rs,nx)):=⟨fun n v=>match v with|(o,nx,i)=>(∃(k:Nat) (rs:List bU),i=k∧k+n=l.length∧o=rs.map bU.cells∧rs.length≤k∧tU ⟨first,l⟩ f=wg first f (l.drop k) k (rs,nx)),fun _ _ _ _=>Iff.rfl⟩
 refine aZ ⟨[1,2,4,5,14,15,16],[(4,3)],[]⟩ (σ:=List (List D)×Int×Int) (fun v=>[(4,.ow 1 3 (t _ fun _=>(v.1).length)),(5,.d (.int .u64 (t _ fun _=>v.2.1))),(16,.d (.int .i64 (t _ fun _=>v.2.2)))]) (fun v=>[(1,.row 3 (t _ fun _=>v.1))]) J0 ?_
 cbv
 refine aA ⟨l.length,([],_,_),(eg _ _ _ _).2 ?_,by simp only [ht];rfl,?_⟩
 ·exact ⟨0,[],rfl,by simp,rfl,by simp,rfl⟩
 rintro n ⟨o,nx,i⟩ hj
 replace hj:=(eg _ _ _ _).1 hj
 obtain ⟨k,rs,rfl,j1,j2,j3,j4⟩:=hj
 have tV:o.length=rs.length:=by rw [j2,lgM]
 have hkw:IntKind.u64.wrap (k:Int)=(k:Int):=by rw [bG];omega
 cbv
 refine ai (fun h1=>?_) (fun h1=>?_)
 ·simp [ht,aa,ar] at h1
  cbv
  refine dg ht aF (cT:=bU.aH t) (by (simp only [ht,aa];omega)) (by (simp only [ht,aa];omega)) (fun _=>rfl) (fun _=>rfl) (fun x2 iw=>?_)
  simp [ht,aa] at iw
  rw [bO iw,wg] at j4
  simp only [u64,←bG] at j4
  cbv
  iterate 3 refine gI (by simp [ht]) ?_
  refine pI (by simp [ht]) ?_
  refine ai (fun h3=>?_) (fun h3=>?_)
  ·simp [ht,aa,tV] at h3
   cbv
   refine ⟨?_,?_⟩
   ·(simp only [ht,true_and];exact zb j2 (fun _=>rfl) rfl (by omega) (by decide))
   cbv
   refine bf (_,_,_) (by simp only [ht,←List.length_append];rfl) (n-1) ?_ ((eg _ _ _ _).2 ?_)
   ·omega
   simp only [aa]
   (simp only [aa] at h3 hkw j4 ⊢;rw [hkw] at h3 ⊢;rw [if_pos (by simp;omega)] at j4;exact ⟨k+1,rs++[x2],aC (by omega),by omega,by rw [j2];simp [bU.cells],by simp;omega,j4⟩)
  simp [ht,aa,tV] at h3
  cbv
  refine bf (_,_,_) (by simp only [ht];rfl) (n-1) ?_ ((eg _ _ _ _).2 ?_)
  ·omega
  simp only [aa]
  (simp only [aa] at h3 hkw j4 ⊢;rw [hkw] at h3;rw [if_neg (by simp;omega)] at j4;exact ⟨k+1,rs,aC (by omega),by omega,j2,by omega,j4⟩)
 simp [ht,aa,ar] at h1
 cbv
 refine an trivial (by simp [ht]) rfl rfl rfl ?_
 (rw [List.drop_eq_nil_of_le (by omega),wg] at j4;simp only [ht,j4,j2];done)
theorem Um (ht:TT t) (first rd id kd:Int):
 FC 10 [.agg [az first,SL []],.agg [az rd,az id,bq kd]] [] (.ret (Rf t (t _ fun _=>tell ⟨first,[]⟩ ⟨rd,id,kd⟩))) []:=by
 refine bC ht (aE:=[]) Tryz.func10 (c:=_) rfl rfl (N:=25) rfl (rs:=_) rfl (n:=0) rfl rfl ?_
 cbv
 refine bJ [false,false,false,false,false,true,true,true] (by kernel_rfl) (by kernel_rfl) ?_
 cbv
 iterate 2 refine gI (by simp) ?_
 refine .inl ?_
 (refine mT (fun g=>⟨trivial,trivial,BM ht (by simp)⟩) rfl rfl rfl ?_)
 cbv
 iterate 2 refine gI (by simp) ?_
 refine ⟨?_,?_⟩
 ·(simp [ht];done)
 refine ⟨?_,?_⟩
 ·(simp [ht];done)
 cbv
 refine ai (fun h0=>?_) (fun h0=>?_)
 ·simp [ht] at h0
 simp [ht] at h0
 cbv
 refine an trivial (by simp [ht]) rfl rfl rfl ?_
 (simp [ht,tell,bU.cells];done)
theorem Un (ht:TT t) (first rd id kd:Int) (e0:List D) (er:List (List D)) {l:List bU} (aF:e0::er=l.map bU.cells) (hl:l.length<1000000):
 FC 10 [.agg [az first,SL (e0::er)],.agg [az rd,az id,bq kd]] [] (.ret (Rf t (t _ fun _=>tell ⟨first,l⟩ ⟨rd,id,kd⟩))) []:=by
 have hr:∀r∈e0::er,r.length=3:=by rw [aF];intro r hr;obtain ⟨y,_,rfl⟩:=List.mem_map.1 hr;rfl
 have hle:(e0::er).length=l.length:=by rw [aF,lgM]
 refine bC ht (aE:=[]) Tryz.func10 (c:=_) rfl rfl (N:=25) rfl (rs:=_) rfl (n:=0) rfl rfl ?_
 cbv
 refine bJ [false,false,false,false,false,true,true,true] (by kernel_rfl) (by kernel_rfl) ?_
 cbv
 iterate 2 refine gI (by simp) ?_
 refine .inl ?_
 (refine mT (fun g=>⟨trivial,trivial,BM ht hr⟩) rfl rfl rfl ?_)
 cbv
 iterate 2 refine gI (by simp) ?_
 refine ⟨?_,?_⟩
 ·(simp only [ht];grind)
 refine ⟨?_,?_⟩
 ·(simp [ht];done)
 cbv
 refine ai (fun h0=>?_) (fun h0=>?_)
 ·simp [ht,aa] at h0
  cbv
  refine ⟨?_,?_⟩
  ·(simp only [ht,bS];refine ⟨by simp,⟨by omega,by simp;omega⟩,?_⟩;intro r h;rcases List.mem_append.1 h with h|h;exact hr r h;simp at h;subst h;rfl)
  cbv
  refine an trivial trivial rfl rfl rfl ?_
  (simp only [aa] at h0;simp only [List.length_cons] at hle;have tl:tell ⟨first,l⟩ ⟨rd,id,kd⟩=⟨u64 (first+1),(l++[(⟨rd,id,kd⟩:bU)]).drop 1⟩:=(by unfold tell;rw [if_pos (by simp only [List.length_append,List.length_cons,List.length_nil];omega)]);simp only [ht,tl,aF,gr,u64,bG];rw [List.map_drop,List.map_append];rfl)
 simp [ht,aa] at h0
 cbv
 refine an trivial (by simp [ht]) rfl rfl rfl ?_
 (simp only [aa] at h0;simp only [List.length_cons] at hle;have tl:tell ⟨first,l⟩ ⟨rd,id,kd⟩=⟨first,l++[(⟨rd,id,kd⟩:bU)]⟩:=(by unfold tell;rw [if_neg (by simp only [List.length_append,List.length_cons,List.length_nil];omega)]);simp only [ht,tl,aF];rw [List.map_append];rfl)
theorem MQ (ht:TT t) (first rd id kd:Int) {l:List bU} {es:List (List D)} (aF:es=l.map bU.cells) (hl:l.length<1000000):
 FC 10 [.agg [az first,SL es],.agg [az rd,az id,bq kd]] [] (.ret (Rf t (t _ fun _=>tell ⟨first,l⟩ ⟨rd,id,kd⟩))) []:=by
 cases l with
 |nil=>subst aF;exact Um ht first rd id kd
 |cons x l=>subst aF;exact Un ht first rd id kd _ _ rfl hl
theorem Is (ht:TT t) (s:aD) {z:Int} (hz:z=47):FC 242 [ST s,.d (.int .u8 z)] [] (.ret (kR (t _ fun _=>(s.count 47:Nat)))) []:=by
 subst hz
 refine fcX Tryz.func242 (by kernel_rfl) (by kernel_rfl) (by kernel_rfl) (e:=Extern.BytealgCount.count) (by kernel_rfl) ?_
 intro β w vs ok h
 simp only [aj,ah,aK] at h
 obtain ⟨_,_,rfl,rfl,_,_,rfl,rfl,rfl⟩:=h
 refine ⟨_,Lib.run_countString _ _ _,?_⟩
 simp [kR,ah,aK,Lib.countByte,ht]
theorem zR (ht:TT t) (s:aD) {z:Int} (hz:z=47):FC 249 [ST s,.d (.int .u8 z)] [] (.ret (kR (t _ fun _=>Lib.indexByte s 47))) []:=by
 subst hz
 refine fcX Tryz.func249 (by kernel_rfl) (by kernel_rfl) (by kernel_rfl) (e:=Extern.BytealgIndexByte.indexByte) (by kernel_rfl) ?_
 intro β w vs ok h
 simp only [aj,ah,aK] at h
 obtain ⟨_,_,rfl,rfl,_,_,rfl,rfl,rfl⟩:=h
 refine ⟨_,Lib.run_indexByteString _ _ _,?_⟩
 simp [kR,ah,aK,ht]
theorem Ri (ht:TT t) (s:aD):FC 235 [ST s,ST [47]] [] (.ret (kR (t _ fun _=>(s.count 47:Nat)))) []:=by
 refine bC ht (aE:=[]) Tryz.func235 (c:=_) rfl rfl (N:=34) rfl (rs:=_) rfl (n:=0) rfl rfl ?_
 cbv
 refine ai (fun h0=>?_) (fun h0=>?_)
 ·simp [ht] at h0
 simp [ht] at h0
 cbv
 refine ai (fun h1=>?_) (fun h1=>?_)
 ·simp [ht] at h1
  cbv
  refine ⟨?_,?_⟩
  ·(simp [ht];done)
  cbv
  refine ay trivial (Is ht _ (jH ht rfl)) trivial rfl rfl (fun r2 cP=>?_)
  simp only [ht] at cP
  cbv
  refine an trivial trivial rfl rfl rfl ?_
  (simp [*];done)
 simp [ht] at h1
theorem Fx (ht:TT t) (s:aD) {z:Int} (hz:z=47):FC 245 [ST s,.d (.int .u8 z)] [] (.ret (kR (t _ fun _=>Lib.indexByte s 47))) []:=by
 refine bC ht (aE:=[]) Tryz.func245 (c:=_) rfl rfl (N:=8) rfl (rs:=_) rfl (n:=0) rfl rfl ?_
 cbv
 refine ay trivial (zR ht _ (by assumption)) trivial rfl rfl (fun r0 bE=>?_)
 simp only [ht] at bE
 cbv
 refine an trivial trivial rfl rfl rfl ?_
 (simp [*];done)
theorem K4 (ht:TT t) (s:aD):FC 243 [ST s,ST [47]] [] (.ret (kR (t _ fun _=>Lib.indexByte s 47))) []:=by
 refine bC ht (aE:=[]) Tryz.func243 (c:=_) rfl rfl (N:=143) rfl (rs:=_) rfl (n:=0) rfl rfl ?_
 cbv
 iterate 3 refine gI (by simp [ht]) ?_
 refine pI (by simp [ht]) ?_
 refine ai (fun h0=>?_) (fun h0=>?_)
 ·simp [ht] at h0
  cbv
  refine an trivial trivial rfl rfl rfl ?_
  (subst h0;(try simp only [ht]);rfl)
 simp [ht] at h0
 cbv
 refine ai (fun h1=>?_) (fun h1=>?_)
 ·simp [ht] at h1
  cbv
  refine ⟨?_,?_⟩
  ·(simp [ht];done)
  cbv
  refine ay trivial (Fx ht _ (jH ht rfl)) trivial rfl rfl (fun r2 cP=>?_)
  simp only [ht] at cP
  cbv
  refine an trivial trivial rfl rfl rfl ?_
  (simp [*];done)
 simp [ht] at h1
theorem Rj (ht:TT t) (s:aD):FC 236 [ST s,ST [47]] [] (.ret (kR (t _ fun _=>Lib.indexByte s 47))) []:=by
 refine bC ht (aE:=[]) Tryz.func236 (c:=_) rfl rfl (N:=8) rfl (rs:=_) rfl (n:=0) rfl rfl ?_
 cbv
 refine ay trivial (K4 ht _) trivial rfl rfl (fun r0 bE=>?_)
 simp only [ht] at bE
 cbv
 refine an trivial trivial rfl rfl rfl ?_
 (simp [*];done)
theorem Xf {pre:List aD} {m k:Nat} {x:aD} {u:List (List D)} (h:pre.length=k) (hk:k≤m) (hu:u=(pre++List.replicate (m+1-k) []).map aT):
 u.set k (bF (u.getD k []) 0 [D.str x])=((pre++[x])++List.replicate (m-k) []).map aT:=by
 obtain ⟨d,rfl⟩:∃d,m=k+d:=⟨m-k,by omega⟩
 have e:k+d+1-k=d+1:=by omega
 rw [hu,e,Nat.add_sub_cancel_left,List.replicate_succ]
 simp [bF,←h,aT]
theorem Rk {pre:List aD} {m k:Nat} {x:aD} {V:List (List D)} (hV:V=((pre++[x])++List.replicate (m-k) []).map aT) (h:pre.length=k) (hk:k≤m) (hm:m<1000000000001):
 m+1=V.length∧(bS V.length none (some (IntKind.i64.wrap ((k:Int)+1)))∧∀r∈V,r.length=1)∧gr V none (some (IntKind.i64.wrap ((k:Int)+1)))=(pre++[x]).map aT:=by
 have e:IntKind.i64.wrap ((k:Int)+1)=((k+1:Nat):Int):=by rw [wrap64 (by omega) (by omega)];omega
 have hl:V.length=m+1:=by rw [hV];simp [h];omega
 refine ⟨hl.symm,⟨?_,?_⟩,?_⟩
 ·rw [e,hl];simp only [bS];omega
 ·intro r hr;rw [hV] at hr;obtain ⟨y,_,rfl⟩:=List.mem_map.1 hr;rfl
 rw [e,hV];simp only [gr,Int.toNat_natCast];rw [List.map_append,List.take_append_of_le_length (by simp [h]),List.take_of_length_le (by simp [h])]
theorem Iu (ht:TT t) (s:aD) (hs:s.length<1000000000000):FC 221 [ST s,ST [47],bq 0,bq (-1)] [] (.ret (HX t (t _ fun _=>bP 47 s))) []:=by
 obtain ⟨m,hm⟩:∃m,m=s.count 47:=⟨_,rfl⟩
 have Tl:m≤s.length:=by rw [hm];exact List.count_le_length
 have hmin:∀r:Int,r=(m:Nat)→min (IntKind.i64.wrap (r+1)) (IntKind.i64.wrap ((s.length:Int)+1))=((m+1:Nat):Int):=fun r hr=>by rw [hr,wrap64 (by omega) (by omega),wrap64 (by omega) (by omega)];omega
 have hmv:IntKind.i64.wrap (m:Int)=(m:Int):=wrap64 (by omega) (by omega)
 have Up:IntKind.i64.wrap (((m+1:Nat):Int)-1)=(m:Int):=by rw [wrap64 (by omega) (by omega)];omega
 refine bC ht (aE:=[]) Tryz.func221 (c:=_) rfl rfl (N:=66) rfl (rs:=_) rfl (n:=0) rfl rfl ?_
 cbv
 refine ai (fun h0=>?_) (fun h0=>?_)
 ·simp [ht] at h0
 simp [ht] at h0
 cbv
 refine ai (fun h1=>?_) (fun h1=>?_)
 ·simp [ht] at h1
 simp [ht] at h1
 cbv
 refine ai (fun h2=>?_) (fun h2=>?_)
 ·simp [ht] at h2
  cbv
  refine ay trivial (Ri ht _) trivial rfl rfl (fun r3 gH=>?_)
  simp only [ht] at gH
  (rw [←hm] at gH;replace hmin:=hmin _ gH)
  cbv
  refine ⟨?_,?_⟩
  ·(simp only [ht,aa];grind)
  cbv
  obtain ⟨J4,Gh⟩:∃J4:Nat→List UInt8×Int×List (List D)→Prop,∀n s2 i u,J4 n (s2,i,u)↔(∃(k:Nat) (pre:List aD),i=k∧pre.length=k∧bP 47 s=pre++bP 47 s2∧k+s2.count 47=m∧k+n=m∧u=(pre++List.replicate (m+1-k) []).map aT∧s2.length≤s.length):=⟨fun n v=>match v with|(s2,i,u)=>(∃(k:Nat) (pre:List aD),i=k∧pre.length=k∧bP 47 s=pre++bP 47 s2∧k+s2.count 47=m∧k+n=m∧u=(pre++List.replicate (m+1-k) []).map aT∧s2.length≤s.length),fun _ _ _ _=>Iff.rfl⟩
  refine aZ ⟨[0,1,2,3,9,10],[],[]⟩ (σ:=List UInt8×Int×List (List D)) (fun v=>[(0,.d (.str (t _ fun _=>v.1))),(10,.d (.int .i64 (t _ fun _=>v.2.1)))]) (fun v=>[(0,.row 1 (t _ fun _=>v.2.2))]) J4 ?_
  cbv
  refine aA ⟨m,(_,_,_),(Gh _ _ _ _).2 ?_,by simp only [ht];rfl,?_⟩
  ·exact ⟨0,[],rfl,rfl,rfl,by omega,by omega,by simp only [hmin];simp,by omega⟩
  rintro n ⟨s2,i,u⟩ hj
  replace hj:=(Gh _ _ _ _).1 hj
  obtain ⟨k,pre,rfl,j1,j2,j3,j4,j5,j6⟩:=hj
  have Xg:=fun x=>Xf (x:=x) j1 (show k≤m by omega) j5
  cbv
  refine ai (fun h5=>?_) (fun h5=>?_)
  ·simp [ht,aa,hmin,hmv] at h5
   cbv
   refine ay trivial (Rj ht _) trivial rfl rfl (fun r6 gv=>?_)
   simp only [ht] at gv
   cbv
   refine ai (fun h7=>?_) (fun h7=>?_)
   ·simp [ht] at h7
    cbv
    refine ⟨?_,?_⟩
    ·(exfalso;have q:=Fl gv h7;omega)
    refine ⟨?_,?_⟩
    ·(exfalso;have q:=Fl gv h7;omega)
    refine ⟨?_,?_⟩
    ·(exfalso;have q:=Fl gv h7;omega)
    cbv
    refine an trivial trivial rfl rfl rfl ?_
    (exfalso;have q:=Fl gv h7;omega)
   simp [ht] at h7
   cbv
   refine ⟨?_,?_⟩
   ·(obtain ⟨j,e1,e2,e3,e4⟩:=Fm gv h7;simp only [ht,e1];simp [bS];rw [wrap64 (by omega) (by omega)];omega)
   refine ⟨?_,?_⟩
   ·(simp only [ht,aa] at*;omega)
   refine ⟨?_,?_⟩
   ·(simp only [ht,aa];grind)
   refine ⟨?_,?_⟩
   ·(obtain ⟨j,e1,e2,e3,e4⟩:=Fm gv h7;simp only [ht,e1];simp [bS];rw [wrap64 (by omega) (by omega)];omega)
   cbv
   refine bf (_,_,_) (by simp only [ht];rfl) (n-1) ?_ ((Gh _ _ _ _).2 ?_)
   ·omega
   simp only [aa]
   (obtain ⟨j,e1,e2,e3,e4⟩:=Fm gv h7;subst e1;have ew:IntKind.i64.wrap ((j:Int)+([47]:aD).length)=((j+1:Nat):Int):=(by simp;rw [wrap64 (by omega) (by omega)]);have ez:IntKind.i64.wrap ((j:Int)+0)=(j:Nat):=(by rw [wrap64 (by omega) (by omega)];omega);rw [ew,ez];simp only [gr,Int.toNat_natCast];exact ⟨k+1,pre++[s2.take j],aC (by omega),by simp [j1],by rw [j2,e3];simp,by omega,by omega,by rw [Xg];simp,by simp;omega⟩)
  simp [ht,aa,hmin,hmv] at h5
  cbv
  refine ⟨?_,?_⟩
  ·(simp only [ht,aa] at*;omega)
  refine ⟨?_,?_⟩
  ·(simp only [ht,aa];grind)
  refine ⟨?_,?_⟩
  ·(have q:=Rk (Xg s2) j1 (by omega) (by omega);simp only [ht,Int.toNat_natCast,hmin];exact ⟨q.1,q.2.1⟩)
  cbv
  refine an trivial trivial rfl rfl rfl ?_
  (have q:=Rk (Xg s2) j1 (by omega) (by omega);simp only [ht,Int.toNat_natCast];rw [q.2.2,j2,BH (by omega)])
 simp [ht] at h2
theorem Rl (ht:TT t) (s:aD) (hs:s.length<1000000000000):FC 198 [ST s,ST [47]] [] (.ret (HX t (t _ fun _=>bP 47 s))) []:=by
 refine bC ht (aE:=[]) Tryz.func198 (c:=_) rfl rfl (N:=8) rfl (rs:=_) rfl (n:=0) rfl rfl ?_
 cbv
 refine aS trivial (Iu ht _ (by assumption)) trivial rfl rfl rfl (fun r0 bE=>?_)
 simp only [ht] at bE
 cbv
 refine an trivial trivial rfl rfl rfl ?_
 (simp [*];done)
end Dem
end
section
namespace Go.Proofs
open Go.Shelf
def Tryz.zj:Go.Shelf.Ren:=⟨fun|156=>165|165=>200|166=>201|169=>202|240=>222|241=>223|276=>237|277=>238|n=>n,fun|31=>79|9=>9|3=>3|4=>4|0=>0|20=>20|72=>270|76=>274|70=>268|37=>85|75=>273|127=>299|164=>315|5=>5|80=>147|n=>n,fun|n=>n⟩
theorem Tryz.MR:Go.Proofs.Lays.n156 Tryz.prog Tryz.zj:={
 mixed:=by kernel_rfl
 f156:=Tryz.func165.trans (congrArg some (by kernel_rfl))
 f165:=Tryz.func200.trans (congrArg some (by kernel_rfl))
 f166:=Tryz.func201.trans (congrArg some (by kernel_rfl))
 f169:=Tryz.func202.trans (congrArg some (by kernel_rfl))
 f240:=Tryz.func222.trans (congrArg some (by kernel_rfl))
 f241:=Tryz.func223.trans (congrArg some (by kernel_rfl))
 f276:=Tryz.func237.trans (congrArg some (by kernel_rfl))
 f277:=Tryz.func238.trans (congrArg some (by kernel_rfl))
 t0:=Tryz.underlying0
 a0:=Tryz.isAgg0
 z0:=Tryz.sizeOf0
 v0:=Tryz.zeroValue0
 t3:=Tryz.underlying3
 a3:=Tryz.isAgg3
 z3:=Tryz.sizeOf3
 v3:=Tryz.zeroValue3
 t4:=Tryz.underlying4
 a4:=Tryz.isAgg4
 z4:=Tryz.sizeOf4
 v4:=Tryz.zeroValue4
 t9:=Tryz.underlying9
 a9:=Tryz.isAgg9
 z9:=Tryz.sizeOf9
 v9:=Tryz.zeroValue9
 t20:=Tryz.underlying20
 a20:=Tryz.isAgg20
 z20:=Tryz.sizeOf20
 v20:=Tryz.zeroValue20
 t31:=Tryz.underlying79
 a31:=Tryz.isAgg79
 z31:=Tryz.sizeOf79
 v31:=Tryz.zeroValue79
 t37:=Tryz.underlying85
 a37:=Tryz.isAgg85
 z37:=Tryz.sizeOf85
 v37:=Tryz.zeroValue85
 t70:=Tryz.underlying268
 a70:=Tryz.isAgg268
 z70:=Tryz.sizeOf268
 v70:=Tryz.zeroValue268
 t72:=Tryz.underlying270
 a72:=Tryz.isAgg270
 z72:=Tryz.sizeOf270
 v72:=Tryz.zeroValue270
 t75:=Tryz.underlying273
 a75:=Tryz.isAgg273
 z75:=Tryz.sizeOf273
 v75:=Tryz.zeroValue273
 t76:=Tryz.underlying274
 a76:=Tryz.isAgg274
 z76:=Tryz.sizeOf274
 v76:=Tryz.zeroValue274
 t127:=Tryz.underlying299
 a127:=Tryz.isAgg299
 z127:=Tryz.sizeOf299
 v127:=Tryz.zeroValue299
 t164:=Tryz.underlying315
 a164:=Tryz.isAgg315
 z164:=Tryz.sizeOf315
 v164:=Tryz.zeroValue315}
theorem Tryz.nG:Builder.Extra Tryz.prog Tryz.zj:={
 sizeBuilder:=by kernel_rfl
 liesBuilder:=by kernel_rfl
 t5:=Tryz.underlying5
 a5:=Tryz.isAgg5
 z5:=Tryz.sizeOf5
 v5:=Tryz.zeroValue5
 infoByte:=by kernel_rfl
 cellsByte:=by kernel_rfl
 sizeByte:=by kernel_rfl
 neB5:=by decide}
open Go.RowKit in
theorem Tryz.strings_Join_none (a:Option Addr) (c:Nat) (sep:ByteArray) (w:World):
 Calls Tryz.prog 165 #[.slice a 0 c,.string sep] w fun e w'=>e=.returned (.string ⟨#[]⟩)∧w'=w:=Any.strings_Join_none Tryz.MR Tryz.nG a c sep w
open Go.RowKit in
theorem Tryz.strings_Join (bk o c:Nat) (xs:List ByteArray) (sep:ByteArray) (w:World) (hcells:∀(j:Nat) x,xs[j]?=some x→w.cell? ⟨bk,o+j,none⟩=some (.string x)) (hbk:bk<w.heap.size) (hN:xs.length≤140737488355328) (hcap:xs.length≤c) (hlen:(Lib.join (xs.map (·.data.toList)) sep.data.toList).length≤140737488355328):
 Calls Tryz.prog 165 #[.slice (some ⟨bk,o,none⟩) xs.length c,.string sep] w fun e w'=>e=.returned (.string ⟨(Lib.join (xs.map (·.data.toList)) sep.data.toList).toArray⟩)∧Below w.heap.size w w':=Any.strings_Join Tryz.MR Tryz.nG bk o c xs sep w hcells hbk hN hcap hlen
end Go.Proofs
end
section
open Go Dem Go.Proofs
namespace Dem
variable {t:Th}
theorem D3 {w:World} {ok:Nat→Prop} {aB sz:Nat}:∀{l:List aD} {off:Nat},av w ok aB sz (l.map aT) off→∀(j:Nat) x,(l.map fun s=>(⟨s.toArray⟩:ByteArray))[j]?=some x→w.cell? ⟨aB,off+j,none⟩=some (.string x)
 |[],_,_,j,x,hx=>by simp at hx
 |s::l,off,h,j,x,hx=>by
  simp only [List.map_cons,av,aY,aK,and_true] at h
  obtain ⟨rfl,⟨u,hu,rfl⟩,h3⟩:=h
  cases j with
  |zero=>simp at hx;subst hx;exact hu
  |succ j=>
   have:=D3 h3 j x (by simpa using hx)
   rw [show off+(j+1)=off+[D.str s].length+j by simp;omega]
   exact this
theorem D4 {β:Nat→Nat} {w w':World} (hb:RowKit.Below w.heap.size w w'):Ext β [] w β [] w':=
 ⟨hb.os,hb.tape,hb.output,hb.size,fun k hk _=>hb.block k hk,fun k c e f hk=>⟨c,by rw [hb.block k (Array.getElem?_eq_some_iff.1 hk).1];exact hk,rfl⟩,fun i h=>by obtain ⟨b,h1,_⟩:=h;simp at h1,fun i b h=>by simp at h⟩
theorem MS (ht:TT t) {l:List aD} {es:List (List D)} (aF:es=l.map aT) (hl:l.length<1000000000) (hlen:(fc l).length≤140737488355328):FC 165 [SL es,ST [47]] [] (.ret (tG (t _ fun _=>fc l))) []:=by
 simp only [ht]
 subst aF
 intro β w vs X cx hx
 simp only [aj,ah,aK] at hx
 obtain ⟨_,_,rfl,⟨base,cap,rfl,hcap,h1⟩,_,_,rfl,rfl,rfl⟩:=hx
 rcases h1 with h1|⟨aB,off,sz,rfl,hok,hrows⟩
 ·have hl0:l=[]:=by simpa using h1
  subst hl0
  refine .inl ⟨enters_of Tryz.func165 (by kernel_rfl) rfl _ _,(Tryz.strings_Join_none base cap ⟨#[47]⟩ w).mono ?_⟩
  rintro e w' ⟨rfl,rfl⟩
  exact ⟨β,Ext.refl _ _ _,cx,by simp [fC,tG,ah,aK,fc,Lib.join_nil]⟩
 have hx:((l.map fun s=>(⟨s.toArray⟩:ByteArray)).map (·.data.toList))=l:=by simp [Function.comp_def]
 have hn:(l.map fun s=>(⟨s.toArray⟩:ByteArray)).length=(l.map aT).length:=by simp
 have key:=Tryz.strings_Join aB off cap (l.map fun s=>(⟨s.toArray⟩:ByteArray)) ⟨#[47]⟩ w (D3 hrows) hok.1 (by simp;omega) (by simpa using hcap) (by rw [hx];exact hlen)
 rw [hx,hn] at key
 refine .inl ⟨enters_of Tryz.func165 (by kernel_rfl) rfl _ _,key.mono ?_⟩
 rintro e w' ⟨rfl,hb⟩
 exact ⟨β,D4 hb,cx.step (D4 hb) (fun i b h=>by simp at h) (fun i j bi bj hi=>by simp at hi),by simp [fC,tG,ah,aK,fc]⟩
theorem Rm (ht:TT t) {l:List (aD)} {es:List (List D)} (aF:es=l.map aT) (f:Nat) (p:aD→Bool) (hl:l.length<9223372036854775807)
 (hf:∀x∈l,FC f [.d (.str x)] [] (.ret (BL (p x))) []) {r:Int} (hr:r=idxOf p l):FC 163 [SL es,.fn f []] [] (.ret (bq r)) []:=by
 have hel:es.length=l.length:=by rw [aF,lgM]
 obtain ⟨J,hJ⟩:∃J:Nat→Nat→Prop,∀n v,J n v↔(v+n=l.length∧∀i<v,∀x,l[i]?=some x→p x=false):=⟨fun n v=>v+n=l.length∧∀i<v,∀x,l[i]?=some x→p x=false,fun _ _=>Iff.rfl⟩
 refine bC ht (aE:=[]) Tryz.func163 (c:=_) rfl rfl (N:=19) rfl (rs:=_) rfl (n:=0) rfl rfl ?_
 cbv
 refine aZ ⟨[0,1,7,8],[],[]⟩ (σ:=Nat) (fun k=>[(8,bq (t _ fun _=>(k:Int)))]) (fun _=>[]) J ?_
 cbv
 refine aA ⟨l.length,0,(hJ _ _).2 ⟨by omega,by intro i hi;simp at hi⟩,by simp only [ht];rfl,?_⟩
 rintro n k hj
 obtain ⟨h2,h3⟩:=(hJ _ _).1 hj
 clear hj
 cbv
 refine ai (fun h=>?_) (fun h=>?_)
 ·simp only [ht,aa,decide_eq_true_eq] at h
  have hk:k<l.length:=by omega
  obtain ⟨x,hx⟩:∃x,l[k]?=some x:=⟨l[k],by simp⟩
  have og:x∈l:=List.mem_of_getElem? hx
  have gY:=hf x og
  obtain ⟨px,hpx⟩:∃b,b=p x:=⟨_,rfl⟩
  rw [←hpx] at gY
  skip
  cbv
  refine gS [.str x] ?_ ?_ ?_
  ·simp only [ht,aa];refine ⟨by omega,h,?_⟩;rw [aF];intro r hr;obtain ⟨y,_,rfl⟩:=List.mem_map.1 hr;rfl
  ·simp [ht,aa,aF,hx]
  cbv
  refine dn trivial gY ?_
  cbv
  refine ai (fun hb=>?_) (fun hb=>?_)
  ·cbv
   refine an trivial trivial rfl rfl rfl ?_
   have e:=cN hx (hpx▸hb) h3
   simp only [ht,aa,hr,idxOf,e]
  cbv
  refine aA ⟨n-1,k+1,⟨by omega,(hJ _ _).2 ⟨by omega,?_⟩⟩,?_⟩
  ·intro i hi y hy
   by_cases hik:i<k
   ·exact h3 i hik y hy
   have:i=k:=by omega
   subst this;rw [hx] at hy;cases hy;rw [←hpx];exact hb
  simp only [ht,aa,aC (show k<9223372036854775807 by omega)];rfl
 simp only [ht,aa,decide_eq_false_iff_not] at h
 have hk:¬k<l.length:=by omega
 clear h
 cbv
 refine an trivial trivial rfl rfl rfl ?_
 rw [hr,idxOf,cS]
 intro i y hy
 have:i<l.length:=by
  rcases Nat.lt_or_ge i l.length with h'|h';· exact h'
  simp [List.getElem?_eq_none h'] at hy
 exact h3 i (by omega) y hy
theorem Rn (ht:TT t) {l:List (aD)} {es:List (List D)} (aF:es=l.map aT) (f:Nat) (p:aD→Bool) (hl:l.length<9223372036854775807)
 (hf:∀x∈l,FC f [.d (.str x)] [] (.ret (BL (p x))) []) {r:Bool} (hr:r=l.any p):FC 110 [SL es,.fn f []] [] (.ret (BL r)) []:=by
 obtain ⟨k,hk⟩:∃k,k=idxOf p l:=⟨_,rfl⟩
 refine bC ht (aE:=[]) Tryz.func110 (c:=_) rfl rfl (N:=9) rfl (rs:=_) rfl (n:=0) rfl rfl ?_
 cbv
 refine dn trivial (Rm ht aF f p hl hf hk) ?_
 cbv
 refine an trivial trivial rfl rfl rfl ?_
 simp only [ht,hr,eT,hk]
theorem K5 (ht:TT t) (s:aD) (hs:s.length<9223372036854775807):FC 199 [ST s] [] (.ret (bY (t _ fun _=>!dX s))) []:=by
 refine bC ht (aE:=[]) Tryz.func199 (c:=_) rfl rfl (N:=6) rfl (rs:=_) rfl (n:=0) rfl rfl ?_
 cbv
 refine ay trivial (oK ht _ (by assumption)) trivial rfl rfl (fun r0 bE=>?_)
 simp only [ht] at bE
 cbv
 refine an trivial trivial rfl rfl rfl ?_
 (simp [*];done)
theorem wm:∀(s:aD),∀x∈bP 47 s,x.length≤s.length
 |[],x,hx=>by simp [bP] at hx;subst hx;exact Nat.le_refl _
 |c::s,x,hx=>by
  have ih:=wm s
  unfold bP at hx
  split at hx
  ·rcases List.mem_cons.1 hx with rfl|hx
   ·simp
   exact Nat.le_trans (ih x hx) (by simp)
  split at hx
  ·rename_i h r e
   rw [e] at ih
   rcases List.mem_cons.1 hx with rfl|hx
   ·have:=ih h (by simp);simp;omega
   exact Nat.le_trans (ih x (by simp [hx])) (by simp)
  simp at hx;subst hx;simp
theorem N4 (ht:TT t) {l:List aD} {es:List (List D)} (aF:es=l.map aT) (hl:l.length<9223372036854775807) (hw:∀x∈l,x.length<9223372036854775807):
 FC 110 [SL es,.fn 199 []] [] (.ret (bY (t _ fun _=>l.any fun n=>!dX n))) []:=by
 simp only [ht];exact Rn ht aF _ _ hl (fun x hx=>by have h:=K5 ht x (hw x hx);simp only [ht,bY] at h;exact h) rfl
theorem wo (ht:TT t) (s:aD) (hs:s.length<1000000000000):FC 164 [ST s] [] (.ret (HX t (t _ fun _=>parts s))) []:=by
 have Wm:=pQ 47 s
 have hsc:s.count 47≤s.length:=List.count_le_length
 have fR:∀x∈bP 47 s,x.length<9223372036854775807:=fun x hx=>Nat.lt_of_le_of_lt (wm s x hx) (by omega)
 refine bC ht (aE:=[]) Tryz.func164 (c:=_) rfl rfl (N:=14) rfl (rs:=_) rfl (n:=0) rfl rfl ?_
 cbv
 refine aS trivial (Rl ht _ (by assumption)) trivial rfl rfl rfl (fun r0 bE=>?_)
 simp only [ht] at bE
 have hr0:(r0).length<1000000000001:=by rw [bE];omega
 have hs0:∀x∈r0,x.length<9223372036854775807:=by rw [bE];exact fR
 cbv
 refine gI (by simp [ht]) ?_
 refine aM (fun g1=>⟨by simp [ht] at g1 ⊢;exact g1,trivial,N4 ht (jH ht rfl) (by omega) (by assumption)⟩) rfl rfl (fun r2 cP=>?_)
 simp only [ht] at cP
 cbv
 refine pI (by simp [ht]) ?_
 refine ai (fun h3=>?_) (fun h3=>?_)
 ·simp [ht,aa] at h3
  cbv
  refine an trivial trivial rfl rfl rfl ?_
  (simp only [ht,parts];grind)
 simp [ht,aa] at h3
 cbv
 refine an trivial trivial rfl rfl rfl ?_
 (simp only [ht,parts];grind)
def Iv {α:Type} [DecidableEq α] (a:α) (l:List α):Int:=idxOf (fun x=>decide (a=x)) l
theorem Fy {α:Type} [DecidableEq α] {a x:α} {l:List α} {k:Nat} (hx:l[k]?=some x) (h:a=x) (h3:∀i<k,∀y,l[i]?=some y→a≠y):Iv a l=k:=by
 simp only [Iv,idxOf]
 rw [cN hx (by simpa using h) (fun i hi y hy=>by simpa using h3 i hi y hy)]
theorem Fz {α:Type} [DecidableEq α] {a:α} {l:List α} {k:Nat} (hk:l.length≤k) (h3:∀i<k,∀y,l[i]?=some y→a≠y):Iv a l=-1:=by
 simp only [Iv,idxOf]
 rw [cS]
 intro i y hy
 have:i<l.length:=(List.getElem?_eq_some_iff.1 hy).1
 simpa using h3 i (by omega) y hy
theorem yb {α:Type} {a x:α} {l:List α} {k:Nat} (h3:∀i<k,∀y,l[i]?=some y→a≠y) (hx:l[k]?=some x) (h:a≠x):∀i<k+1,∀y,l[i]?=some y→a≠y:=by
 intro i hi y hy
 rcases Nat.lt_or_ge i k with h1|h1
 ·exact h3 i h1 y hy
 have:i=k:=by omega
 subst this;rw [hx] at hy;cases hy;exact h
theorem BO {α:Type} [DecidableEq α] (a:α) (l:List α):0≤Iv a l↔a∈l:=by
 have h:=eT (fun x=>decide (a=x)) l
 rw [Bool.eq_iff_iff] at h
 simp at h
 exact h.symm
theorem Iw (ht:TT t) (a:aD) {l:List aD} {es:List (List D)} (aF:es=l.map aT) (hl:l.length<1000000000):
 FC 170 [SL es,ST a] [] (.ret (kR (t _ fun _=>Iv a l))) []:=by
 refine bC ht (aE:=[]) Tryz.func170 (c:=_) rfl rfl (N:=19) rfl (rs:=_) rfl (n:=0) rfl rfl ?_
 cbv
 have ar:es.length=l.length:=by rw [aF,lgM]
 obtain ⟨J0,eg⟩:∃J0:Nat→Int→Prop,∀n i,J0 n i↔(∃k:Nat,i=k∧k+n=l.length∧∀i<k,∀y,l[i]?=some y→a≠y):=⟨fun n v=>match v with|i=>(∃k:Nat,i=k∧k+n=l.length∧∀i<k,∀y,l[i]?=some y→a≠y),fun _ _=>Iff.rfl⟩
 refine aZ ⟨[0,1,7,8],[],[]⟩ (σ:=Int) (fun v=>[(8,.d (.int .i64 (t _ fun _=>v)))]) (fun v=>[]) J0 ?_
 cbv
 refine aA ⟨l.length,_,(eg _ _).2 ?_,by simp only [ht];rfl,?_⟩
 ·exact ⟨0,rfl,by simp,fun i hi=>by omega⟩
 rintro n i hj
 replace hj:=(eg _ _).1 hj
 obtain ⟨k,rfl,j1,j4⟩:=hj
 cbv
 refine ai (fun h1=>?_) (fun h1=>?_)
 ·simp [ht,aa,ar] at h1
  cbv
  refine dg ht aF (cT:=dR t) (by (simp only [ht,aa];omega)) (by (simp only [ht,aa];omega)) (fun _=>rfl) (fun _=>rfl) (fun x2 iw=>?_)
  simp [ht,aa] at iw
  cbv
  refine ai (fun h3=>?_) (fun h3=>?_)
  ·simp [ht] at h3
   cbv
   refine an trivial trivial rfl rfl rfl ?_
   (simp only [ht];rw [Fy (by assumption) (by assumption) j4];done)
  simp [ht] at h3
  cbv
  refine bf _ (by simp only [ht];rfl) (n-1) ?_ ((eg _ _).2 ?_)
  ·omega
  simp only [aa]
  exact ⟨k+1,aC (by omega),by omega,yb j4 (by assumption) (by assumption)⟩
 simp [ht,aa,ar] at h1
 cbv
 refine an trivial trivial rfl rfl rfl ?_
 (simp only [ht];rw [Fz (by omega) j4];done)
theorem N5 (ht:TT t) (a:aD) {l:List aD} {es:List (List D)} (aF:es=l.map aT) (hl:l.length<1000000000):
 FC 118 [SL es,ST a] [] (.ret (bY (t _ fun _=>l.contains a))) []:=by
 refine bC ht (aE:=[]) Tryz.func118 (c:=_) rfl rfl (N:=9) rfl (rs:=_) rfl (n:=0) rfl rfl ?_
 cbv
 have ar:es.length=l.length:=by rw [aF,lgM]
 refine ay trivial (Iw ht _ (by assumption) (by assumption)) trivial rfl rfl (fun r0 bE=>?_)
 simp only [ht] at bE
 cbv
 refine an trivial trivial rfl rfl rfl ?_
 (simp [ht,bE,BO];done)
theorem Xh (ht:TT t) (s:aD) (hs:s.length<1000000000000):FC 111 [ST s] [] (.ret (HX t (t _ fun _=>mW s))) []:=by
 have hp:=jW s
 refine bC ht (aE:=[]) Tryz.func111 (c:=_) rfl rfl (N:=22) rfl (rs:=_) rfl (n:=0) rfl rfl ?_
 cbv
 refine aS trivial (wo ht _ (by assumption)) trivial rfl rfl rfl (fun r0 bE=>?_)
 simp only [ht] at bE
 have hrl:(r0).length=(parts s).length:=by rw [bE]
 cbv
 obtain ⟨J1,fe⟩:∃J1:Nat→List (List D)×Int→Prop,∀n u i,J1 n (u,i)↔(∃k:Nat,i=k∧k+n=(parts s).length∧u=((mW s).take k).map aT):=⟨fun n v=>match v with|(u,i)=>(∃k:Nat,i=k∧k+n=(parts s).length∧u=((mW s).take k).map aT),fun _ _ _=>Iff.rfl⟩
 refine aZ ⟨[0,3,7,8],[(3,1)],[]⟩ (σ:=List (List D)×Int) (fun v=>[(3,.ow 0 1 (t _ fun _=>(v.1).length)),(8,.d (.int .i64 (t _ fun _=>v.2)))]) (fun v=>[(0,.row 1 (t _ fun _=>v.1))]) J1 ?_
 cbv
 refine aA ⟨(parts s).length,([],_),(fe _ _ _).2 ?_,by simp only [ht];rfl,?_⟩
 ·exact ⟨0,rfl,by simp,rfl⟩
 rintro n ⟨u,i⟩ hj
 replace hj:=(fe _ _ _).1 hj
 obtain ⟨k,rfl,j1,j4⟩:=hj
 cbv
 refine ai (fun h2=>?_) (fun h2=>?_)
 ·simp [ht,aa] at h2
  cbv
  refine aS trivial (wo ht _ (by assumption)) trivial rfl rfl rfl (fun r3 gH=>?_)
  simp only [ht] at gH
  have hrl:(r3).length=(parts s).length:=by rw [gH]
  cbv
  refine ⟨?_,?_⟩
  ·(simp only [ht];refine ⟨?_,fun r hr=>by obtain ⟨y,_,rfl⟩:=List.mem_map.1 hr;rfl⟩;rw [aC (by omega)];simp only [bS];rw [lgM];omega)
  cbv
  (refine ay trivial (MS ht (l:=r3.take (k+1)) (by simp only [ht,gr];rw [aC (by omega),List.map_take];rfl) (by simp;omega) (by rw [gH];exact Nat.le_trans (DU s (k+1)) (by omega))) trivial rfl rfl (fun r4 dO=>?_);simp only [ht] at dO;rw [gH] at dO)
  cbv
  refine ⟨?_,?_⟩
  ·(simp only [ht];grind)
  cbv
  refine bf (_,_) (by simp only [ht,←List.length_append];rfl) (n-1) ?_ ((fe _ _ _).2 ?_)
  ·omega
  simp only [aa]
  exact ⟨k+1,aC (by omega),by omega,by rw [DV (by omega),j4,←dO];simp⟩
 simp [ht,aa] at h2
 cbv
 refine an trivial (by simp [ht]) rfl rfl rfl ?_
 (simp [ht,j4,List.take_of_length_le (show (mW s).length≤k by rw [ic];omega)];done)
theorem BP (ht:TT t) (a b:aD) (hs:b.length<1000000000000):FC 59 [ST a,ST b] [] (.ret (bY (t _ fun _=>mX a b))) []:=by
 have hp:=jW b
 have hl:=ic b
 refine bC ht (aE:=[]) Tryz.func59 (c:=_) rfl rfl (N:=9) rfl (rs:=_) rfl (n:=0) rfl rfl ?_
 cbv
 refine aS trivial (Xh ht _ (by assumption)) trivial rfl rfl rfl (fun r0 bE=>?_)
 simp only [ht] at bE
 have hr0:(r0).length<1000000000:=by rw [bE];omega
 cbv
 refine ay trivial (N5 ht _ (jH ht rfl) (by assumption)) trivial rfl rfl (fun r1 cX=>?_)
 simp only [ht] at cX
 cbv
 refine an trivial trivial rfl rfl rfl ?_
 (simp [mX, *];done)
end Dem
end
