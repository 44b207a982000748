/- Parts of a proof, joined. -/
import Derived.Test.YtjnbpclolnmimaaGreatDoorJ21
set_option linter.unusedSimpArgs false
set_option linter.unusedVariables false
set_option maxRecDepth 100000
set_option maxHeartbeats 4000000
section
open Go Dem Go.Proofs
namespace Dem
variable {t:Th}
def bX.aH (_:Th) (q:bX):List D:=[.int .u64 q.id,.int .i64 q.prio]
theorem Lx {x y:bX}:x=y↔x.id=y.id∧x.prio=y.prio:=by cases x;cases y;simp
def ZV (t:Th) (r:List bX×Int):AV:=.dF [SL (t _ fun _=>r.1.map bX.cells),bq r.2]
def ZW (t:Th) (r:List bX×Bool):AV:=.dF [SL (t _ fun _=>r.1.map bX.cells),BL r.2]
theorem R8 (ht:TT t) (id:Int) {l:List (bX)} {es:List (List D)} (aF:es=l.map bX.cells) (f:Nat) (p:bX→Bool) (hl:l.length<9223372036854775807)
 (hf:∀x∈l,FC f [.agg [az x.id,bq x.prio],.ptr 0 0] [.var [az id]] (.ret (BL (p x))) [.var [az id]]) {r:Int} (hr:r=idxOf p l):FC 63 [SL es,.fn f [.ptr 0 0]] [.var [az id]] (.ret (bq r)) [.var [az id]]:=by
 have hel:es.length=l.length:=by rw [aF,lgM]
 obtain ⟨J,hJ⟩:∃J:Nat→Nat→Prop,∀n v,J n v↔(v+n=l.length∧∀i<v,∀x,l[i]?=some x→p x=false):=⟨fun n v=>v+n=l.length∧∀i<v,∀x,l[i]?=some x→p x=false,fun _ _=>Iff.rfl⟩
 refine bC ht (aE:=[.var [az id]]) Tryz.func63 (c:=_) rfl rfl (N:=19) rfl (rs:=_) rfl (n:=1) rfl rfl ?_
 cbv
 refine aZ ⟨[0,1,7,8],[],[]⟩ (σ:=Nat) (fun k=>[(8,bq (t _ fun _=>(k:Int)))]) (fun _=>[]) J ?_
 cbv
 refine aA ⟨l.length,0,(hJ _ _).2 ⟨by omega,by intro i hi;simp at hi⟩,by simp only [ht];rfl,?_⟩
 rintro n k hj
 obtain ⟨h2,h3⟩:=(hJ _ _).1 hj
 clear hj
 cbv
 refine ai (fun h=>?_) (fun h=>?_)
 ·simp only [ht,aa,decide_eq_true_eq] at h
  have hk:k<l.length:=by omega
  obtain ⟨x,hx⟩:∃x,l[k]?=some x:=⟨l[k],by simp⟩
  have og:x∈l:=List.mem_of_getElem? hx
  have gY:=hf x og
  obtain ⟨px,hpx⟩:∃b,b=p x:=⟨_,rfl⟩
  rw [←hpx] at gY
  obtain ⟨a,b⟩:=x
  cbv
  refine gS [.int .u64 a,.int .i64 b] ?_ ?_ ?_
  ·simp only [ht,aa];refine ⟨by omega,h,?_⟩;rw [aF];intro r hr;obtain ⟨y,_,rfl⟩:=List.mem_map.1 hr;rfl
  ·simp [ht,aa,aF,hx,bX.cells]
  cbv
  refine dn trivial gY ?_
  cbv
  refine ai (fun hb=>?_) (fun hb=>?_)
  ·cbv
   refine an trivial trivial rfl rfl rfl ?_
   have e:=cN hx (hpx▸hb) h3
   simp only [ht,aa,hr,idxOf,e]
  cbv
  refine aA ⟨n-1,k+1,⟨by omega,(hJ _ _).2 ⟨by omega,?_⟩⟩,?_⟩
  ·intro i hi y hy
   by_cases hik:i<k
   ·exact h3 i hik y hy
   have:i=k:=by omega
   subst this;rw [hx] at hy;cases hy;rw [←hpx];exact hb
  simp only [ht,aa,aC (show k<9223372036854775807 by omega)];rfl
 simp only [ht,aa,decide_eq_false_iff_not] at h
 have hk:¬k<l.length:=by omega
 clear h
 cbv
 refine an trivial trivial rfl rfl rfl ?_
 rw [hr,idxOf,cS]
 intro i y hy
 have:i<l.length:=by
  rcases Nat.lt_or_ge i l.length with h'|h';· exact h'
  simp [List.getElem?_eq_none h'] at hy
 exact h3 i (by omega) y hy
theorem ON (ht:TT t) (id:Int) (x:bX):FC 64 [.agg [az x.id,bq x.prio],.ptr 0 0] [.var [az id]] (.ret (BL (decide (x.id=id)))) [.var [az id]]:=by
 obtain ⟨a,b⟩:=x
 refine bC ht (aE:=[.var [az id]]) Tryz.func64 (c:=_) rfl rfl (N:=8) rfl (rs:=_) rfl (n:=1) rfl rfl ?_
 cbv
 refine an trivial trivial rfl rfl rfl ?_
 simp [ht]
theorem oQ (ht:TT t) (id:Int) {l:List bX} {es:List (List D)} (aF:es=l.map bX.cells) (hl:l.length<1000000000):
 FC 21 [SL es,az id] [] (.ret (kR (t _ fun _=>gF l id))) []:=by
 obtain ⟨r,hr⟩:∃r,r=gF l id:=⟨_,rfl⟩
 refine bC ht (aE:=[]) Tryz.func21 (c:=_) rfl rfl (N:=8) rfl (rs:=_) rfl (n:=0) rfl rfl ?_
 cbv
 refine dn trivial (R8 ht id aF 64 (fun x=>decide (x.id=id)) (by omega) (fun x _=>ON ht id x) (r:=r) hr) ?_
 cbv
 exact an trivial trivial rfl rfl rfl (by simp [ht,hr])
theorem Ek (ht:TT t) (a b:Int):FC 107 [.agg [az a,bq b]] [] (.ret (bY (t _ fun _=>gG ⟨a,b⟩))) []:=by
 refine bC ht (aE:=[]) Tryz.func107 (c:=_) rfl rfl (N:=11) rfl (rs:=_) rfl (n:=0) rfl rfl ?_
 cbv
 iterate 3 refine gI (by simp [ht]) ?_
 refine pI (by simp [ht]) ?_
 refine an trivial trivial rfl rfl rfl ?_
 (simp [ht,gG];done)
theorem El (ht:TT t) (a b c d:Int):FC 108 [.agg [az a,bq b],.agg [az c,bq d]] [] (.ret (bY (t _ fun _=>cV ⟨a,b⟩ ⟨c,d⟩))) []:=by
 refine bC ht (aE:=[]) Tryz.func108 (c:=_) rfl rfl (N:=24) rfl (rs:=_) rfl (n:=0) rfl rfl ?_
 cbv
 iterate 11 refine gI (by simp [ht]) ?_
 refine gI (by simp [ht,ak];intros;simp_all) ?_
 refine pI (by simp [ht]) ?_
 refine an trivial trivial rfl rfl rfl ?_
 (simp [ht,cV];done)
theorem XG {l:List bX} {e x:bX} {k:Nat} (hx:l[k]?=some x) (h:cV e x=true) (h3:∀i<k,∀y,l[i]?=some y→cV e y=false):xV l e=k:=by
 simp only [xV];rw [cN hx h h3]
theorem XH {l:List bX} {e:bX} {k:Nat} (hk:l.length≤k) (h3:∀i<k,∀y,l[i]?=some y→cV e y=false):xV l e=l.length:=by
 simp only [xV]
 rw [cS]
 intro i y hy
 have:i<l.length:=(List.getElem?_eq_some_iff.1 hy).1
 exact h3 i (by omega) y hy
theorem R9 {l:List bX} {e x:bX} {k:Nat} (h3:∀i<k,∀y,l[i]?=some y→cV e y=false) (hx:l[k]?=some x) (h:cV e x=false):∀i<k+1,∀y,l[i]?=some y→cV e y=false:=by
 intro i hi y hy
 rcases Nat.lt_or_ge i k with h1|h1
 ·exact h3 i h1 y hy
 have:i=k:=by omega
 subst this;rw [hx] at hy;cases hy;exact h
theorem XI (ht:TT t) (a b:Int) {l:List bX} {es:List (List D)} (aF:es=l.map bX.cells) (hl:l.length<1000000000):
 FC 115 [.agg [.fn 108 []],SL es,.agg [az a,bq b]] [] (.ret (kR (t _ fun _=>(xV l ⟨a,b⟩:Int)))) []:=by
 refine bC ht (aE:=[]) Tryz.func115 (c:=_) rfl rfl (N:=25) rfl (rs:=_) rfl (n:=0) rfl rfl ?_
 cbv
 have ar:es.length=l.length:=by rw [aF,lgM]
 obtain ⟨J0,eg⟩:∃J0:Nat→Int→Prop,∀n i,J0 n i↔(∃k:Nat,i=k∧k+n=l.length∧∀i<k,∀y,l[i]?=some y→cV ⟨a,b⟩ y=false):=⟨fun n v=>match v with|i=>(∃k:Nat,i=k∧k+n=l.length∧∀i<k,∀y,l[i]?=some y→cV ⟨a,b⟩ y=false),fun _ _=>Iff.rfl⟩
 refine aZ ⟨[1,3,5,9,10,11],[],[]⟩ (σ:=Int) (fun v=>[(11,.d (.int .i64 (t _ fun _=>v)))]) (fun v=>[]) J0 ?_
 cbv
 refine aA ⟨l.length,_,(eg _ _).2 ?_,by simp only [ht];rfl,?_⟩
 ·exact ⟨0,rfl,by simp,fun i hi=>by omega⟩
 rintro n i hj
 replace hj:=(eg _ _).1 hj
 obtain ⟨k,rfl,j1,j4⟩:=hj
 cbv
 refine ai (fun h1=>?_) (fun h1=>?_)
 ·simp [ht,aa,ar] at h1
  cbv
  refine dg ht aF (cT:=bX.aH t) (by (simp only [ht,aa];omega)) (by (simp only [ht,aa];omega)) (fun _=>rfl) (fun _=>rfl) (fun x2 iw=>?_)
  simp [ht,aa] at iw
  cbv
  refine ay trivial (El ht _ _ _ _) trivial rfl rfl (fun r3 gH=>?_)
  simp only [ht] at gH
  cbv
  refine ai (fun h4=>?_) (fun h4=>?_)
  ·cbv
   refine an trivial trivial rfl rfl rfl ?_
   (simp only [ht];rw [XG iw (by rw [h4] at gH;exact gH.symm) j4])
  cbv
  refine bf _ (by simp only [ht];rfl) (n-1) ?_ ((eg _ _).2 ?_)
  ·omega
  simp only [aa]
  exact ⟨k+1,aC (by omega),by omega,R9 j4 (by assumption) (by simp_all)⟩
 simp [ht,aa,ar] at h1
 cbv
 refine an trivial trivial rfl rfl rfl ?_
 (simp only [ht];rw [XH (by omega) j4];simp [aF];done)
theorem Ly (ht:TT t) {es:List (List D)} (aF:∀r∈es,r.length=2) (hs:es.length*16≤140737488355328) {m:Nat} (hm:m=es.length):
 FC 114 [SL es] [] (.ret (.ow 0 2 m)) [.row 2 es]:=by
 refine bC ht (aE:=[]) Tryz.func114 (c:=_) rfl rfl (N:=8) rfl (rs:=_) rfl (n:=0) rfl rfl ?_
 cbv
 refine ⟨fun b hb=>?_⟩
 simp only [ht] at hb
 cbv
 refine ai (fun h=>?_) (fun h=>?_)
 ·have he:=hb h
  subst he
  cbv
  exact Kz trivial rfl rfl (by rw [hm];rfl) rfl
 clear hb h
 cbv
 refine ⟨?_,?_⟩
 ·simp only [ht];simp;exact ⟨hs,aF⟩
 refine Fb trivial rfl rfl rfl rfl ?_ ?_
 ·simp only [ht];rw [hm];simp
 simp only [ht];rfl
theorem FY (ht:TT t) {es:List (List D)} {x:D} {row:List D} {i n c:Nat} (hn:n=es.length) (hi:i≤n) (hc:n≤c) (hc0:n=0→c=0) (aF:∀r∈es,r.length=2) (hrow:(x::row).length=2) (hs:n<1000000) {r:List (List D)} (hr:r=es.take i++(x::row)::es.drop i):
 FC 113 [.vw 0 2 0 n c true,bq (i:Int),SL [x::row]] [.row 2 es] (.ret (SL r)) [.dead]:=by
 obtain ⟨n1,CR⟩:∃n1,n1=n+1:=⟨_,rfl⟩
 obtain ⟨i1,hi1⟩:∃i1,i1=i+1:=⟨_,rfl⟩
 obtain ⟨ni,hni⟩:∃ni,ni=n-i:=⟨_,rfl⟩
 obtain ⟨ci,uH⟩:∃ci,ci=c-i:=⟨_,rfl⟩
 obtain ⟨zQ,Q6⟩:∃zQ,zQ=c-i1:=⟨_,rfl⟩
 obtain ⟨pR,uI⟩:∃pR,pR=n1-i:=⟨_,rfl⟩
 have hW:∀P:Prop,((IntKind.i64.wrap ((n:Int)+1)=(n1:Int))→(IntKind.i64.wrap ((n1:Int)-(i:Int))=(pR:Int))→(IntKind.i64.wrap ((i:Int)+1)=(i1:Int))→P)→P:=
  fun P h=>h (by rw [wrap64 (by omega) (by omega)];omega) (by rw [wrap64 (by omega) (by omega)];omega) (by rw [wrap64 (by omega) (by omega)];omega)
 have hrl:r.length=n1:=by rw [hr,List.length_append,List.length_cons,List.length_take,List.length_drop];omega
 have W4:n≠0→FC 166 [SL [x::row],.vw 0 2 i1 ni zQ true] [.row 2 es] (.ret (BL false)) [.row 2 es]:=fun h0=>
  ir KA Tryz.func166 rfl rfl rfl rfl (tS:=40) (tR:=4) rfl rfl (by intro h;rw [h] at hn;exact h0 hn)
 refine bC ht (aE:=[.row 2 es]) Tryz.func113 (c:=_) rfl rfl (N:=95) rfl (rs:=_) rfl (n:=1) rfl rfl ?_
 cbv
 refine bR (.vw 0 2 i ni ci true) [.row 2 es] ?_ ?_ rfl ?_
 ·simp [ht,dZ,bS];omega
 ·simp [ht,aX,aV,hni,uH]
 cbv
 refine qj (by simp [ht]) ?_
 cbv
 refine ai (fun h=>?_) (fun h=>?_)
 ·have hin:i=n:=by simp [ht,aa] at h;omega
  clear h
  cbv
  refine bR (.ow 1 2 n1) [.dead,.row 2 r] ?_ ?_ ?_ ?_
  ·simp only [ht]
   refine ⟨⟨hn,by simp;omega,?_⟩,rfl,hn,fun h=>⟨hc0 (by rw [hn,h];rfl),rfl⟩⟩
   intro r hr
   rcases List.mem_append.1 hr with hr|hr
   ·exact aF r hr
   simp at hr;subst hr;exact hrow
  ·simp [ht,CR,hn]
  ·simp only [ht];rw [hr]
   have:i=es.length:=by omega
   subst this;simp
  cbv
  refine an trivial ?_ rfl rfl rfl rfl
  simp only [ht];exact hrl.symm
 have hin:i<n:=by simp [ht,aa] at h;omega
 clear h
 have ya:r=(r.drop 0).take n1:=by rw [List.drop_zero,List.take_of_length_le (by omega)]
 cbv
 refine ai (fun h2=>?_) (fun h2=>?_)
 ·have W5:c=n:=by
   refine hW _ fun e1 e2 e3=>?_
   simp [ht,aa,e1] at h2;omega
  clear h2
  obtain ⟨L,hL⟩:∃L:List (List D),L=es.take i++List.replicate (es.length+1-i) [D.int IntKind.u64 0,D.int IntKind.i64 0]:=⟨_,rfl⟩
  have JG:L.length=n1:=by rw [hL];simp;omega
  obtain ⟨L1,uJ⟩:∃L1,L1=wrote L i [x::row]:=⟨_,rfl⟩
  have mY:L1.length=n1:=by rw [uJ];simp [wrote,JG];omega
  have qA:r=wrote L1 i1 (es.drop i):=by rw [hi1,uJ,hL,wh (by omega),hr]
  cbv
  refine bR (.vw 0 2 0 i c true) [.row 2 es] ?_ ?_ rfl ?_
  ·simp [ht,dZ,bS];omega
  ·simp [ht,aX,aV]
  cbv
  refine bR (.vw 1 2 0 n1 n1 false) [.row 2 es,.row 2 L] ?_ ?_ ?_ ?_
  ·refine hW _ fun e1 e2 e3=>?_
   simp [ht,aa,e1,e2];omega
  ·refine hW _ fun e1 e2 e3=>?_
   simp [ht,aa,e1,e2];omega
  ·refine hW _ fun e1 e2 e3=>?_
   simp [ht,aa,e1,e2,hL];omega
  cbv
  refine bR (.vw 1 2 i pR pR false) [.row 2 es,.row 2 L] ?_ ?_ rfl ?_
  ·simp [ht,dZ,bS];omega
  ·simp [ht,aX,aV,uI]
  cbv
  refine bR (bq 1) [.row 2 es,.row 2 L1] ?_ ?_ ?_ ?_
  ·simp only [ht,fo]
   refine ⟨⟨by omega,?_⟩,?_⟩
   ·intro h;rw [h] at JG;simp at JG;omega
   intro r hr;have:=List.mem_of_mem_take hr;simp at this;rw [this];exact hrow
  ·simp [ht,aa];omega
  ·simp [ht,uJ,show min 1 pR=1 by omega]
  cbv
  refine bJ [false,false,false,false,false,false,false,false,true] (by kernel_rfl) (by kernel_rfl) ?_
  cbv
  repeat (refine gI (by (simp;done)) ?_)
  refine iX (.vw 1 2 i1 ni ni false) (fun _=>⟨?_,?_⟩) ?_
  ·refine hW _ fun e1 e2 e3=>?_
   simp [ht,aa,e3,dZ,bS];omega
  ·refine hW _ fun e1 e2 e3=>?_
   simp [ht,aa,e3,aX,aV];omega
  cbv
  repeat (refine gI (by (simp;done)) ?_)
  refine iX (.vw 0 2 i ni ci true) (fun _=>⟨?_,?_⟩) ?_
  ·simp [ht,dZ,bS];omega
  ·simp [ht,aX,aV,hni,uH]
  cbv
  refine bR (bq (ni:Nat)) [.row 2 es,.row 2 r,.bA] ?_ ?_ ?_ ?_
  ·simp only [ht,fo]
   refine ⟨by omega,⟨by omega,?_⟩,?_⟩
   ·intro h;rw [h] at mY;simp at mY;omega
   intro r hr;exact aF r (List.mem_of_mem_drop (List.mem_of_mem_take hr))
  ·simp [ht,aa]
  ·simp only [ht,qA]
   rw [List.take_of_length_le (by simp;omega)]
  cbv
  refine Bt [true] trivial ?_ rfl rfl rfl ?_
  ·simp only [ht];omega
  simp only [ht];rw [←ya]
 have W5:n<c:=by
  refine hW _ fun e1 e2 e3=>?_
  simp [ht,aa,e1] at h2;omega
 clear h2
 obtain ⟨L1,uJ⟩:∃L1,L1=wrote es i1 (es.drop i):=⟨_,rfl⟩
 have qA:r=wrote L1 i [x::row]:=by rw [uJ,hi1,Fs (by omega),hr]
 have mY:L1.length=n1:=by rw [uJ];simp [wrote];omega
 cbv
 refine bR (.vw 0 2 0 n1 c true) [.row 2 es] ?_ ?_ rfl ?_
 ·refine hW _ fun e1 e2 e3=>?_
  simp [ht,aa,e1,dZ,bS];omega
 ·refine hW _ fun e1 e2 e3=>?_
  simp [ht,aa,e1,aX,aV]
 cbv
 refine bR (.vw 0 2 i1 ni zQ true) [.row 2 es] ?_ ?_ rfl ?_
 ·refine hW _ fun e1 e2 e3=>?_
  simp [ht,aa,e3,dZ,bS];omega
 ·refine hW _ fun e1 e2 e3=>?_
  simp [ht,aa,e3,aX,aV];omega
 cbv
 refine dn trivial (W4 (by omega)) ?_
 cbv
 refine mS (by simp [ht]) ?_
 cbv
 refine bJ [false,false,false,false,false,false,false,false,true] (by kernel_rfl) (by kernel_rfl) ?_
 cbv
 repeat (refine gI (by (simp;done)) ?_)
 refine iX (.vw 0 2 i1 ni zQ true) (fun _=>⟨?_,?_⟩) ?_
 ·refine hW _ fun e1 e2 e3=>?_
  simp [ht,aa,e3,dZ,bS];omega
 ·refine hW _ fun e1 e2 e3=>?_
  simp [ht,aa,e3,aX,aV];omega
 cbv
 repeat (refine gI (by (simp;done)) ?_)
 refine iX (.vw 0 2 i pR ci true) (fun _=>⟨?_,?_⟩) ?_
 ·simp [ht,dZ,bS];omega
 ·simp [ht,aX,aV,uI,uH]
 cbv
 refine bR (bq (ni:Nat)) [.row 2 L1,.bA] ?_ ?_ ?_ ?_
 ·simp only [ht,fo]
  refine ⟨by omega,⟨by omega,?_⟩,?_⟩
  ·intro h;rw [h] at hn;simp at hn;omega
  intro r hr;exact aF r (List.mem_of_mem_drop (List.mem_of_mem_take hr))
 ·simp [ht,aa];omega
 ·simp only [ht,uJ]
  rw [List.take_of_length_le (by simp;omega)]
 cbv
 refine bR (.vw 0 2 i pR ci true) [.row 2 L1,.bA] ?_ ?_ rfl ?_
 ·simp [ht,dZ,bS];omega
 ·simp [ht,aX,aV,uI,uH]
 cbv
 refine bR (bq 1) [.row 2 r,.bA] ?_ ?_ ?_ ?_
 ·simp only [ht,fo]
  refine ⟨⟨by omega,?_⟩,?_⟩
  ·intro h;rw [h] at mY;simp at mY;omega
  intro r hr;have:=List.mem_of_mem_take hr;simp at this;rw [this];exact hrow
 ·simp [ht,aa];omega
 ·simp [ht,qA,show min 1 pR=1 by omega]
 cbv
 refine Bt [true] trivial ?_ rfl rfl rfl ?_
 ·simp only [ht];omega
 simp only [ht];rw [←ya]
theorem I9 (ht:TT t) {es:List (List D)} {x:D} {row:List D} {i n:Nat} (hn:n=es.length) (hi:i≤n) (aF:∀r∈es,r.length=2) (hrow:(x::row).length=2) (hs:n<1000000) {r:List (List D)} (hr:r=es.take i++(x::row)::es.drop i):
 FC 113 [.ow 0 2 n,bq (i:Int),SL [x::row]] [.row 2 es] (.ret (SL r)) [.dead]:=
 fJ fun c hc hc0=>FY ht hn hi hc hc0 aF hrow hs hr
theorem Ja (ht:TT t) {l:List bX} {es:List (List D)} (aF:es=l.map bX.cells) (hs:l.length<1000000000):
 FC 114 [SL es] [] (.ret (.ow 0 2 (t _ fun _=>(l.map bX.cells).length))) [.row 2 (t _ fun _=>l.map bX.cells)]:=by
 simp only [ht];subst aF
 refine Ly ht ?_ ?_ (by simp)
 ·intro r hr;obtain ⟨y,_,rfl⟩:=List.mem_map.1 hr;rfl
 simp;omega
theorem FZ (ht:TT t) {l:List bX} {x:bX} {k:Nat} {i:Int} (hi:i=k) (hk:k≤l.length) (hl:l.length<1000000):
 FC 113 [.ow 0 2 (t _ fun _=>(l.map bX.cells).length),bq i,.cl [bX.cells x]] [.row 2 (t _ fun _=>l.map bX.cells)] (.ret (SL (t _ fun _=>(l.take k++x::l.drop k).map bX.cells))) [.dead]:=by
 simp only [ht];subst hi
 refine pO (args':=[.ow 0 2 (l.map bX.cells).length,bq k,SL [bX.cells x]]) ?_ (I9 ht (by simp) (by simpa using hk) ?_ rfl (by simpa using hl) (by simp [bX.cells]))
 ·intro β w ok vs h
  simp only [aj] at h ⊢
  obtain ⟨u1,us1,rfl,h1,u2,PS,rfl,h2,u3,Xd,rfl,h3,h4⟩:=h
  exact ⟨u1,_,rfl,h1,u2,_,rfl,h2,u3,Xd,rfl,MF h3,h4⟩
 intro r hr;obtain ⟨y,_,rfl⟩:=List.mem_map.1 hr;rfl
theorem XJ (l:List bX) (e:bX):xV l e≤l.length:=by
 unfold xV
 cases h:l.findIdx? (fun x=>cV e x) with
 |none=>exact Nat.le_refl _
 |some k=>exact Nat.le_of_lt (List.findIdx?_eq_some_iff_getElem.1 h).1
theorem Cq (ht:TT t) (a b:Int) {l:List bX} {es:List (List D)} (aF:es=l.map bX.cells) (hl:l.length<1000000):
 FC 49 [SL es,.agg [az a,bq b]] [] (.ret (ZV t (t _ fun _=>jI l ⟨a,b⟩))) []:=by
 have hq:=XJ l ⟨a,b⟩
 obtain ⟨qa,hqa⟩:∃n,n=xV l ⟨a,b⟩:=⟨_,rfl⟩
 refine bC ht (aE:=[]) Tryz.func49 (c:=_) rfl rfl (N:=31) rfl (rs:=_) rfl (n:=0) rfl rfl ?_
 cbv
 have ar:es.length=l.length:=by rw [aF,lgM]
 refine ay trivial (Ek ht _ _) trivial rfl rfl (fun r0 bE=>?_)
 simp only [ht] at bE
 cbv
 refine ai (fun h1=>?_) (fun h1=>?_)
 ·cbv
  refine an trivial trivial rfl rfl rfl ?_
  (simp only [ht];simp_all [jI];done)
 cbv
 refine ay trivial (oQ ht _ (by assumption) (by omega)) trivial rfl rfl (fun r2 cP=>?_)
 simp only [ht] at cP
 cbv
 refine ai (fun h3=>?_) (fun h3=>?_)
 ·simp [ht] at h3
  cbv
  refine an trivial trivial rfl rfl rfl ?_
  (simp only [ht];simp_all [jI];done)
 simp [ht] at h3
 cbv
 refine ai (fun h4=>?_) (fun h4=>?_)
 ·simp [ht,aa,ar] at h4
  cbv
  refine an trivial trivial rfl rfl rfl ?_
  (simp only [ht,jI];grind)
 simp [ht,aa,ar] at h4
 cbv
 refine bJ [false,false,false,false,false,false,false,false,true,true,true] (by kernel_rfl) (by kernel_rfl) ?_
 cbv
 refine gI (by simp) ?_
 refine .inr (MB trivial (Ja ht (by assumption) (by omega)) trivial rfl (.inr rfl) rfl ?_)
 cbv
 iterate 3 refine gI (by simp) ?_
 refine .inl ?_
 refine aM (fun g5=>⟨trivial,trivial,XI ht _ _ (by assumption) (by omega)⟩) rfl rfl (fun r6 gv=>?_)
 simp only [ht] at gv
 rw [←hqa] at gv
 cbv
 iterate 2 refine gI (by simp) ?_
 refine cE [1] trivial rfl rfl (FZ ht (l:=l) (x:=⟨a,b⟩) (k:=qa) (by assumption) (by omega) (by omega)) (bK ?_)
 cbv
 refine an trivial trivial rfl rfl rfl ?_
 (simp only [ht,jI];grind)
def nK (l:List bX) (k:Nat):Option bX:=match k with
 |0=>none
 |k+1=>l[k]?
theorem Em {l:List bX} {k:Nat} {x:bX}:NM (nK l k) x=(decide (k=0)||match l[k-1]? with|none=>true|some y=>cV y x):=by
 cases k with
 |zero=>rfl
 |succ k=>simp only [nK,NM];cases h:l[k]?<;>simp [h]
theorem OO {l:List bX} {k:Nat} {x y:bX} {r3 r7:Bool} {r5:Int} {rest:Bool} (j4:jh l none 0 l=(!gG x&&decide (gF l x.id=(k:Int))&&NM (nK l k) x&&rest)) (e3:r3=gG x) (e5:r5=gF l x.id) (e7:r7=cV y x)
 (my:r3=false→r5=(k:Int)→0<k→l[k-1]?=some y) (h:(r3=true∨¬r5=(k:Int))∨0<k∧r7=false):nX l=false:=by
 subst e3 e5 e7
 unfold nX
 rw [j4,Em]
 by_cases h3:gG x=true
 ·simp [h3]
 by_cases h5:gF l x.id=(k:Int)
 ·rcases h with (h|h)|⟨h,h7⟩
  ·exact absurd h h3
  ·exact absurd h5 h
  rw [my (by simpa using h3) h5 h]
  have:k≠0:=by omega
  simp [this,h7]
 simp [h5]
theorem Jc {l:List bX} {k:Nat} {x y:bX} {r3 r7:Bool} {r5:Int} {rest:Bool} (e3:r3=gG x) (e5:r5=gF l x.id) (e7:r7=cV y x)
 (my:r3=false→r5=(k:Int)→0<k→l[k-1]?=some y) (h:(r3=false∧r5=(k:Int))∧(0<k→r7=true)):(!gG x&&decide (gF l x.id=(k:Int))&&NM (nK l k) x&&rest)=rest:=by
 subst e3 e5 e7
 obtain ⟨⟨h3,h5⟩,h7⟩:=h
 rw [Em]
 by_cases k0:k=0
 ·subst k0;simp [h3,h5]
 rw [my h3 h5 (by omega)]
 simp [h3,h5,h7 (by omega)]
theorem OP (ht:TT t) {l:List bX} {es:List (List D)} (aF:es=l.map bX.cells) (hl:l.length<1000000):
 FC 41 [SL es] [] (.ret (bY (t _ fun _=>nX l))) []:=by
 refine bC ht (aE:=[]) Tryz.func41 (c:=_) rfl rfl (N:=40) rfl (rs:=_) rfl (n:=0) rfl rfl ?_
 cbv
 have ar:es.length=l.length:=by rw [aF,lgM]
 obtain ⟨J0,eg⟩:∃J0:Nat→Int→Prop,∀n i,J0 n i↔(∃k:Nat,i=k∧k+n=l.length∧jh l none 0 l=jh l (nK l k) k (l.drop k)):=⟨fun n v=>match v with|i=>(∃k:Nat,i=k∧k+n=l.length∧jh l none 0 l=jh l (nK l k) k (l.drop k)),fun _ _=>Iff.rfl⟩
 refine aZ ⟨[0,5,6,7],[],[]⟩ (σ:=Int) (fun v=>[(7,.d (.int .i64 (t _ fun _=>v)))]) (fun v=>[]) J0 ?_
 cbv
 refine aA ⟨l.length,_,(eg _ _).2 ?_,by simp only [ht];rfl,?_⟩
 ·exact ⟨0,rfl,by simp,by simp [nK]⟩
 rintro n i hj
 replace hj:=(eg _ _).1 hj
 obtain ⟨k,rfl,j1,j4⟩:=hj
 cbv
 refine ai (fun h1=>?_) (fun h1=>?_)
 ·simp [ht,aa,ar] at h1
  cbv
  refine dg ht aF (cT:=bX.aH t) (by (simp only [ht,aa];omega)) (by (simp only [ht,aa];omega)) (fun _=>rfl) (fun _=>rfl) (fun x2 iw=>?_)
  simp [ht,aa] at iw
  simp only [bO iw,jh] at j4
  cbv
  refine bJ [true,true,true,false,false,false,false,false,true,true,true,true,true,true,false,false,false,false,false,false,true,true,true,true] (by kernel_rfl) (by kernel_rfl) ?_
  cbv
  refine ay trivial (Ek ht _ _) trivial rfl rfl (fun r3 gH=>?_)
  simp only [ht] at gH
  cbv
  iterate 3 refine gI (by simp [ht]) ?_
  refine aM (fun g4=>⟨by simp [ht] at g4 ⊢;exact g4,trivial,oQ ht _ (by assumption) (by omega)⟩) rfl rfl (fun r5 jA=>?_)
  simp only [ht] at jA
  cbv
  iterate 2 refine gI (by simp [ht]) ?_
  refine pI (by simp [ht]) ?_
  iterate 6 refine gI (by simp [ht]) ?_
  (refine HY ht aF (cT:=bX.aH t) (k-1) (fun g=>by simp [ht,aa] at g ⊢;simp [g]) (fun g=>by simp [ht,aa] at g;simp only [ht,aa];exact ⟨vX (by omega) (by omega),by omega⟩) (fun _=>rfl) (fun _=>rfl) (fun y my=>?_);simp [ht,aa] at my)
  cbv
  iterate 2 refine gI (by simp [ht]) ?_
  refine aM (fun g6=>⟨by simp [ht] at g6 ⊢;exact g6,trivial,El ht _ _ _ _⟩) rfl rfl (fun r7 gL=>?_)
  simp only [ht] at gL
  cbv
  refine gI (by simp [ht]) ?_
  refine gI (by simp [ht,ak];intros;simp_all) ?_
  refine pI (by simp [ht]) ?_
  refine ai (fun h8=>?_) (fun h8=>?_)
  ·simp [ht,aa] at h8
   cbv
   refine an trivial trivial rfl rfl rfl ?_
   (simp only [ht];rw [OO j4 gH jA gL my h8])
  simp [ht,aa] at h8
  cbv
  refine bf _ (by simp only [ht];rfl) (n-1) ?_ ((eg _ _).2 ?_)
  ·omega
  simp only [aa]
  refine ⟨k+1,aC (by omega),by omega,?_⟩
  (simp only [nK];rw [iw,j4];exact Jc gH jA gL my h8)
 simp [ht,aa,ar] at h1
 cbv
 refine an trivial trivial rfl rfl rfl ?_
 (rw [List.drop_eq_nil_of_le (by omega),jh] at j4;have e:decide ((l.length:Int)≤32)=decide (l.length≤32):=(by rw [decide_eq_decide];omega);simp [ht,aa,nX,j4,ar,e];done)
def yq (t:Th) (s:cH):AV:=.agg [az s.round,az s.next,SL (t _ fun _=>s.aW.nodes.map Node.cells),SL (t _ fun _=>s.aW.places.map Place.cells),SL (t _ fun _=>s.tree.map aR.cells),SL (t _ fun _=>s.aI.map Jb.cells),SL (t _ fun _=>s.queue.map bX.cells),az s.ev.first,SL (t _ fun _=>s.ev.l.map bU.cells),az s.au.first,SL (t _ fun _=>s.au.l.map bU.cells)]
def Jd (t:Th) (r:cH×Int):AV:=.dF [yq t r.1,bq r.2]
def Sa (t:Th) (r:cH×Int×Int):AV:=.dF [yq t r.1,az r.2.1,bq r.2.2]
theorem oR (ht:TT t) (rd nx ef af id kd:Int) {nl:List Node} {pl:List Place} {tl:List aR} {jl:List Jb} {ql:List bX} {el al:List bU} {ns ps ts js qs es cY:List (List D)}
 (gX:ns=nl.map Node.cells) (hps:ps=pl.map Place.cells) (hts:ts=tl.map aR.cells) (gi:js=jl.map Jb.cells) (fq:qs=ql.map bX.cells) (aF:es=el.map bU.cells) (has:cY=al.map bU.cells) (hel:el.length<1000000):
 FC 51 [.agg [az rd,az nx,SL ns,SL ps,SL ts,SL js,SL qs,az ef,SL es,az af,SL cY],az id,bq kd] [] (.ret (yq t (t _ fun _=>fO ⟨rd,nx,⟨nl,pl⟩,tl,jl,ql,⟨ef,el⟩,⟨af,al⟩⟩ id kd))) []:=by
 obtain ⟨⟨f9,l9⟩,h9⟩:∃r,r=tell ⟨ef,el⟩ ⟨rd,id,kd⟩:=⟨_,rfl⟩
 refine bC ht (aE:=[]) Tryz.func51 (c:=_) rfl rfl (N:=17) rfl (rs:=_) rfl (n:=0) rfl rfl ?_
 cbv
 have fj:ns.length=nl.length:=by rw [gX,lgM]
 have fE:ps.length=pl.length:=by rw [hps,lgM]
 have fZ:ts.length=tl.length:=by rw [hts,lgM]
 have dy:js.length=jl.length:=by rw [gi,lgM]
 have dM:qs.length=ql.length:=by rw [fq,lgM]
 have ar:es.length=el.length:=by rw [aF,lgM]
 have dU:cY.length=al.length:=by rw [has,lgM]
 refine aS trivial (MQ ht _ _ _ _ (by assumption) (by assumption)) trivial rfl rfl rfl (fun r0 bE=>?_)
 simp only [ht] at bE
 rw [←h9] at bE
 subst r0
 cbv
 refine an trivial trivial rfl rfl rfl ?_
 (simp only [ht,fO];grind)
theorem M8 (ht:TT t):FC 32 [] [] (.ret (yq t (t _ fun _=>T7))) []:=by
 refine bC ht (aE:=[]) Tryz.func32 (c:=_) rfl rfl (N:=4) rfl (rs:=_) rfl (n:=0) rfl rfl ?_
 cbv
 refine aS trivial (Uq ht _ _ _ _) trivial rfl rfl rfl (fun r0 bE=>?_)
 simp only [ht] at bE
 cbv
 refine an trivial trivial rfl rfl rfl ?_
 (simp [T7,cH.zero,bz.zero, *];done)
theorem LA (ht:TT t) {es:List (List D)} (aF:∀r∈es,r.length=12) (hs:es.length*120≤140737488355328) {m:Nat} (hm:m=es.length):
 FC 68 [SL es] [] (.ret (.ow 0 12 m)) [.row 12 es]:=by
 refine bC ht (aE:=[]) Tryz.func68 (c:=_) rfl rfl (N:=8) rfl (rs:=_) rfl (n:=0) rfl rfl ?_
 cbv
 refine ⟨fun b hb=>?_⟩
 simp only [ht] at hb
 cbv
 refine ai (fun h=>?_) (fun h=>?_)
 ·have he:=hb h
  subst he
  cbv
  exact Kz trivial rfl rfl (by rw [hm];rfl) rfl
 clear hb h
 cbv
 refine ⟨?_,?_⟩
 ·simp only [ht];simp;exact ⟨hs,aF⟩
 refine Fb trivial rfl rfl rfl rfl ?_ ?_
 ·simp only [ht];rw [hm];simp
 simp only [ht];rfl
theorem sg (ht:TT t) {l:List Jb} {es:List (List D)} (aF:es=l.map Jb.cells) (hs:l.length<1000000):
 FC 68 [SL es] [] (.ret (.ow 0 12 (t _ fun _=>(l.map Jb.cells).length))) [.row 12 (t _ fun _=>l.map Jb.cells)]:=by
 simp only [ht];subst aF
 refine LA ht ?_ ?_ (by simp)
 ·intro r hr;obtain ⟨y,_,rfl⟩:=List.mem_map.1 hr;rfl
 simp;omega
theorem M9 (ht:TT t) (bu:Int) {l:List Node} {ps:List Place} {es qs:List (List D)} (aF:es=l.map Node.cells) (fq:qs=ps.map Place.cells) (hl:ps.length<1000000):
 FC 127 [.agg [SL es,SL qs],az bu] [] (.ret (ME t (t _ fun _=>lC ⟨l,ps⟩ bu))) []:=by
 simp only [ht,ME,lC];rw [←aF];exact KX ht bu fq hl rfl
theorem Na (ht:TT t) (rd nx ef af:Int) {nl:List Node} {pl:List Place} {tl:List aR} {jl:List Jb} {ql:List bX} {el al:List bU} {ns ps ts js qs es cY:List (List D)} (gX:ns=nl.map Node.cells) (hps:ps=pl.map Place.cells) (hts:ts=tl.map aR.cells) (gi:js=jl.map Jb.cells) (fq:qs=ql.map bX.cells) (aF:es=el.map bU.cells) (has:cY=al.map bU.cells) (ji ja jb jc jd jn jp jt jf:Int) (jq:aD) (jr:Bool) {jB:List Term} {tn:List (List D)} (m8:tn=jB.map Term.cells) {z:Int} {k:Nat} (hz:z=k) (hk:k<jl.length) (hjl:jl.length<1000000):
 FC 84 [.agg [az rd,az nx,SL ns,SL ps,SL ts,SL js,SL qs,az ef,SL es,az af,SL cY],bq z,.agg [az ji,ST jq,az ja,az jb,az jc,az jd,bq jn,bq jp,bq jt,SL tn,BL jr,bq jf]] [] (.ret (yq t (t _ fun _=>D1 ⟨rd,nx,⟨nl,pl⟩,tl,jl,ql,⟨ef,el⟩,⟨af,al⟩⟩ k ⟨ji,⟨jq,⟨ja,jb,jc,jd⟩,jn,jp,jt,jB⟩,jr,jf⟩))) []:=by
 refine bC ht (aE:=[]) Tryz.func84 (c:=_) rfl rfl (N:=17) rfl (rs:=_) rfl (n:=0) rfl rfl ?_
 cbv
 have fj:ns.length=nl.length:=by rw [gX,lgM]
 have fE:ps.length=pl.length:=by rw [hps,lgM]
 have fZ:ts.length=tl.length:=by rw [hts,lgM]
 have dy:js.length=jl.length:=by rw [gi,lgM]
 have dM:qs.length=ql.length:=by rw [fq,lgM]
 have ar:es.length=el.length:=by rw [aF,lgM]
 have dU:cY.length=al.length:=by rw [has,lgM]
 have tq:tn.length=jB.length:=by rw [m8,lgM]
 refine qn trivial (sg ht (by assumption) (by assumption)) trivial rfl (.inr rfl) ?_
 cbv
 refine ⟨?_,?_⟩
 ·(simp [*];done)
 refine ⟨?_,?_⟩
 ·(simp [Jb.cells, *];done)
 cbv
 refine an trivial (by simp [ht]) rfl rfl rfl ?_
 (simp [D1,Jb.cells,List.map_set,bF, *];done)
theorem Je (ht:TT t) (rd nx ef af:Int) {nl:List Node} {pl:List Place} {tl:List aR} {jl:List Jb} {ql:List bX} {el al:List bU} {ns ps ts js qs es cY:List (List D)} (gX:ns=nl.map Node.cells) (hps:ps=pl.map Place.cells) (hts:ts=tl.map aR.cells) (gi:js=jl.map Jb.cells) (fq:qs=ql.map bX.cells) (aF:es=el.map bU.cells) (has:cY=al.map bU.cells) (ji ja jb jc jd jn jp jt jf:Int) (jq:aD) (jr:Bool) {jB:List Term} {tn:List (List D)} (m8:tn=jB.map Term.cells) (hu:(⟨ja,jb,jc,jd⟩:bz).u') (hjq:jq.length<1000000000000) (htl:tl.length<100000) (nQ:pl.length<1000000):
 FC 65 [.agg [az rd,az nx,SL ns,SL ps,SL ts,SL js,SL qs,az ef,SL es,az af,SL cY],.agg [az ji,ST jq,az ja,az jb,az jc,az jd,bq jn,bq jp,bq jt,SL tn,BL jr,bq jf]] [] (.ret (yq t (t _ fun _=>nF ⟨rd,nx,⟨nl,pl⟩,tl,jl,ql,⟨ef,el⟩,⟨af,al⟩⟩ ⟨ji,⟨jq,⟨ja,jb,jc,jd⟩,jn,jp,jt,jB⟩,jr,jf⟩))) []:=by
 obtain ⟨⟨⟨v1,v2,v3,v4⟩,vk⟩,hv⟩:∃r,r=cW ⟨jq,⟨ja,jb,jc,jd⟩,jn,jp,jt,jB⟩:=⟨_,rfl⟩
 obtain ⟨⟨t9,e9⟩,h9⟩:∃r,r=sQ tl jq ⟨v1,v2,v3,v4⟩:=⟨_,rfl⟩
 have hF:nF ⟨rd,nx,⟨nl,pl⟩,tl,jl,ql,⟨ef,el⟩,⟨af,al⟩⟩ ⟨ji,⟨jq,⟨ja,jb,jc,jd⟩,jn,jp,jt,jB⟩,jr,jf⟩=⟨rd,nx,lC ⟨nl,pl⟩ ji,(if vk then t9 else tl),jl,ql,⟨ef,el⟩,⟨af,al⟩⟩:=by
  simp only [nF,←hv,←h9]
 rw [hF]
 refine bC ht (aE:=[]) Tryz.func65 (c:=_) rfl rfl (N:=32) rfl (rs:=_) rfl (n:=0) rfl rfl ?_
 cbv
 have fj:ns.length=nl.length:=by rw [gX,lgM]
 have fE:ps.length=pl.length:=by rw [hps,lgM]
 have fZ:ts.length=tl.length:=by rw [hts,lgM]
 have dy:js.length=jl.length:=by rw [gi,lgM]
 have dM:qs.length=ql.length:=by rw [fq,lgM]
 have ar:es.length=el.length:=by rw [aF,lgM]
 have dU:cY.length=al.length:=by rw [has,lgM]
 have tq:tn.length=jB.length:=by rw [m8,lgM]
 (refine ay trivial (tj ht jq ja jb jc jd jn jp jt (sl:=jB) tn hu) trivial rfl rfl (fun r9 dN=>?_);simp only [ht] at dN;rw [←hv] at dN;subst dN)
 cbv
 refine ai (fun h0=>?_) (fun h0=>?_)
 ·cbv
  refine aS trivial (Lt ht _ _ _ _ _ (by assumption) (by assumption) (by assumption)) trivial rfl rfl rfl (fun r1 cX=>?_)
  simp only [ht] at cX
  rw [←h9] at cX
  subst r1
  cbv
  refine aS trivial (M9 ht _ (by assumption) (by assumption) (by assumption)) trivial rfl rfl rfl (fun r2 cP=>?_)
  simp only [ht] at cP
  cbv
  refine an trivial trivial rfl rfl rfl ?_
  (subst cP;simp [*];done)
 cbv
 refine aS trivial (M9 ht _ (by assumption) (by assumption) (by assumption)) trivial rfl rfl rfl (fun r3 gH=>?_)
 simp only [ht] at gH
 cbv
 refine an trivial trivial rfl rfl rfl ?_
 (simp [*];done)
theorem F0 (ht:TT t) {es:List (List D)} {i m c:Nat} (hm:m=es.length) (hi:i<m) (hc:m≤c) (aF:∀r∈es,r.length=12) (hs:m<1000000) {r:List (List D)} (hr:r=es.take i++es.drop (i+1)):
 FC 67 [.vw 0 12 0 m c true,bq (i:Int),bq ((i+1:Nat):Int)] [.row 12 es] (.ret (SL r)) [.dead]:=by
 obtain ⟨i1,hi1⟩:∃i1,i1=i+1:=⟨_,rfl⟩
 rw [←hi1] at hr ⊢
 refine bC ht (aE:=[.row 12 es]) Tryz.func67 (c:=_) rfl rfl (N:=33) rfl (rs:=_) rfl (n:=1) rfl rfl ?_
 cbv
 obtain ⟨mi,CS⟩:∃n,n=m-i:=⟨_,rfl⟩
 obtain ⟨mi1,ab9⟩:∃n,n=m-i1:=⟨_,rfl⟩
 obtain ⟨zQ,Q6⟩:∃n,n=c-i1:=⟨_,rfl⟩
 refine bR (.vw 0 12 i 1 mi true) [.row 12 es] ?_ ?_ rfl ?_
 ·simp [ht,aa,bS];omega
 ·simp [ht,aa,aX,CS,hi1]
 cbv
 refine qj (by simp [ht,hi1];omega) ?_
 cbv
 refine bJ [false,false,false,false,false,false,true,true] (by kernel_rfl) (by kernel_rfl) ?_
 cbv
 refine gI (by simp) (gI (by simp) ?_)
 refine iX (.vw 0 12 0 i c true) (fun _=>⟨?_,?_⟩) ?_
 ·simp [ht,dZ,bS];omega
 ·simp [ht,aX,aV]
 cbv
 refine gI (by simp) (gI (by simp) ?_)
 refine iX (.vw 0 12 i1 mi1 zQ true) (fun _=>⟨?_,?_⟩) ?_
 ·simp [ht,dZ,bS];omega
 ·simp [ht,aX,aV,ab9,Q6]
 cbv
 obtain ⟨m1,hm1⟩:∃n,n=m-1:=⟨_,rfl⟩
 obtain ⟨cm1,acd⟩:∃n,n=c-m1:=⟨_,rfl⟩
 obtain ⟨R1,XK⟩:∃R,R=wrote es i (es.drop i1):=⟨_,rfl⟩
 have tk:(es.drop i1).take mi1=es.drop i1:=List.take_of_length_le (by rw [List.length_drop];omega)
 have dl:(es.drop i1).length=mi1:=by rw [List.length_drop];omega
 have Jf:R1.length=m:=by rw [XK];simp [wrote];omega
 have ace:R1.take m1=r:=by
  rw [XK,hr]
  unfold wrote
  rw [List.take_append_of_le_length (by simp;omega),List.take_of_length_le (by simp;omega)]
 refine bR (.vw 0 12 0 m1 c true) [.row 12 R1,.bA] ?_ ?_ ?_ ?_
 ·simp only [ht,tk,dl,fo,Nat.zero_add]
  exact ⟨by omega,⟨by omega,fun h=>by rw [h] at hm;simp at hm;omega⟩,by omega,fun r h=>aF r (List.mem_of_mem_drop h)⟩
 ·simp only [ht,tk,dl];rw [show i+mi1=m1 by omega]
 ·simp only [ht,tk,Nat.zero_add,XK]
 cbv
 refine bR (.vw 0 12 m1 1 cm1 true) [.row 12 R1,.bA] ?_ ?_ rfl ?_
 ·simp [ht,aa,dZ,bS];omega
 ·simp [ht,aa,aX,aV,acd];omega
 cbv
 obtain ⟨R2,XL⟩:∃R,R=wrote R1 m1 (List.replicate 1 [D.int IntKind.u64 0,D.str [],D.int IntKind.u64 0,D.int IntKind.u64 0,D.int IntKind.u64 0,D.int IntKind.u64 0,D.int IntKind.i64 0,D.int IntKind.i64 0,D.int IntKind.i64 0,D.sl [],D.bool false,D.int IntKind.i64 0]):=⟨_,rfl⟩
 have acf:R2.length=m:=by rw [XL];simp [wrote,Jf];omega
 have acg:R2.take m1=r:=by
  rw [←ace,XL]
  unfold wrote
  rw [List.append_assoc,List.take_append_of_le_length (by simp [Jf];omega),List.take_take,Nat.min_self]
 refine bR (.dF []) [.row 12 R2,.bA] ?_ rfl ?_ ?_
 ·simp only [ht,fo];exact ⟨by omega,fun h=>by rw [h] at Jf;simp at Jf;omega⟩
 ·simp only [ht,XL]
 cbv
 refine Bt [true] trivial ?_ rfl rfl rfl ?_
 ·simp only [ht];omega
 simp only [ht,List.drop_zero,acg]
theorem wO (ht:TT t) {l:List Jb} {i:Nat} {z z1:Int} (hz:z=i) (hz1:z1=(i:Int)+1) (hi:i<l.length) (hs:l.length<1000000):
 FC 67 [.ow 0 12 (t _ fun _=>(l.map Jb.cells).length),bq z,bq z1] [.row 12 (t _ fun _=>l.map Jb.cells)] (.ret (SL (t _ fun _=>(l.eraseIdx i).map Jb.cells))) [.dead]:=by
 simp only [ht]
 have e1:z1=((i+1:Nat):Int):=by omega
 subst hz
 rw [e1]
 refine fJ (fun c hc hc0=>F0 ht (es:=l.map Jb.cells) (i:=i) rfl (by simpa using hi) hc ?_ (by simpa using hs) ?_)
 ·intro r hr;obtain ⟨y,_,rfl⟩:=List.mem_map.1 hr;rfl
 rw [List.eraseIdx_eq_take_drop_succ,List.map_append,List.map_take,List.map_drop]
theorem OQ {l:List bX} {es:List (List D)} {i m:Nat} (aF:es=l.map bX.cells) (hi:i<l.length) (hm:m+1=l.length):
 wrote (wrote (List.replicate m [D.int IntKind.u64 0,D.int IntKind.i64 0]) 0 (es.take i)) i (es.drop (i+1))=(l.eraseIdx i).map bX.cells:=by
 have hl:es.length=l.length:=by rw [aF,lgM]
 simp only [wrote,List.take_zero,List.nil_append,Nat.zero_add,List.length_take,List.length_drop,List.drop_replicate,List.eraseIdx_eq_take_drop_succ,List.map_append,List.map_take,List.map_drop,←aF]
 have d1:(List.take i es).length=i:=by rw [List.length_take];omega
 have d2:List.drop (i+(es.length-(i+1))) (List.take i es++List.replicate (m-i) [D.int IntKind.u64 0,D.int IntKind.i64 0])=[]:=List.drop_eq_nil_of_le (by rw [List.length_append,d1,List.length_replicate];omega)
 rw [Nat.min_eq_left (by omega),List.take_append_of_le_length (by omega),List.take_take,Nat.min_self,d2,List.append_nil]
theorem Jg (ht:TT t) (id:Int) {l:List bX} {es:List (List D)} (aF:es=l.map bX.cells) (hl:l.length<1000000):
 FC 66 [SL es,az id] [] (.ret (ZW t (t _ fun _=>BG l id))) []:=by
 refine fcV ht 5 7 (aE:=[]) Tryz.func66 (c:=_) rfl rfl (N:=32) rfl (rs:=_) rfl (n:=0) rfl rfl ?_
 cbv
 have ar:es.length=l.length:=by rw [aF,lgM]
 refine ay trivial (oQ ht _ (by assumption) (by omega)) trivial rfl rfl (fun r0 bE=>?_)
 simp only [ht] at bE
 have ec:=cU bE
 clear bE
 rcases ec with ⟨e1,e2,e3⟩|⟨i,x,hi,hil,e1,e2,e3,e4⟩
 ·cbv
  refine ai (fun h1=>?_) (fun h1=>?_)
  ·simp [ht] at h1
   cbv
   refine an trivial trivial rfl rfl rfl ?_
   (simp [BG, *];done)
  simp [ht] at h1
  omega
 obtain ⟨m,hm⟩:∃m,m+1=l.length:=⟨l.length-1,by omega⟩
 obtain ⟨i1,hi1⟩:∃n,n=i+1:=⟨_,rfl⟩
 obtain ⟨mi,CS⟩:∃n,n=m-i:=⟨_,rfl⟩
 have tr:=OQ aF hil hm
 rw [←hi1] at tr
 obtain ⟨R1,XK⟩:∃R,R=wrote (List.replicate m [D.int IntKind.u64 0,D.int IntKind.i64 0]) 0 (es.take i):=⟨_,rfl⟩
 obtain ⟨R2,XL⟩:∃R,R=wrote R1 i (es.drop i1):=⟨_,rfl⟩
 have hr:∀r∈es,r.length=2:=by rw [aF];intro r hr;obtain ⟨y,_,rfl⟩:=List.mem_map.1 hr;rfl
 have hw:IntKind.i64.wrap ((es.length:Int)-1)=(m:Int):=by rw [wrap64 (by omega) (by omega)];omega
 have hw1:IntKind.i64.wrap (r0+1)=(i1:Int):=by rw [wrap64 (by omega) (by omega)];omega
 have Jf:R1.length=m:=by rw [XK];simp [wrote];omega
 have acf:R2.length=m:=by rw [XL];simp [wrote,Jf];omega
 rw [←XK,←XL] at tr
 cbv
 refine ai (fun h2=>?_) (fun h2=>?_)
 ·simp [ht] at h2
  rw [hi] at h2;simp only [aa] at h2;exact absurd h2 (by omega)
 simp [ht] at h2
 cbv
 refine ⟨?_,?_⟩
 ·simp only [aa] at hw;simp only [ht,aa,hw];refine ⟨by omega,trivial,?_⟩;simp only [Int.toNat_natCast];omega
 refine ⟨fun c hc hc0=>?_⟩
 cbv
 simp only [aa] at hw hi hw1 tr
 have hcm:m≤c:=by simpa only [ht,aa,hw,Int.toNat_natCast] using hc
 refine ⟨?_,?_⟩
 ·simp only [ht,bS];exact ⟨⟨h2,by omega⟩,hr⟩
 refine bR (bq (i:Int)) [.row 2 R1] ?_ ?_ ?_ ?_
 ·simp only [ht,aa,hw,hi,gr,Int.toNat_natCast,fo,List.length_take,List.length_replicate]
  refine ⟨⟨by omega,fun h=>?_⟩,fun r h=>hr r (List.mem_of_mem_take (List.mem_of_mem_take h))⟩
  have:=congrArg List.length h
  simp only [List.length_replicate,List.length_nil] at this
  omega
 ·simp only [ht,aa,hw,hi,gr,Int.toNat_natCast,List.length_take]
  rw [Nat.min_eq_left (by omega),Nat.min_eq_left (by omega)]
 ·simp only [ht,aa,hw,hi,gr,Int.toNat_natCast,List.length_take]
  rw [XK,Nat.min_eq_left (by omega),Nat.min_eq_left (by omega),List.take_take,Nat.min_self]
 cbv
 refine bJ [false,false,false,false,false,false,false,true] (by kernel_rfl) (by kernel_rfl) ?_
 cbv
 refine gI (by simp) (gI (by simp) ?_)
 obtain ⟨ci,uH⟩:∃n,n=c-i:=⟨_,rfl⟩
 refine iX (.vw 0 2 i mi ci true) (fun _=>⟨?_,?_⟩) ?_
 ·simp only [ht,aa,hw,hi,dZ,bS,Int.toNat_natCast];omega
 ·simp only [ht,aa,hw,hi,aX,aV,Int.toNat_natCast,Option.getD_some,Nat.zero_add];rw [CS,uH]
 cbv
 refine gI (by simp) (gI (by simp) (gI (by simp) (gI (fun _=>?_) ?_)))
 ·simp only [ht,aa,hw1,bS];exact ⟨⟨by omega,by omega⟩,hr⟩
 refine bR (bq (mi:Int)) [.row 2 R2,.bA] ?_ ?_ ?_ ?_
 ·simp only [ht,aa,hw1,gr,Int.toNat_natCast,fo,List.length_drop]
  refine ⟨⟨by omega,fun h=>?_⟩,fun r h=>hr r (List.mem_of_mem_drop (List.mem_of_mem_take h))⟩
  rw [h] at Jf;simp only [List.length_nil] at Jf;omega
 ·simp only [ht,aa,hw1,gr,Int.toNat_natCast,List.length_drop]
  rw [Nat.min_eq_right (by omega)]
 ·simp only [ht,aa,hw1,gr,Int.toNat_natCast,List.length_drop]
  rw [XL,List.take_of_length_le (by rw [List.length_drop];omega)]
 cbv
 refine an trivial ?_ rfl rfl rfl ?_
 ·simp only [ht,aa,hw,Int.toNat_natCast];exact ⟨by omega,trivial⟩
 simp only [ht,aa,hw,Int.toNat_natCast,BG,e3,List.drop_zero,tr]
 rw [List.take_of_length_le (by rw [←tr];omega)]
theorem LB {l:List Jb} {id r:Int} (h:r=KR l id) {P:Jb→Prop} (hP:∀x∈l,P x):(r=-1∧l.findIdx? (fun j=>decide (j.id=id))=none)∨
 ∃(i:Nat) (xi xa xb xc xd xn xp xt xf:Int) (xq:aD) (xr:Bool) (xl:List Term),r=i∧i<l.length∧l[i]?=some ⟨xi,⟨xq,⟨xa,xb,xc,xd⟩,xn,xp,xt,xl⟩,xr,xf⟩∧l.findIdx? (fun j=>decide (j.id=id))=some i∧
  l.getD i Jb.zero=⟨xi,⟨xq,⟨xa,xb,xc,xd⟩,xn,xp,xt,xl⟩,xr,xf⟩∧P ⟨xi,⟨xq,⟨xa,xb,xc,xd⟩,xn,xp,xt,xl⟩,xr,xf⟩∧xi=id:=by
 rcases cU h with ⟨e1,e2,_⟩|⟨i,⟨xi,⟨xq,⟨xa,xb,xc,xd⟩,xn,xp,xt,xl⟩,xr,xf⟩,e1,e2,e3,e4,e5,_⟩
 ·exact .inl ⟨e1,e2⟩
 exact .inr ⟨i,xi,xa,xb,xc,xd,xn,xp,xt,xf,xq,xr,xl,e1,e2,e3,e5,by rw [List.getD_eq_getElem?_getD,e3];rfl,hP _ (List.mem_of_getElem? e3),by simpa using e4⟩
theorem jw (s:cH) (j:Jb):nF s j=⟨s.round,s.next,(nF s j).aW,(nF s j).tree,s.aI,s.queue,s.ev,s.au⟩:=rfl
theorem F1 (ht:TT t) (rd nx ef af:Int) {nl:List Node} {pl:List Place} {tl:List aR} {jl:List Jb} {ql:List bX} {el al:List bU} {ns ps ts js qs es cY:List (List D)} (gX:ns=nl.map Node.cells) (hps:ps=pl.map Place.cells) (hts:ts=tl.map aR.cells) (gi:js=jl.map Jb.cells) (fq:qs=ql.map bX.cells) (aF:es=el.map bU.cells) (has:cY=al.map bU.cells) (id kd:Int) (fR:∀x∈jl,x.x.fQ.u'∧x.x.path.length<1000000000000) (htl:tl.length<100000) (hjl:jl.length<1000000) (nQ:pl.length<1000000) (V3:ql.length<1000000) (hel:el.length<1000000):
 FC 30 [.agg [az rd,az nx,SL ns,SL ps,SL ts,SL js,SL qs,az ef,SL es,az af,SL cY],az id,bq kd] [] (.ret (Jd t (t _ fun _=>jJ ⟨rd,nx,⟨nl,pl⟩,tl,jl,ql,⟨ef,el⟩,⟨af,al⟩⟩ id kd))) []:=by
 refine bC ht (aE:=[]) Tryz.func30 (c:=_) rfl rfl (N:=49) rfl (rs:=_) rfl (n:=0) rfl rfl ?_
 cbv
 have fj:ns.length=nl.length:=by rw [gX,lgM]
 have fE:ps.length=pl.length:=by rw [hps,lgM]
 have fZ:ts.length=tl.length:=by rw [hts,lgM]
 have dy:js.length=jl.length:=by rw [gi,lgM]
 have dM:qs.length=ql.length:=by rw [fq,lgM]
 have ar:es.length=el.length:=by rw [aF,lgM]
 have dU:cY.length=al.length:=by rw [has,lgM]
 refine ay trivial (tv ht _ _ _ _ _ _ _ _ _ _ _ (by assumption) (by omega)) trivial rfl rfl (fun r0 bE=>?_)
 simp only [ht] at bE
 have ec:=LB bE fR
 clear bE
 rcases ec with ⟨e1,e2⟩|⟨i,xi,xa,xb,xc,xd,xn,xp,xt,xf,xq,xr,xl,e1,e2,e3,e4,e5,⟨e6,e7⟩,e8⟩
 ·cbv
  refine ai (fun h1=>?_) (fun h1=>?_)
  ·simp [ht] at h1
   cbv
   refine an trivial trivial rfl rfl rfl ?_
   (simp [jJ, *];done)
  simp [ht] at h1
  omega
 cbv
 refine ai (fun h2=>?_) (fun h2=>?_)
 ·simp [ht] at h2
  (simp only [aa] at*;omega)
 simp [ht] at h2
 cbv
 refine Bz ht gi (cT:=Jb.aH t) e3 (by assumption) (fun _=>rfl) (fun _=>(by (simp only [ht,Jb.aH];rfl))) ?_
 cbv
 refine ai (fun h4=>?_) (fun h4=>?_)
 ·simp [ht] at h4
  cbv
  refine an trivial trivial rfl rfl rfl ?_
  (simp only [ht,jJ,e4,e5];simp [*];done)
 simp [ht] at h4
 cbv
 refine aS trivial (Je ht _ _ _ _ (by assumption) (by assumption) (by assumption) (by assumption) (by assumption) (by assumption) (by assumption) _ _ _ _ _ _ _ _ _ _ _ (jH ht rfl) (by assumption) (by assumption) (by assumption) (by assumption)) trivial rfl rfl rfl (fun r5 jA=>?_)
 simp only [ht] at jA
 (rw [jw] at jA;generalize Qg:(nF ⟨rd,nx,⟨nl,pl⟩,tl,jl,ql,⟨ef,el⟩,⟨af,al⟩⟩ ⟨xi,⟨xq,⟨xa,xb,xc,xd⟩,xn,xp,xt,xl⟩,xr,xf⟩).aW=fp at jA;generalize hft:(nF ⟨rd,nx,⟨nl,pl⟩,tl,jl,ql,⟨ef,el⟩,⟨af,al⟩⟩ ⟨xi,⟨xq,⟨xa,xb,xc,xd⟩,xn,xp,xt,xl⟩,xr,xf⟩).tree=ft at jA;subst r5)
 cbv
 refine aS trivial (Cq ht _ _ (jH ht rfl) (by assumption)) trivial rfl rfl rfl (fun r6 gv=>?_)
 simp only [ht] at gv
 cbv
 refine aS trivial (Na ht _ _ _ _ (jH ht rfl) (jH ht rfl) (jH ht rfl) (jH ht rfl) (jH ht rfl) (jH ht rfl) (jH ht rfl) _ _ _ _ _ _ _ _ _ _ _ (jH ht rfl) (by assumption) (by assumption) (by assumption)) trivial rfl rfl rfl (fun r7 gL=>?_)
 simp only [ht] at gL
 have hwe:(r7).ev.l.length<1000000:=by rw [gL];exact hel
 cbv
 refine aS trivial (oR ht _ _ _ _ _ _ (jH ht rfl) (jH ht rfl) (jH ht rfl) (jH ht rfl) (jH ht rfl) (jH ht rfl) (jH ht rfl) (by assumption)) trivial rfl rfl rfl (fun r8 qy=>?_)
 simp only [ht] at qy
 cbv
 refine an trivial trivial rfl rfl rfl ?_
 (simp only [ht,jJ,e4,e5,qy,gL,gv];rw [jw,Qg,hft];simp [*];done)
theorem F2 (ht:TT t) (rd nx ef af:Int) {nl:List Node} {pl:List Place} {tl:List aR} {jl:List Jb} {ql:List bX} {el al:List bU} {ns ps ts js qs es cY:List (List D)} (gX:ns=nl.map Node.cells) (hps:ps=pl.map Place.cells) (hts:ts=tl.map aR.cells) (gi:js=jl.map Jb.cells) (fq:qs=ql.map bX.cells) (aF:es=el.map bU.cells) (has:cY=al.map bU.cells) (id kd:Int) (fR:∀x∈jl,x.x.fQ.u'∧x.x.path.length<1000000000000) (htl:tl.length<100000) (hjl:jl.length<1000000) (nQ:pl.length<1000000) (V3:ql.length<1000000) (hel:el.length<1000000):
 FC 22 [.agg [az rd,az nx,SL ns,SL ps,SL ts,SL js,SL qs,az ef,SL es,az af,SL cY],az id,bq kd] [] (.ret (Jd t (t _ fun _=>send ⟨rd,nx,⟨nl,pl⟩,tl,jl,ql,⟨ef,el⟩,⟨af,al⟩⟩ id kd))) []:=by
 refine bC ht (aE:=[]) Tryz.func22 (c:=_) rfl rfl (N:=48) rfl (rs:=_) rfl (n:=0) rfl rfl ?_
 cbv
 have fj:ns.length=nl.length:=by rw [gX,lgM]
 have fE:ps.length=pl.length:=by rw [hps,lgM]
 have fZ:ts.length=tl.length:=by rw [hts,lgM]
 have dy:js.length=jl.length:=by rw [gi,lgM]
 have dM:qs.length=ql.length:=by rw [fq,lgM]
 have ar:es.length=el.length:=by rw [aF,lgM]
 have dU:cY.length=al.length:=by rw [has,lgM]
 refine ay trivial (tv ht _ _ _ _ _ _ _ _ _ _ _ (by assumption) (by omega)) trivial rfl rfl (fun r0 bE=>?_)
 simp only [ht] at bE
 have ec:=LB bE fR
 clear bE
 rcases ec with ⟨e1,e2⟩|⟨i,xi,xa,xb,xc,xd,xn,xp,xt,xf,xq,xr,xl,e1,e2,e3,e4,e5,⟨e6,e7⟩,e8⟩
 ·cbv
  refine ai (fun h1=>?_) (fun h1=>?_)
  ·simp [ht] at h1
   cbv
   refine an trivial trivial rfl rfl rfl ?_
   (simp [send, *];done)
  simp [ht] at h1
  omega
 cbv
 refine ai (fun h2=>?_) (fun h2=>?_)
 ·simp [ht] at h2
  (simp only [aa] at*;omega)
 simp [ht] at h2
 cbv
 refine Bz ht gi (cT:=Jb.aH t) e3 (by assumption) (fun _=>rfl) (fun _=>(by (simp only [ht,Jb.aH];rfl))) ?_
 cbv
 refine ai (fun h4=>?_) (fun h4=>?_)
 ·cbv
  refine bJ [false,false,false,false,false,false,true,true] (by kernel_rfl) (by kernel_rfl) ?_
  cbv
  iterate 4 refine gI (by simp) ?_
  refine Bz ht gi (cT:=Jb.aH t) e3 (by assumption) (fun _=>rfl) (fun _=>(by (simp only [ht,Jb.aH];rfl))) ?_
  cbv
  refine gI (by simp) ?_
  refine aS trivial (Je ht _ _ _ _ (by assumption) (by assumption) (by assumption) (by assumption) (by assumption) (by assumption) (by assumption) _ _ _ _ _ _ _ _ _ _ _ (jH ht rfl) (by assumption) (by assumption) (by assumption) (by assumption)) trivial rfl rfl rfl (fun r6 gv=>?_)
  simp only [ht] at gv
  (rw [jw] at gv;generalize Qg:(nF ⟨rd,nx,⟨nl,pl⟩,tl,jl,ql,⟨ef,el⟩,⟨af,al⟩⟩ ⟨xi,⟨xq,⟨xa,xb,xc,xd⟩,xn,xp,xt,xl⟩,xr,xf⟩).aW=fp at gv;generalize hft:(nF ⟨rd,nx,⟨nl,pl⟩,tl,jl,ql,⟨ef,el⟩,⟨af,al⟩⟩ ⟨xi,⟨xq,⟨xa,xb,xc,xd⟩,xn,xp,xt,xl⟩,xr,xf⟩).tree=ft at gv;subst r6)
  cbv
  refine qn trivial (sg ht (jH ht rfl) (by assumption)) trivial rfl (.inr rfl) ?_
  cbv
  (simp only [aa] at e1;refine cE [3] trivial rfl rfl (wO ht (l:=jl) (i:=i) (by assumption) (by simp only [ht];rw [wrap64 (by omega) (by omega),e1]) e2 (by omega)) (bK ?_))
  cbv
  refine aS trivial (oR ht _ _ _ _ _ _ (jH ht rfl) (jH ht rfl) (jH ht rfl) (jH ht rfl) (jH ht rfl) (jH ht rfl) (jH ht rfl) (by assumption)) trivial rfl rfl rfl (fun r7 gL=>?_)
  simp only [ht] at gL
  cbv
  refine an trivial trivial rfl rfl rfl ?_
  (subst h4;simp only [ht,send,e4,e5,gL,if_true];rw [jw,Qg,hft];done)
 cbv
 refine aS trivial (Jg ht _ (by assumption) (by assumption)) trivial rfl rfl rfl (fun r8 qy=>?_)
 simp only [ht] at qy
 cbv
 refine qn trivial (sg ht (by assumption) (by assumption)) trivial rfl (.inr rfl) ?_
 cbv
 (simp only [aa] at e1;refine cE [2] trivial rfl rfl (wO ht (l:=jl) (i:=i) (by assumption) (by simp only [ht];rw [wrap64 (by omega) (by omega),e1]) e2 (by omega)) (bK ?_))
 cbv
 refine aS trivial (oR ht _ _ _ _ _ _ (by assumption) (by assumption) (by assumption) (jH ht rfl) (jH ht rfl) (by assumption) (by assumption) (by assumption)) trivial rfl rfl rfl (fun r9 dN=>?_)
 simp only [ht] at dN
 cbv
 refine an trivial trivial rfl rfl rfl ?_
 (simp only [ht,send,e4,e5];simp [*];done)
end Dem
end
