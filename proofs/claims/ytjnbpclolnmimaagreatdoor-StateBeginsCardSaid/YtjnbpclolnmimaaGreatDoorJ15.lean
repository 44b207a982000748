/- Parts of a proof, joined. -/
import Derived.Test.YtjnbpclolnmimaaGreatDoorJ14
import Derived.Laws.Externs
set_option linter.unusedSimpArgs false
set_option linter.unusedVariables false
set_option maxRecDepth 100000
set_option maxHeartbeats 4000000
section
open Go Dem Go.Proofs
namespace Dem
variable {t:Th}
theorem Ij (ht:TT t) {es:List (List D)} (aF:∀r∈es,r.length=7) (hs:es.length*80≤140737488355328) {m:Nat} (hm:m=es.length):
 FC 99 [SL es] [] (.ret (.ow 0 7 m)) [.row 7 es]:=by
 refine bC ht (aE:=[]) Tryz.func99 (c:=_) rfl rfl (N:=8) rfl (rs:=_) rfl (n:=0) rfl rfl ?_
 cbv
 refine ⟨fun b hb=>?_⟩
 simp only [ht] at hb
 cbv
 refine ai (fun h=>?_) (fun h=>?_)
 ·have he:=hb h
  subst he
  cbv
  exact Kz trivial rfl rfl (by rw [hm];rfl) rfl
 clear hb h
 cbv
 refine ⟨?_,?_⟩
 ·simp only [ht];simp;exact ⟨hs,aF⟩
 refine Fb trivial rfl rfl rfl rfl ?_ ?_
 ·simp only [ht];rw [hm];simp
 simp only [ht];rfl
theorem wi (ht:TT t) {es:List (List D)} (aF:∀r∈es,r.length=6) (hs:es.length*56≤140737488355328) {m:Nat} (hm:m=es.length):
 FC 144 [SL es] [] (.ret (.ow 0 6 m)) [.row 6 es]:=by
 refine bC ht (aE:=[]) Tryz.func144 (c:=_) rfl rfl (N:=8) rfl (rs:=_) rfl (n:=0) rfl rfl ?_
 cbv
 refine ⟨fun b hb=>?_⟩
 simp only [ht] at hb
 cbv
 refine ai (fun h=>?_) (fun h=>?_)
 ·have he:=hb h
  subst he
  cbv
  exact Kz trivial rfl rfl (by rw [hm];rfl) rfl
 clear hb h
 cbv
 refine ⟨?_,?_⟩
 ·simp only [ht];simp;exact ⟨hs,aF⟩
 refine Fb trivial rfl rfl rfl rfl ?_ ?_
 ·simp only [ht];rw [hm];simp
 simp only [ht];rfl
theorem C5 (ht:TT t) {es:List (List D)} {x:D} {row:List D} {i n c:Nat} (hn:n=es.length) (hi:i≤n) (hc:n≤c) (hc0:n=0→c=0) (aF:∀r∈es,r.length=7) (hrow:(x::row).length=7) (hs:n<1000000) {r:List (List D)} (hr:r=es.take i++(x::row)::es.drop i):
 FC 98 [.vw 0 7 0 n c true,bq (i:Int),SL [x::row]] [.row 7 es] (.ret (SL r)) [.dead]:=by
 obtain ⟨n1,CR⟩:∃n1,n1=n+1:=⟨_,rfl⟩
 obtain ⟨i1,hi1⟩:∃i1,i1=i+1:=⟨_,rfl⟩
 obtain ⟨ni,hni⟩:∃ni,ni=n-i:=⟨_,rfl⟩
 obtain ⟨ci,uH⟩:∃ci,ci=c-i:=⟨_,rfl⟩
 obtain ⟨zQ,Q6⟩:∃zQ,zQ=c-i1:=⟨_,rfl⟩
 obtain ⟨pR,uI⟩:∃pR,pR=n1-i:=⟨_,rfl⟩
 have hW:∀P:Prop,((IntKind.i64.wrap ((n:Int)+1)=(n1:Int))→(IntKind.i64.wrap ((n1:Int)-(i:Int))=(pR:Int))→(IntKind.i64.wrap ((i:Int)+1)=(i1:Int))→P)→P:=
  fun P h=>h (by rw [wrap64 (by omega) (by omega)];omega) (by rw [wrap64 (by omega) (by omega)];omega) (by rw [wrap64 (by omega) (by omega)];omega)
 have hrl:r.length=n1:=by rw [hr,List.length_append,List.length_cons,List.length_take,List.length_drop];omega
 have W4:n≠0→FC 153 [SL [x::row],.vw 0 7 i1 ni zQ true] [.row 7 es] (.ret (BL false)) [.row 7 es]:=fun h0=>
  ir KA Tryz.func153 rfl rfl rfl rfl (tS:=34) (tR:=4) rfl rfl (by intro h;rw [h] at hn;exact h0 hn)
 refine bC ht (aE:=[.row 7 es]) Tryz.func98 (c:=_) rfl rfl (N:=95) rfl (rs:=_) rfl (n:=1) rfl rfl ?_
 cbv
 refine bR (.vw 0 7 i ni ci true) [.row 7 es] ?_ ?_ rfl ?_
 ·simp [ht,dZ,bS];omega
 ·simp [ht,aX,aV,hni,uH]
 cbv
 refine qj (by simp [ht]) ?_
 cbv
 refine ai (fun h=>?_) (fun h=>?_)
 ·have hin:i=n:=by simp [ht,aa] at h;omega
  clear h
  cbv
  refine bR (.ow 1 7 n1) [.dead,.row 7 r] ?_ ?_ ?_ ?_
  ·simp only [ht]
   refine ⟨⟨hn,by simp;omega,?_⟩,rfl,hn,fun h=>⟨hc0 (by rw [hn,h];rfl),rfl⟩⟩
   intro r hr
   rcases List.mem_append.1 hr with hr|hr
   ·exact aF r hr
   simp at hr;subst hr;exact hrow
  ·simp [ht,CR,hn]
  ·simp only [ht];rw [hr]
   have:i=es.length:=by omega
   subst this;simp
  cbv
  refine an trivial ?_ rfl rfl rfl rfl
  simp only [ht];exact hrl.symm
 have hin:i<n:=by simp [ht,aa] at h;omega
 clear h
 have ya:r=(r.drop 0).take n1:=by rw [List.drop_zero,List.take_of_length_le (by omega)]
 cbv
 refine ai (fun h2=>?_) (fun h2=>?_)
 ·have W5:c=n:=by
   refine hW _ fun e1 e2 e3=>?_
   simp [ht,aa,e1] at h2;omega
  clear h2
  obtain ⟨L,hL⟩:∃L:List (List D),L=es.take i++List.replicate (es.length+1-i) [D.str [],D.int IntKind.u64 0,D.int IntKind.u64 0,D.int IntKind.u64 0,D.int IntKind.u64 0,D.sl [],D.bool false]:=⟨_,rfl⟩
  have JG:L.length=n1:=by rw [hL];simp;omega
  obtain ⟨L1,uJ⟩:∃L1,L1=wrote L i [x::row]:=⟨_,rfl⟩
  have mY:L1.length=n1:=by rw [uJ];simp [wrote,JG];omega
  have qA:r=wrote L1 i1 (es.drop i):=by rw [hi1,uJ,hL,wh (by omega),hr]
  cbv
  refine bR (.vw 0 7 0 i c true) [.row 7 es] ?_ ?_ rfl ?_
  ·simp [ht,dZ,bS];omega
  ·simp [ht,aX,aV]
  cbv
  refine bR (.vw 1 7 0 n1 n1 false) [.row 7 es,.row 7 L] ?_ ?_ ?_ ?_
  ·refine hW _ fun e1 e2 e3=>?_
   simp [ht,aa,e1,e2];omega
  ·refine hW _ fun e1 e2 e3=>?_
   simp [ht,aa,e1,e2];omega
  ·refine hW _ fun e1 e2 e3=>?_
   simp [ht,aa,e1,e2,hL];omega
  cbv
  refine bR (.vw 1 7 i pR pR false) [.row 7 es,.row 7 L] ?_ ?_ rfl ?_
  ·simp [ht,dZ,bS];omega
  ·simp [ht,aX,aV,uI]
  cbv
  refine bR (bq 1) [.row 7 es,.row 7 L1] ?_ ?_ ?_ ?_
  ·simp only [ht,fo]
   refine ⟨⟨by omega,?_⟩,?_⟩
   ·intro h;rw [h] at JG;simp at JG;omega
   intro r hr;have:=List.mem_of_mem_take hr;simp at this;rw [this];exact hrow
  ·simp [ht,aa];omega
  ·simp [ht,uJ,show min 1 pR=1 by omega]
  cbv
  refine bJ [false,false,false,false,false,false,false,false,true] (by kernel_rfl) (by kernel_rfl) ?_
  cbv
  repeat (refine gI (by (simp;done)) ?_)
  refine iX (.vw 1 7 i1 ni ni false) (fun _=>⟨?_,?_⟩) ?_
  ·refine hW _ fun e1 e2 e3=>?_
   simp [ht,aa,e3,dZ,bS];omega
  ·refine hW _ fun e1 e2 e3=>?_
   simp [ht,aa,e3,aX,aV];omega
  cbv
  repeat (refine gI (by (simp;done)) ?_)
  refine iX (.vw 0 7 i ni ci true) (fun _=>⟨?_,?_⟩) ?_
  ·simp [ht,dZ,bS];omega
  ·simp [ht,aX,aV,hni,uH]
  cbv
  refine bR (bq (ni:Nat)) [.row 7 es,.row 7 r,.bA] ?_ ?_ ?_ ?_
  ·simp only [ht,fo]
   refine ⟨by omega,⟨by omega,?_⟩,?_⟩
   ·intro h;rw [h] at mY;simp at mY;omega
   intro r hr;exact aF r (List.mem_of_mem_drop (List.mem_of_mem_take hr))
  ·simp [ht,aa]
  ·simp only [ht,qA]
   rw [List.take_of_length_le (by simp;omega)]
  cbv
  refine Bt [true] trivial ?_ rfl rfl rfl ?_
  ·simp only [ht];omega
  simp only [ht];rw [←ya]
 have W5:n<c:=by
  refine hW _ fun e1 e2 e3=>?_
  simp [ht,aa,e1] at h2;omega
 clear h2
 obtain ⟨L1,uJ⟩:∃L1,L1=wrote es i1 (es.drop i):=⟨_,rfl⟩
 have qA:r=wrote L1 i [x::row]:=by rw [uJ,hi1,Fs (by omega),hr]
 have mY:L1.length=n1:=by rw [uJ];simp [wrote];omega
 cbv
 refine bR (.vw 0 7 0 n1 c true) [.row 7 es] ?_ ?_ rfl ?_
 ·refine hW _ fun e1 e2 e3=>?_
  simp [ht,aa,e1,dZ,bS];omega
 ·refine hW _ fun e1 e2 e3=>?_
  simp [ht,aa,e1,aX,aV]
 cbv
 refine bR (.vw 0 7 i1 ni zQ true) [.row 7 es] ?_ ?_ rfl ?_
 ·refine hW _ fun e1 e2 e3=>?_
  simp [ht,aa,e3,dZ,bS];omega
 ·refine hW _ fun e1 e2 e3=>?_
  simp [ht,aa,e3,aX,aV];omega
 cbv
 refine dn trivial (W4 (by omega)) ?_
 cbv
 refine mS (by simp [ht]) ?_
 cbv
 refine bJ [false,false,false,false,false,false,false,false,true] (by kernel_rfl) (by kernel_rfl) ?_
 cbv
 repeat (refine gI (by (simp;done)) ?_)
 refine iX (.vw 0 7 i1 ni zQ true) (fun _=>⟨?_,?_⟩) ?_
 ·refine hW _ fun e1 e2 e3=>?_
  simp [ht,aa,e3,dZ,bS];omega
 ·refine hW _ fun e1 e2 e3=>?_
  simp [ht,aa,e3,aX,aV];omega
 cbv
 repeat (refine gI (by (simp;done)) ?_)
 refine iX (.vw 0 7 i pR ci true) (fun _=>⟨?_,?_⟩) ?_
 ·simp [ht,dZ,bS];omega
 ·simp [ht,aX,aV,uI,uH]
 cbv
 refine bR (bq (ni:Nat)) [.row 7 L1,.bA] ?_ ?_ ?_ ?_
 ·simp only [ht,fo]
  refine ⟨by omega,⟨by omega,?_⟩,?_⟩
  ·intro h;rw [h] at hn;simp at hn;omega
  intro r hr;exact aF r (List.mem_of_mem_drop (List.mem_of_mem_take hr))
 ·simp [ht,aa];omega
 ·simp only [ht,uJ]
  rw [List.take_of_length_le (by simp;omega)]
 cbv
 refine bR (.vw 0 7 i pR ci true) [.row 7 L1,.bA] ?_ ?_ rfl ?_
 ·simp [ht,dZ,bS];omega
 ·simp [ht,aX,aV,uI,uH]
 cbv
 refine bR (bq 1) [.row 7 r,.bA] ?_ ?_ ?_ ?_
 ·simp only [ht,fo]
  refine ⟨⟨by omega,?_⟩,?_⟩
  ·intro h;rw [h] at mY;simp at mY;omega
  intro r hr;have:=List.mem_of_mem_take hr;simp at this;rw [this];exact hrow
 ·simp [ht,aa];omega
 ·simp [ht,qA,show min 1 pR=1 by omega]
 cbv
 refine Bt [true] trivial ?_ rfl rfl rfl ?_
 ·simp only [ht];omega
 simp only [ht];rw [←ya]
theorem Ft (ht:TT t) {es:List (List D)} {x:D} {row:List D} {i n:Nat} (hn:n=es.length) (hi:i≤n) (aF:∀r∈es,r.length=7) (hrow:(x::row).length=7) (hs:n<1000000) {r:List (List D)} (hr:r=es.take i++(x::row)::es.drop i):
 FC 98 [.ow 0 7 n,bq (i:Int),SL [x::row]] [.row 7 es] (.ret (SL r)) [.dead]:=
 fJ fun c hc hc0=>C5 ht hn hi hc hc0 aF hrow hs hr
theorem Ik (ht:TT t) (bu:Int) {l:List (Place)} {es:List (List D)} (aF:es=l.map Place.cells) (f:Nat) (p:Place→Bool) (hl:l.length<9223372036854775807)
 (hf:∀x∈l,FC f [.agg [.d (.int .u64 x.bu),.d (.str x.node),.d (.int .u64 x.v.a),.d (.int .u64 x.v.b),.d (.int .u64 x.v.c),.d (.int .u64 x.v.d)],.ptr 1 0] [.var [.d (.int .u64 bu)],.var [.fn 175 [.ptr 0 0]]] (.ret (BL (p x))) [.var [.d (.int .u64 bu)],.var [.fn 175 [.ptr 0 0]]]) {r:Int} (hr:r=idxOf p l):FC 161 [SL es,.fn f [.ptr 1 0]] [.var [.d (.int .u64 bu)],.var [.fn 175 [.ptr 0 0]]] (.ret (bq r)) [.var [.d (.int .u64 bu)],.var [.fn 175 [.ptr 0 0]]]:=by
 have hel:es.length=l.length:=by rw [aF,lgM]
 obtain ⟨J,hJ⟩:∃J:Nat→Nat→Prop,∀n v,J n v↔(v+n=l.length∧∀i<v,∀x,l[i]?=some x→p x=false):=⟨fun n v=>v+n=l.length∧∀i<v,∀x,l[i]?=some x→p x=false,fun _ _=>Iff.rfl⟩
 refine bC ht (aE:=[.var [.d (.int .u64 bu)],.var [.fn 175 [.ptr 0 0]]]) Tryz.func161 (c:=_) rfl rfl (N:=19) rfl (rs:=_) rfl (n:=2) rfl rfl ?_
 cbv
 refine aZ ⟨[0,1,7,8],[],[]⟩ (σ:=Nat) (fun k=>[(8,bq (t _ fun _=>(k:Int)))]) (fun _=>[]) J ?_
 cbv
 refine aA ⟨l.length,0,(hJ _ _).2 ⟨by omega,by intro i hi;simp at hi⟩,by simp only [ht];rfl,?_⟩
 rintro n k hj
 obtain ⟨h2,h3⟩:=(hJ _ _).1 hj
 clear hj
 cbv
 refine ai (fun h=>?_) (fun h=>?_)
 ·simp only [ht,aa,decide_eq_true_eq] at h
  have hk:k<l.length:=by omega
  obtain ⟨x,hx⟩:∃x,l[k]?=some x:=⟨l[k],by simp⟩
  have og:x∈l:=List.mem_of_getElem? hx
  have gY:=hf x og
  obtain ⟨px,hpx⟩:∃b,b=p x:=⟨_,rfl⟩
  rw [←hpx] at gY
  obtain ⟨jb,nd,⟨v1,v2,v3,v4⟩⟩:=x
  cbv
  refine gS [.int .u64 jb,.str nd,.int .u64 v1,.int .u64 v2,.int .u64 v3,.int .u64 v4] ?_ ?_ ?_
  ·simp only [ht,aa];refine ⟨by omega,h,?_⟩;rw [aF];intro r hr;obtain ⟨y,_,rfl⟩:=List.mem_map.1 hr;rfl
  ·simp [ht,aa,aF,hx]
  cbv
  refine dn trivial gY ?_
  cbv
  refine ai (fun hb=>?_) (fun hb=>?_)
  ·cbv
   refine an trivial trivial rfl rfl rfl ?_
   have e:=cN hx (hpx▸hb) h3
   simp only [ht,aa,hr,idxOf,e]
  cbv
  refine aA ⟨n-1,k+1,⟨by omega,(hJ _ _).2 ⟨by omega,?_⟩⟩,?_⟩
  ·intro i hi y hy
   by_cases hik:i<k
   ·exact h3 i hik y hy
   have:i=k:=by omega
   subst this;rw [hx] at hy;cases hy;rw [←hpx];exact hb
  simp only [ht,aa,aC (show k<9223372036854775807 by omega)];rfl
 simp only [ht,aa,decide_eq_false_iff_not] at h
 have hk:¬k<l.length:=by omega
 clear h
 cbv
 refine an trivial trivial rfl rfl rfl ?_
 rw [hr,idxOf,cS]
 intro i y hy
 have:i<l.length:=by
  rcases Nat.lt_or_ge i l.length with h'|h';· exact h'
  simp [List.getElem?_eq_none h'] at hy
 exact h3 i (by omega) y hy
theorem Il (ht:TT t) (bu:Int) {l:List (Place)} {es:List (List D)} (aF:es=l.map Place.cells) {m c:Nat} (hm:m=l.length) (hc:m≤c) (f:Nat) (p:Place→Bool) (hl:l.length<9223372036854775807)
 (hf:∀x∈l,FC f [.agg [.d (.int .u64 x.bu),.d (.str x.node),.d (.int .u64 x.v.a),.d (.int .u64 x.v.b),.d (.int .u64 x.v.c),.d (.int .u64 x.v.d)],.ptr 1 0] [.var [.d (.int .u64 bu)],.var [.fn 175 [.ptr 0 0]]] (.ret (BL (p x))) [.var [.d (.int .u64 bu)],.var [.fn 175 [.ptr 0 0]]]) {r:List (List D)} (hr:r=(l.filter (fun x=>!p x)).map Place.cells):
 FC 205 [.vw 2 6 0 m c true,.fn f [.ptr 1 0]] [.var [.d (.int .u64 bu)],.var [.fn 175 [.ptr 0 0]],.row 6 es] (.ret (SL r)) [.var [.d (.int .u64 bu)],.var [.fn 175 [.ptr 0 0]],.dead]:=by
 have hel:es.length=m:=by rw [aF,lgM,hm]
 have hrows:∀r∈es,r.length=6:=by rw [aF];intro r hr;obtain ⟨y,_,rfl⟩:=List.mem_map.1 hr;rfl
 obtain ⟨k,hk⟩:∃k,k=idxOf p l:=⟨_,rfl⟩
 have KU:(t (List (List D)) fun _=>(es.drop 0).take m)=l.map Place.cells:=by simp only [ht];rw [List.drop_zero,List.take_of_length_le (by omega),aF]
 have hidx:=Ik ht bu KU f p hl hf hk
 obtain ⟨J,hJ⟩:∃J:Nat→Nat×Nat×List (List D)→Prop,∀n v,J n v↔(v.2.1+n=m∧v.1<v.2.1∧v.2.2.length=m∧(∀r∈v.2.2,r.length=6)∧v.2.2.take v.1=((l.take v.2.1).filter (fun x=>!p x)).map Place.cells∧v.2.2.drop v.2.1=es.drop v.2.1):=⟨fun n v=>v.2.1+n=m∧v.1<v.2.1∧v.2.2.length=m∧(∀r∈v.2.2,r.length=6)∧v.2.2.take v.1=((l.take v.2.1).filter (fun x=>!p x)).map Place.cells∧v.2.2.drop v.2.1=es.drop v.2.1,fun _ _=>Iff.rfl⟩
 refine bC ht (aE:=[.var [.d (.int .u64 bu)],.var [.fn 175 [.ptr 0 0]],.row 6 es]) Tryz.func205 (c:=_) rfl rfl (N:=42) rfl (rs:=_) rfl (n:=3) rfl rfl ?_
 cbv
 refine VW (TT.eq ht) (v:=bq k) [false,false,true] [0,1] trivial rfl ?_ rfl rfl rfl rfl rfl rfl rfl hidx ?_
 ·simp [ht];omega
 cbv
 refine ai (fun h=>?_) (fun h=>?_)
 ·have AD:k=-1:=by simp [ht] at h;exact h
  have hnone:=sN (hk▸AD:idxOf p l=-1)
  clear h
  cbv
  refine Bt [false,false,true] trivial ?_ rfl rfl rfl ?_
  ·simp only [ht];omega
  simp only [ht,hr];rw [filter_all hnone,←aF,List.drop_zero,List.take_of_length_le (by omega)]
 have AD:k≠-1:=by simp [ht] at h;exact h
 clear h
 obtain ⟨i0,x0,ZA,hx0,hp0,hb0⟩:=sO (hk▸AD:idxOf p l≠-1)
 rw [←hk] at ZA
 subst ZA
 have abF:i0<m:=by rw [hm];exact (List.getElem?_eq_some_iff.1 hx0).1
 cbv
 refine aZ ⟨[0,1,5,6],[],[]⟩ (σ:=Nat×Nat×List (List D)) (fun v=>[(5,bq (t _ fun _=>(v.1:Int))),(6,bq (t _ fun _=>(v.2.1:Int)))]) (fun v=>[(2,.row 6 (t _ fun _=>v.2.2))]) J ?_
 cbv
 refine aA ⟨m-(i0+1),(i0,i0+1,es),(hJ _ _).2 ⟨?_,?_,hel,hrows,?_,rfl⟩,by simp only [ht,aa,Int.ofNat_eq_natCast,aC (show i0<9223372036854775807 by omega)];rfl,?_⟩
 ·show i0+1+(m-(i0+1))=m;omega
 ·show i0<i0+1;omega
 ·show es.take i0=_
  rw [eU hx0,List.filter_append,filter_all hb0,aF,←List.map_take];simp [hp0]
 rintro n ⟨i,j,cur⟩ hj
 obtain ⟨j1,j2,j3,j4,j5,j6⟩:=(hJ _ _).1 hj
 clear hj
 simp only at j1 j2 j3 j4 j5 j6
 cbv
 refine ai (fun h=>?_) (fun h=>?_)
 ·have ZB:j<m:=by simp [ht,aa] at h;omega
  clear h
  obtain ⟨x,hx⟩:∃x,l[j]?=some x:=⟨l[j]'(by omega),by simp⟩
  have og:x∈l:=List.mem_of_getElem? hx
  have gY:=hf x og
  have Q7:cur[j]?=some (Place.cells x):=by
   have:(cur.drop j)[0]?=(es.drop j)[0]?:=by rw [j6]
   rw [List.getElem?_drop,List.getElem?_drop,Nat.add_zero,aF,List.getElem?_map,hx] at this
   exact this
  obtain ⟨px,hpx⟩:∃b,b=p x:=⟨_,rfl⟩
  rw [←hpx] at gY
  obtain ⟨cx,Pt⟩:∃cx,cx=Place.cells x:=⟨_,rfl⟩
  rw [←Pt] at Q7
  have hstep:(l.take (j+1)).filter (fun x=>!p x)=(l.take j).filter (fun x=>!p x)++(if px then [] else [x]):=by
   rw [eU hx,List.filter_append];cases px<;>simp [←hpx]
  obtain ⟨jb,nd,⟨v1,v2,v3,v4⟩⟩:=x
  cbv
  refine ⟨?_,WK [.int .u64 jb,.str nd,.int .u64 v1,.int .u64 v2,.int .u64 v3,.int .u64 v4] ?_ ?_ ?_⟩
  ·simp [ht,aa];omega
  ·simp [ht,aa,j3];omega
  ·simp [ht,aa,List.getD_eq_getElem?_getD,Q7,Pt]
  cbv
  refine cE [0,1] trivial rfl rfl gY (bK ?_)
  cbv
  refine ai (fun hb=>?_) (fun hb=>?_)
  ·have hb':px=false:=by simpa [ht] using hb
   clear hb
   obtain ⟨nc,hnc⟩:∃nc,nc=cur.set i cx:=⟨_,rfl⟩
   have uH:(cur.getD i []).length=6:=j4 _ (by rw [List.getD_eq_getElem?_getD,List.getElem?_eq_getElem (by omega)];exact List.getElem_mem _)
   cbv
   refine ⟨?_,?_⟩
   ·simp [ht,aa];omega
   refine ⟨?_,?_⟩
   ·simp [ht,aa,j3];exact ⟨by omega,by simpa using uH.symm▸(Nat.le_refl _)⟩
   refine aA ⟨n-1,(i+1,j+1,nc),⟨by omega,(hJ _ _).2 ⟨?_,?_,?_,?_,?_,?_⟩⟩,?_⟩
   ·show j+1+(n-1)=m;omega
   ·show i+1<j+1;omega
   ·show nc.length=m;rw [hnc,List.length_set];exact j3
   ·show ∀r∈nc,r.length=6
    intro r hr;rw [hnc] at hr
    rcases List.mem_or_eq_of_mem_set hr with hr|rfl
    ·exact j4 r hr
    rw [Pt];rfl
   ·show nc.take (i+1)=_
    rw [hnc,nZ _ _ _ (by omega),j5,hstep,hb',Pt];simp
   ·show nc.drop (j+1)=es.drop (j+1)
    rw [hnc,rS _ _ _ _ (by omega),←List.drop_drop,j6,List.drop_drop]
   simp only [ht,aa,Int.ofNat_eq_natCast,aC (show i<9223372036854775807 by omega),aC (show j<9223372036854775807 by omega)]
   have ei:0+((i:Int)).toNat=i:=by simp
   have e:cur.set i (bF (cur.getD i []) 0 [.int .u64 jb,.str nd,.int .u64 v1,.int .u64 v2,.int .u64 v3,.int .u64 v4])=nc:=by rw [hnc,nY _ _ (by rw [uH];rfl),Pt]
   simp only [ei,e];rfl
  have hb':px=true:=by simpa [ht] using hb
  clear hb
  cbv
  refine aA ⟨n-1,(i,j+1,cur),⟨by omega,(hJ _ _).2 ⟨?_,?_,j3,j4,?_,?_⟩⟩,?_⟩
  ·show j+1+(n-1)=m;omega
  ·show i<j+1;omega
  ·show cur.take i=_
   rw [j5,hstep,hb'];simp
  ·show cur.drop (j+1)=es.drop (j+1)
   rw [←List.drop_drop,j6,List.drop_drop]
  simp only [ht,aa,Int.ofNat_eq_natCast,aC (show j<9223372036854775807 by omega)];rfl
 have ZB:j=m:=by simp [ht,aa] at h;omega
 clear h
 obtain ⟨mi,CS⟩:∃mi,mi=m-i:=⟨_,rfl⟩
 obtain ⟨ci,uH⟩:∃ci,ci=c-i:=⟨_,rfl⟩
 obtain ⟨nc,hnc⟩:∃nc,nc=wrote cur i (List.replicate mi [.int .u64 0,.str [],.int .u64 0,.int .u64 0,.int .u64 0,.int .u64 0]):=⟨_,rfl⟩
 have hnt:nc.take i=r:=by
  have hl':(cur.take i).length=i:=by simp;omega
  rw [hnc,wrote,List.append_assoc,List.take_left' hl',j5,hr,ZB,hm,List.take_length]
 have abG:i≤nc.length:=by rw [hnc];simp [wrote];omega
 cbv
 refine bR (.vw 2 6 i mi ci true) [.var [.d (.int .u64 bu)],.var [.fn 175 [.ptr 0 0]],.row 6 cur] ?_ ?_ ?_ ?_
 ·simp [ht,aa,dZ,bS];omega
 ·simp [ht,aa,aX,aV,CS,uH]
 ·simp only [ht]
 cbv
 refine bR (.dF []) [.var [.d (.int .u64 bu)],.var [.fn 175 [.ptr 0 0]],.row 6 nc] ?_ rfl ?_ ?_
 ·simp [ht,fo]
  refine ⟨by omega,?_⟩
  intro h;rw [h] at j3;simp at j3;omega
 ·simp only [ht,hnc]
 cbv
 refine bR (.vw 2 6 0 i c true) [.var [.d (.int .u64 bu)],.var [.fn 175 [.ptr 0 0]],.row 6 nc] ?_ ?_ rfl ?_
 ·simp [ht,aa,dZ,bS];omega
 ·simp [ht,aa,aX,aV]
 cbv
 refine Bt [false,false,true] trivial ?_ rfl rfl rfl ?_
 ·simp only [ht];omega
 simp only [ht];rw [List.drop_zero,hnt]
theorem KV (ht:TT t) (bu:Int) {l:List (Place)} {es:List (List D)} (aF:es=l.map Place.cells) {m:Nat} (hm:m=l.length) (f:Nat) (p:Place→Bool) (hl:l.length<9223372036854775807)
 (hf:∀x∈l,FC f [.agg [.d (.int .u64 x.bu),.d (.str x.node),.d (.int .u64 x.v.a),.d (.int .u64 x.v.b),.d (.int .u64 x.v.c),.d (.int .u64 x.v.d)],.ptr 1 0] [.var [.d (.int .u64 bu)],.var [.fn 175 [.ptr 0 0]]] (.ret (BL (p x))) [.var [.d (.int .u64 bu)],.var [.fn 175 [.ptr 0 0]]]) {r:List (List D)} (hr:r=(l.filter (fun x=>!p x)).map Place.cells):
 FC 205 [.ow 2 6 m,.fn f [.ptr 1 0]] [.var [.d (.int .u64 bu)],.var [.fn 175 [.ptr 0 0]],.row 6 es] (.ret (SL r)) [.var [.d (.int .u64 bu)],.var [.fn 175 [.ptr 0 0]],.dead]:=
 fJ fun c hc _=>Il ht bu aF hm hc f p hl hf hr
theorem Ua (ht:TT t) (bu jb:Int) (nd:aD) (v1 v2 v3 v4:Int) {r:Bool} (hr:r=!decide (jb=bu)):FC 175 [.agg [.d (.int .u64 jb),.d (.str nd),.d (.int .u64 v1),.d (.int .u64 v2),.d (.int .u64 v3),.d (.int .u64 v4)],.ptr 0 0] [.var [.d (.int .u64 bu)]] (.ret (BL r)) [.var [.d (.int .u64 bu)]]:=by
 refine bC ht (aE:=[.var [.d (.int .u64 bu)]]) Tryz.func175 (c:=_) rfl rfl (N:=8) rfl (rs:=_) rfl (n:=1) rfl rfl ?_
 cbv
 refine an trivial trivial rfl rfl rfl ?_
 simp only [ht,hr]
theorem Ub (ht:TT t) (bu jb:Int) (nd:aD) (v1 v2 v3 v4:Int) {r:Bool} (hr:r=decide (jb=bu)):FC 206 [.agg [.d (.int .u64 jb),.d (.str nd),.d (.int .u64 v1),.d (.int .u64 v2),.d (.int .u64 v3),.d (.int .u64 v4)],.ptr 1 0] [.var [.d (.int .u64 bu)],.var [.fn 175 [.ptr 0 0]]] (.ret (BL r)) [.var [.d (.int .u64 bu)],.var [.fn 175 [.ptr 0 0]]]:=by
 obtain ⟨q,hq⟩:∃q,q=!decide (jb=bu):=⟨_,rfl⟩
 refine bC ht (aE:=[.var [.d (.int .u64 bu)],.var [.fn 175 [.ptr 0 0]]]) Tryz.func206 (c:=_) rfl rfl (N:=8) rfl (rs:=_) rfl (n:=2) rfl rfl ?_
 cbv
 refine cE [0] trivial rfl rfl (Ua ht bu jb nd v1 v2 v3 v4 hq) (bK ?_)
 cbv
 refine an trivial trivial rfl rfl rfl ?_
 simp only [ht,hr,hq];simp
theorem KW (ht:TT t) (bu:Int) {l:List Place} {es:List (List D)} (aF:es=l.map Place.cells) (hl:l.length<1000000) {r:List (List D)} (hr:r=(l.filter (fun x=>!decide (x.bu=bu))).map Place.cells):
 FC 174 [SL es,.fn 175 [.ptr 0 0]] [.var [.d (.int .u64 bu)]] (.ret (SL r)) [.var [.d (.int .u64 bu)]]:=by
 have hrows:∀r∈es,r.length=6:=by rw [aF];intro r hr;obtain ⟨y,_,rfl⟩:=List.mem_map.1 hr;rfl
 obtain ⟨m,hm⟩:∃m,m=l.length:=⟨_,rfl⟩
 have hel:m=es.length:=by rw [aF,lgM,hm]
 refine bC ht (aE:=[.var [.d (.int .u64 bu)]]) Tryz.func174 (c:=_) rfl rfl (N:=9) rfl (rs:=_) rfl (n:=1) rfl rfl ?_
 cbv
 refine qn trivial (wi ht hrows (by rw [←hel];omega) hel) trivial rfl (.inr rfl) ?_
 cbv
 refine cE [0,1,2] trivial rfl rfl (KV ht bu aF hm 206 (fun x=>decide (x.bu=bu)) (by omega) (fun x _=>Ub ht bu x.bu x.node x.v.a x.v.b x.v.c x.v.d rfl) hr) (bK ?_)
 cbv
 exact an trivial trivial rfl rfl rfl rfl
theorem KX (ht:TT t) (bu:Int) {ns:List (List D)} {l:List Place} {es:List (List D)} (aF:es=l.map Place.cells) (hl:l.length<1000000) {r:List (List D)} (hr:r=(l.filter (fun x=>!decide (x.bu=bu))).map Place.cells):
 FC 127 [.agg [SL ns,SL es],az bu] [] (.ret (.agg [SL ns,SL r])) []:=by
 refine bC ht (aE:=[]) Tryz.func127 (c:=_) rfl rfl (N:=12) rfl (rs:=_) rfl (n:=0) rfl rfl ?_
 cbv
 refine bJ [false,false,false,false,false,false,true,true] (by kernel_rfl) (by kernel_rfl) ?_
 cbv
 repeat (refine gI (by (simp;done)) ?_)
 refine .inl (WL [true,false,true] [1] (fun _=>⟨trivial,trivial,KW ht bu aF hl hr⟩) rfl rfl (.inr ⟨rfl,rfl⟩) rfl rfl rfl rfl ?_)
 cbv
 exact an trivial trivial rfl rfl rfl rfl
theorem Q8 (ht:TT t) (name nm:aD) (a b c d:Int) (lr:List (List D)) (up:Bool) {r:Bool} (hr:r=decide (nm=name)):
 FC 152 [.agg [.d (.str nm),.d (.int .u64 a),.d (.int .u64 b),.d (.int .u64 c),.d (.int .u64 d),.d (.sl lr),.d (.bool up)],.ptr 0 0] [.var [.d (.str name)]] (.ret (BL r)) [.var [.d (.str name)]]:=by
 refine bC ht (aE:=[.var [.d (.str name)]]) Tryz.func152 (c:=_) rfl rfl (N:=8) rfl (rs:=_) rfl (n:=1) rfl rfl ?_
 cbv
 refine an trivial trivial rfl rfl rfl ?_
 simp only [ht,hr]
theorem NT (ht:TT t) (name:aD) {l:List (Node)} {es:List (List D)} (aF:es=l.map Node.cells) (f:Nat) (p:Node→Bool) (hl:l.length<9223372036854775807)
 (hf:∀x∈l,FC f [.agg [.d (.str x.name),.d (.int .u64 x.cap.a),.d (.int .u64 x.cap.b),.d (.int .u64 x.cap.c),.d (.int .u64 x.cap.d),.d (.sl (x.labels.map bT.cells)),.d (.bool x.up)],.ptr 0 0] [.var [.d (.str name)]] (.ret (BL (p x))) [.var [.d (.str name)]]) {r:Int} (hr:r=idxOf p l):FC 96 [SL es,.fn f [.ptr 0 0]] [.var [.d (.str name)]] (.ret (bq r)) [.var [.d (.str name)]]:=by
 have hel:es.length=l.length:=by rw [aF,lgM]
 obtain ⟨J,hJ⟩:∃J:Nat→Nat→Prop,∀n v,J n v↔(v+n=l.length∧∀i<v,∀x,l[i]?=some x→p x=false):=⟨fun n v=>v+n=l.length∧∀i<v,∀x,l[i]?=some x→p x=false,fun _ _=>Iff.rfl⟩
 refine bC ht (aE:=[.var [.d (.str name)]]) Tryz.func96 (c:=_) rfl rfl (N:=19) rfl (rs:=_) rfl (n:=1) rfl rfl ?_
 cbv
 refine aZ ⟨[0,1,7,8],[],[]⟩ (σ:=Nat) (fun k=>[(8,bq (t _ fun _=>(k:Int)))]) (fun _=>[]) J ?_
 cbv
 refine aA ⟨l.length,0,(hJ _ _).2 ⟨by omega,by intro i hi;simp at hi⟩,by simp only [ht];rfl,?_⟩
 rintro n k hj
 obtain ⟨h2,h3⟩:=(hJ _ _).1 hj
 clear hj
 cbv
 refine ai (fun h=>?_) (fun h=>?_)
 ·simp only [ht,aa,decide_eq_true_eq] at h
  have hk:k<l.length:=by omega
  obtain ⟨x,hx⟩:∃x,l[k]?=some x:=⟨l[k],by simp⟩
  have og:x∈l:=List.mem_of_getElem? hx
  have gY:=hf x og
  obtain ⟨px,hpx⟩:∃b,b=p x:=⟨_,rfl⟩
  rw [←hpx] at gY
  obtain ⟨nm,⟨a,b,c,d⟩,lb,up⟩:=x;obtain ⟨lr,hlr⟩:∃lr:List (List D),lr=lb.map bT.cells:=⟨_,rfl⟩;simp only [←hlr] at gY
  cbv
  refine gS [.str nm,.int .u64 a,.int .u64 b,.int .u64 c,.int .u64 d,.sl lr,.bool up] ?_ ?_ ?_
  ·simp only [ht,aa];refine ⟨by omega,h,?_⟩;rw [aF];intro r hr;obtain ⟨y,_,rfl⟩:=List.mem_map.1 hr;rfl
  ·simp [ht,aa,aF,hx,hlr]
  cbv
  refine dn trivial gY ?_
  cbv
  refine ai (fun hb=>?_) (fun hb=>?_)
  ·cbv
   refine an trivial trivial rfl rfl rfl ?_
   have e:=cN hx (hpx▸hb) h3
   simp only [ht,aa,hr,idxOf,e]
  cbv
  refine aA ⟨n-1,k+1,⟨by omega,(hJ _ _).2 ⟨by omega,?_⟩⟩,?_⟩
  ·intro i hi y hy
   by_cases hik:i<k
   ·exact h3 i hik y hy
   have:i=k:=by omega
   subst this;rw [hx] at hy;cases hy;rw [←hpx];exact hb
  simp only [ht,aa,aC (show k<9223372036854775807 by omega)];rfl
 simp only [ht,aa,decide_eq_false_iff_not] at h
 have hk:¬k<l.length:=by omega
 clear h
 cbv
 refine an trivial trivial rfl rfl rfl ?_
 rw [hr,idxOf,cS]
 intro i y hy
 have:i<l.length:=by
  rcases Nat.lt_or_ge i l.length with h'|h';· exact h'
  simp [List.getElem?_eq_none h'] at hy
 exact h3 i (by omega) y hy
theorem MN (ht:TT t) (name:aD) {l:List Node} {es ps:List (List D)} (aF:es=l.map Node.cells) (hl:l.length<9223372036854775807) {r:Int} (hr:r=idxOf (fun x=>decide (x.name=name)) l):
 FC 95 [.agg [SL es,SL ps],ST name] [] (.ret (bq r)) []:=by
 refine bC ht (aE:=[]) Tryz.func95 (c:=_) rfl rfl (N:=9) rfl (rs:=_) rfl (n:=0) rfl rfl ?_
 cbv
 refine cE [1] trivial rfl rfl (NT ht name aF 152 (fun x=>decide (x.name=name)) hl (fun x _=>Q8 ht name x.name x.cap.a x.cap.b x.cap.c x.cap.d _ x.up rfl) hr) (bK ?_)
 cbv
 exact an trivial trivial rfl rfl rfl rfl
theorem Q9 (ht:TT t) (name:aD) {l:List Node} {es ps:List (List D)} (aF:es=l.map Node.cells) (hl:l.length<9223372036854775807) {nm:aD} {a b c d:Int} {lb:List bT} {up ok:Bool} (hr:gk name l=(⟨nm,⟨a,b,c,d⟩,lb,up⟩,ok)) {lr:List (List D)} (hlr:lr=lb.map bT.cells):
 FC 160 [.agg [SL es,SL ps],ST name] [] (.ret (.dF [.agg [.d (.str nm),.d (.int .u64 a),.d (.int .u64 b),.d (.int .u64 c),.d (.int .u64 d),.d (.sl lr),.d (.bool up)],BL ok])) []:=by
 have hrows:∀r∈es,r.length=7:=by rw [aF];intro r hr;obtain ⟨y,_,rfl⟩:=List.mem_map.1 hr;rfl
 obtain ⟨k,hk⟩:∃k,k=idxOf (fun x:Node=>decide (x.name=name)) l:=⟨_,rfl⟩
 have hneg:k<0→k=-1:=by intro h;rw [hk] at h ⊢;unfold idxOf at h ⊢;split at h<;>omega
 refine bC ht (aE:=[]) Tryz.func160 (c:=_) rfl rfl (N:=18) rfl (rs:=_) rfl (n:=0) rfl rfl ?_
 cbv
 refine gj trivial (MN ht name aF hl hk) trivial rfl rfl ?_
 cbv
 refine ai (fun h=>?_) (fun h=>?_)
 ·have AD:k=-1:=hneg (by simpa [ht] using h)
  clear h hneg
  have hp:=NJ (hk▸AD)
  rw [hr] at hp
  obtain ⟨⟨rfl,⟨rfl,rfl,rfl,rfl⟩,rfl,rfl⟩,rfl⟩:(nm=[]∧(a=0∧b=0∧c=0∧d=0)∧lb=[]∧up=false)∧ok=false:=by
   simpa [Node.zero,bz.zero] using hp
  have abH:lr=[]:=by rw [hlr];rfl
  subst abH
  clear hlr
  cbv
  exact an trivial trivial rfl rfl rfl rfl
 have AD:k≠-1:=by intro h1;rw [h1] at h;simp [ht] at h
 clear h hneg
 obtain ⟨i,x,h1,h2,h3⟩:=NK (hk▸AD)
 rw [hr] at h3
 simp only [Prod.mk.injEq] at h3
 obtain ⟨rfl,rfl⟩:=h3
 rw [←hk] at h1
 subst h1
 have hi:i<l.length:=(List.getElem?_eq_some_iff.1 h2).1
 have hel:es.length=l.length:=by rw [aF,lgM]
 cbv
 refine gS [.str nm,.int .u64 a,.int .u64 b,.int .u64 c,.int .u64 d,.sl lr,.bool up] ?_ ?_ ?_
 ·simp only [ht,aa,Int.ofNat_eq_natCast];exact ⟨by omega,by omega,hrows⟩
 ·simp [ht,aF,h2,hlr]
 cbv
 exact an trivial trivial rfl rfl rfl rfl
theorem Uc (x y:Int) {r s:Int} (hr:r=(((x.toNat+y.toNat)%18446744073709551616:Nat):Int)) (hs:s=(((x.toNat+y.toNat) / 18446744073709551616:Nat):Int)):
 FC 139 [.d (.int .u64 x),.d (.int .u64 y),.d (.int .u64 0)] [] (.ret (.dF [.d (.int .u64 r),.d (.int .u64 s)])) []:=by
 refine fcX Tryz.func139 (by kernel_rfl) (by kernel_rfl) (by kernel_rfl) (e:=add64Entry) (by kernel_rfl) ?_
 intro β w vs ok h
 simp only [aj,ah,aK] at h
 obtain ⟨_,_,rfl,rfl,_,_,rfl,rfl,_,_,rfl,rfl,rfl⟩:=h
 refine ⟨.tuple #[.int .u64 r,.int .u64 s],?_,?_⟩
 ·subst hr hs;rfl
 simp only [ah,aj,aK];exact ⟨_,rfl,_,_,rfl,rfl,_,_,rfl,rfl,rfl⟩
def W6:Array Value→Sem Value:=fun args=>do
 let (x,y,b) ←Extern.MathBitsCarry.three "Sub64" args
 pure (Extern.MathBitsCarry.pair ((x+Extern.MathBitsCarry.m64-y-b)%Extern.MathBitsCarry.m64) (if x<y+b then 1 else 0))
theorem Ud (x y:Int) {r s:Int} (hr:r=(((x.toNat+18446744073709551616-y.toNat)%18446744073709551616:Nat):Int)) (hs:s=((if x.toNat<y.toNat then 1 else 0:Nat):Int)):
 FC 214 [.d (.int .u64 x),.d (.int .u64 y),.d (.int .u64 0)] [] (.ret (.dF [.d (.int .u64 r),.d (.int .u64 s)])) []:=by
 refine fcX Tryz.func214 (by kernel_rfl) (by kernel_rfl) (by kernel_rfl) (e:=W6) (by kernel_rfl) ?_
 intro β w vs ok h
 simp only [aj,ah,aK] at h
 obtain ⟨_,_,rfl,rfl,_,_,rfl,rfl,_,_,rfl,rfl,rfl⟩:=h
 refine ⟨.tuple #[.int .u64 r,.int .u64 s],?_,?_⟩
 ·subst hr hs;rfl
 simp only [ah,aj,aK];exact ⟨_,rfl,_,_,rfl,rfl,_,_,rfl,rfl,rfl⟩
theorem NU (ht:TT t) (x y:Int) {r:Int} {ok:Bool} (h:(r,ok)=HR x y):
 FC 80 [.d (.int .u64 x),.d (.int .u64 y)] [] (.ret (.dF [.d (.int .u64 r),.d (.bool ok)])) []:=by
 obtain ⟨a,ha⟩:∃a:Int,a=(((x.toNat+y.toNat)%18446744073709551616:Nat):Int):=⟨_,rfl⟩
 obtain ⟨b,hb⟩:∃b:Int,b=(((x.toNat+y.toNat) / 18446744073709551616:Nat):Int):=⟨_,rfl⟩
 refine bC ht (aE:=[]) Tryz.func80 (c:=_) rfl rfl (N:=17) rfl (rs:=_) rfl (n:=0) rfl rfl ?_
 cbv
 refine gj trivial (Uc x y ha hb) trivial rfl rfl ?_
 cbv
 refine ai (fun hc=>?_) (fun hc=>?_)
 ·cbv
  refine an trivial trivial rfl rfl rfl ?_
  simp only [ht,aa,Bool.not_eq_true',decide_eq_false_iff_not] at hc ha hb
  simp only [HR] at h
  rw [if_neg (by omega)] at h
  cases h;rfl
 cbv
 refine an trivial trivial rfl rfl rfl ?_
 simp only [ht,aa,Bool.not_eq_false',decide_eq_true_eq] at hc ha hb
 simp only [HR] at h
 rw [if_pos (by omega)] at h
 cases h
 rw [ha,Nat.mod_eq_of_lt (by omega)]
theorem NV (ht:TT t) (x y:Int) {r:Int} {ok:Bool} (h:(r,ok)=HS x y):
 FC 188 [.d (.int .u64 x),.d (.int .u64 y)] [] (.ret (.dF [.d (.int .u64 r),.d (.bool ok)])) []:=by
 obtain ⟨a,ha⟩:∃a:Int,a=(((x.toNat+18446744073709551616-y.toNat)%18446744073709551616:Nat):Int):=⟨_,rfl⟩
 obtain ⟨b,hb⟩:∃b:Int,b=((if x.toNat<y.toNat then 1 else 0:Nat):Int):=⟨_,rfl⟩
 refine bC ht (aE:=[]) Tryz.func188 (c:=_) rfl rfl (N:=17) rfl (rs:=_) rfl (n:=0) rfl rfl ?_
 cbv
 refine gj trivial (Ud x y ha hb) trivial rfl rfl ?_
 cbv
 refine ai (fun hc=>?_) (fun hc=>?_)
 ·cbv
  refine an trivial trivial rfl rfl rfl ?_
  simp only [ht,aa,Bool.not_eq_true',decide_eq_false_iff_not] at hc ha hb
  simp only [HS] at h
  by_cases hlt:x.toNat<y.toNat
  ·rw [if_pos hlt] at h;cases h;rfl
  rw [if_neg hlt] at hb;exact absurd (by rw [hb];rfl) hc
 cbv
 refine an trivial trivial rfl rfl rfl ?_
 simp only [ht,aa,Bool.not_eq_false',decide_eq_true_eq] at hc ha hb
 simp only [HS] at h
 by_cases hlt:x.toNat<y.toNat
 ·rw [if_pos hlt] at hb;rw [hb] at hc;exact absurd hc (by decide)
 rw [if_neg hlt] at h;cases h
 have e:(x.toNat+18446744073709551616-y.toNat)%18446744073709551616=(x.toNat-y.toNat)%18446744073709551616:=by omega
 rw [ha,e]
theorem Ra (ht:TT t) (a0 a1 a2 a3 b0 b1 b2 b3:Int) (op:Int→Int→Int×Bool) (F:Nat) (hop:∀(x y r:Int) (ok:Bool),(r,ok)=op x y→FC F [.d (.int .u64 x),.d (.int .u64 y)] [] (.ret (.dF [.d (.int .u64 r),.d (.bool ok)])) [])
 {r0 r1 r2 r3:Int} {ok:Bool} (h:(⟨r0,r1,r2,r3⟩,ok)=both op ⟨a0,a1,a2,a3⟩ ⟨b0,b1,b2,b3⟩):
 FC 79 [.agg [.d (.int .u64 a0),.d (.int .u64 a1),.d (.int .u64 a2),.d (.int .u64 a3)],.agg [.d (.int .u64 b0),.d (.int .u64 b1),.d (.int .u64 b2),.d (.int .u64 b3)],.fn F []] []
  (.ret (.dF [.agg [.d (.int .u64 r0),.d (.int .u64 r1),.d (.int .u64 r2),.d (.int .u64 r3)],.d (.bool ok)])) []:=by
 obtain ⟨⟨s0,k0⟩,e0⟩:∃s,s=op a0 b0:=⟨_,rfl⟩
 obtain ⟨⟨s1,k1⟩,e1⟩:∃s,s=op a1 b1:=⟨_,rfl⟩
 obtain ⟨⟨s2,k2⟩,e2⟩:∃s,s=op a2 b2:=⟨_,rfl⟩
 obtain ⟨⟨s3,k3⟩,e3⟩:∃s,s=op a3 b3:=⟨_,rfl⟩
 have h0:(k0&&k1&&k2&&k3)=false→r0=0∧r1=0∧r2=0∧r3=0∧ok=false:=by
  intro hk;simp only [both,←e0,←e1,←e2,←e3] at h;rw [if_neg (by rw [hk];simp)] at h;cases h;exact ⟨rfl,rfl,rfl,rfl,rfl⟩
 have h1:(k0&&k1&&k2&&k3)=true→r0=s0∧r1=s1∧r2=s2∧r3=s3∧ok=true:=by
  intro hk;simp only [both,←e0,←e1,←e2,←e3] at h;rw [if_pos hk] at h;cases h;exact ⟨rfl,rfl,rfl,rfl,rfl⟩
 clear h
 have fin:∀{bx:List ax},(k0&&k1&&k2&&k3)=false→Bq 0 True (AV.dF [.agg [.d (.int .u64 0),.d (.int .u64 0),.d (.int .u64 0),.d (.int .u64 0)],.d (.bool false)]) bx (some (True,AV.dF [.agg [.d (.int .u64 0),.d (.int .u64 0),.d (.int .u64 0),.d (.int .u64 0)],.d (.bool false)]))
  (.ret (.dF [.agg [.d (.int .u64 r0),.d (.int .u64 r1),.d (.int .u64 r2),.d (.int .u64 r3)],.d (.bool ok)])) []:=by
  intro bx hk
  obtain ⟨rfl,rfl,rfl,rfl,rfl⟩:=h0 hk
  exact an trivial trivial rfl rfl rfl rfl
 refine bC ht (aE:=[]) Tryz.func79 (c:=_) rfl rfl (N:=34) rfl (rs:=_) rfl (n:=0) rfl rfl ?_
 cbv
 refine aZ ⟨[2,3,4,6,12,13],[],[]⟩ (σ:=Nat) (fun j=>[(13,.d (.int .i64 j))]) (fun j=>[(0,.var [.d (.int .u64 (bif Nat.blt 0 j then s0 else a0)),.d (.int .u64 (bif Nat.blt 1 j then s1 else a1)),.d (.int .u64 (bif Nat.blt 2 j then s2 else a2)),.d (.int .u64 (bif Nat.blt 3 j then s3 else a3))])])
  (fun n j=>n+j=4∧(0<j→k0=true)∧(1<j→k1=true)∧(2<j→k2=true)∧(3<j→k3=true)) ?_
 cbv
 refine aA ⟨4,0,⟨rfl,by omega,by omega,by omega,by omega⟩,rfl,?_⟩
 rintro n j ⟨hn,g0,g1,g2,g3⟩
 have hj:j=0∨j=1∨j=2∨j=3∨j=4:=by omega
 rcases hj with rfl|rfl|rfl|rfl|rfl
 ·cbv
  refine mS (by simp [ht]) ?_
  cbv
  refine ⟨by simp [ht],by simp [ht],gj trivial (hop _ _ _ _ e0) trivial rfl rfl ?_⟩
  cbv
  refine ai (fun hc=>?_) (fun hc=>?_)
  ·simp only [ht,Bool.not_eq_true'] at hc
   cbv
   exact fin (by simp [hc])
  simp only [ht,Bool.not_eq_false'] at hc
  cbv
  refine ⟨by simp [ht],?_⟩
  refine aA ⟨3-0,0+1,⟨⟨by omega,by omega,by simp_all,by simp_all,by simp_all,by simp_all⟩,?_⟩⟩
  simp only [ht];rfl
 ·cbv
  refine mS (by simp [ht]) ?_
  cbv
  refine ⟨by simp [ht],by simp [ht],gj trivial (hop _ _ _ _ e1) trivial rfl rfl ?_⟩
  cbv
  refine ai (fun hc=>?_) (fun hc=>?_)
  ·simp only [ht,Bool.not_eq_true'] at hc
   cbv
   exact fin (by simp [hc])
  simp only [ht,Bool.not_eq_false'] at hc
  cbv
  refine ⟨by simp [ht],?_⟩
  refine aA ⟨3-1,1+1,⟨⟨by omega,by omega,by simp_all,by simp_all,by simp_all,by simp_all⟩,?_⟩⟩
  simp only [ht];rfl
 ·cbv
  refine mS (by simp [ht]) ?_
  cbv
  refine ⟨by simp [ht],by simp [ht],gj trivial (hop _ _ _ _ e2) trivial rfl rfl ?_⟩
  cbv
  refine ai (fun hc=>?_) (fun hc=>?_)
  ·simp only [ht,Bool.not_eq_true'] at hc
   cbv
   exact fin (by simp [hc])
  simp only [ht,Bool.not_eq_false'] at hc
  cbv
  refine ⟨by simp [ht],?_⟩
  refine aA ⟨3-2,2+1,⟨⟨by omega,by omega,by simp_all,by simp_all,by simp_all,by simp_all⟩,?_⟩⟩
  simp only [ht];rfl
 ·cbv
  refine mS (by simp [ht]) ?_
  cbv
  refine ⟨by simp [ht],by simp [ht],gj trivial (hop _ _ _ _ e3) trivial rfl rfl ?_⟩
  cbv
  refine ai (fun hc=>?_) (fun hc=>?_)
  ·simp only [ht,Bool.not_eq_true'] at hc
   cbv
   exact fin (by simp [hc])
  simp only [ht,Bool.not_eq_false'] at hc
  cbv
  refine ⟨by simp [ht],?_⟩
  refine aA ⟨3-3,3+1,⟨⟨by omega,by omega,by simp_all,by simp_all,by simp_all,by simp_all⟩,?_⟩⟩
  simp only [ht];rfl
 cbv
 refine qj (by simp [ht]) ?_
 cbv
 obtain ⟨rfl,rfl,rfl,rfl,rfl⟩:=h1 (by simp [g0,g1,g2,g3])
 exact an trivial trivial rfl rfl rfl rfl
theorem Rb (ht:TT t) (a0 a1 a2 a3 b0 b1 b2 b3:Int) {r0 r1 r2 r3:Int} {ok:Bool} (h:(⟨r0,r1,r2,r3⟩,ok)=gT ⟨a0,a1,a2,a3⟩ ⟨b0,b1,b2,b3⟩):
 FC 26 [V4 a0 a1 a2 a3,V4 b0 b1 b2 b3] [] (.ret (.dF [V4 r0 r1 r2 r3,BL ok])) []:=by
 refine bC ht (aE:=[]) Tryz.func26 (c:=_) rfl rfl (N:=11) rfl (rs:=_) rfl (n:=0) rfl rfl ?_
 cbv
 refine gj trivial (Ra ht _ _ _ _ _ _ _ _ HR 80 (fun x y r ok=>NU ht x y) h) trivial rfl rfl ?_
 cbv
 exact an trivial trivial rfl rfl rfl rfl
theorem Fu (ht:TT t) (a0 a1 a2 a3 b0 b1 b2 b3:Int) {r0 r1 r2 r3:Int} {ok:Bool} (h:(⟨r0,r1,r2,r3⟩,ok)=gu ⟨a0,a1,a2,a3⟩ ⟨b0,b1,b2,b3⟩):
 FC 147 [V4 a0 a1 a2 a3,V4 b0 b1 b2 b3] [] (.ret (.dF [V4 r0 r1 r2 r3,BL ok])) []:=by
 refine bC ht (aE:=[]) Tryz.func147 (c:=_) rfl rfl (N:=11) rfl (rs:=_) rfl (n:=0) rfl rfl ?_
 cbv
 refine gj trivial (Ra ht _ _ _ _ _ _ _ _ HS 188 (fun x y r ok=>NV ht x y) h) trivial rfl rfl ?_
 cbv
 exact an trivial trivial rfl rfl rfl rfl
theorem Ue (ht:TT t) (a0 a1 a2 a3 b0 b1 b2 b3:Int) {ok:Bool} (h:ok=mU ⟨a0,a1,a2,a3⟩ ⟨b0,b1,b2,b3⟩):
 FC 88 [V4 a0 a1 a2 a3,V4 b0 b1 b2 b3] [] (.ret (BL ok)) []:=by
 obtain ⟨⟨⟨r0,r1,r2,r3⟩,k⟩,e⟩:∃s,s=gu ⟨b0,b1,b2,b3⟩ ⟨a0,a1,a2,a3⟩:=⟨_,rfl⟩
 have hk:ok=k:=by rw [h];unfold mU;rw [←e]
 refine bC ht (aE:=[]) Tryz.func88 (c:=_) rfl rfl (N:=14) rfl (rs:=_) rfl (n:=0) rfl rfl ?_
 cbv
 refine gj trivial (Fu ht _ _ _ _ _ _ _ _ e) trivial rfl rfl ?_
 cbv
 exact an trivial trivial rfl rfl rfl (by rw [hk])
theorem W7 (ht:TT t) (name:aD) {l:List Node} {ps:List Place} {es qs:List (List D)} (aF:es=l.map Node.cells) (fq:qs=ps.map Place.cells) (hl:l.length<9223372036854775807) (nQ:ps.length<9223372036854775807) {a b c d:Int} {ok:Bool} (hr:gE name l ps=(⟨a,b,c,d⟩,ok)):
 FC 102 [.agg [SL es,SL qs],ST name] [] (.ret (.dF [V4 a b c d,BL ok])) []:=by
 have hrows:∀r∈qs,r.length=6:=by rw [fq];intro r hr;obtain ⟨y,_,rfl⟩:=List.mem_map.1 hr;rfl
 have hel:qs.length=ps.length:=by rw [fq,lgM]
 obtain ⟨x,ZC,hf⟩:∃x ZC,gk name l=(x,ZC):=⟨_,_,rfl⟩
 obtain ⟨nm,⟨a0,b0,c0,d0⟩,lb,up⟩:=x
 obtain ⟨lr,hlr⟩:∃lr,lr=lb.map bT.cells:=⟨_,rfl⟩
 obtain ⟨J,hJ⟩:∃J:Nat→(bz×Bool)×Nat→Prop,∀n v,J n v↔(v.2+n=ps.length∧(ps.drop v.2).foldl (dD name) v.1=ps.foldl (dD name) (⟨a0,b0,c0,d0⟩,ZC)):=⟨fun n v=>v.2+n=ps.length∧(ps.drop v.2).foldl (dD name) v.1=ps.foldl (dD name) (⟨a0,b0,c0,d0⟩,ZC),fun _ _=>Iff.rfl⟩
 refine bC ht (aE:=[]) Tryz.func102 (c:=_) rfl rfl (N:=45) rfl (rs:=_) rfl (n:=0) rfl rfl ?_
 cbv
 refine HK trivial (Q9 ht name aF hl hf hlr) trivial rfl rfl rfl ?_
 cbv
 refine aZ ⟨[1,4,7,8,20,21,22],[],[]⟩ (σ:=(bz×Bool)×Nat) (fun v=>[(7,BL (t _ fun _=>v.1.2)),(22,bq (t _ fun _=>(v.2:Int)))]) (fun v=>[(1,.var [.d (.int .u64 (t _ fun _=>v.1.1.a)),.d (.int .u64 (t _ fun _=>v.1.1.b)),.d (.int .u64 (t _ fun _=>v.1.1.c)),.d (.int .u64 (t _ fun _=>v.1.1.d))])]) J ?_
 cbv
 refine aA ⟨ps.length,((⟨a0,b0,c0,d0⟩,ZC),0),(hJ _ _).2 ⟨by simp,by simp⟩,by simp only [ht];rfl,?_⟩
 rintro n ⟨⟨⟨a1,b1,c1,d1⟩,SW⟩,k⟩ hj
 obtain ⟨j1,j2⟩:=(hJ _ _).1 hj
 clear hj
 simp only at j1 j2
 cbv
 refine ai (fun h=>?_) (fun h=>?_)
 ·have hk:k<ps.length:=by simp [ht,aa] at h;omega
  clear h
  obtain ⟨x,hx⟩:∃x,ps[k]?=some x:=⟨ps[k],by simp⟩
  obtain ⟨jb,nd,⟨v1,v2,v3,v4⟩⟩:=x
  have hd:ps.drop k=⟨jb,nd,⟨v1,v2,v3,v4⟩⟩::ps.drop (k+1):=by
   rw [List.drop_eq_getElem_cons hk];congr 1
   rw [List.getElem?_eq_getElem hk] at hx;exact Option.some.inj hx
  rw [hd,List.foldl_cons] at j2
  cbv
  refine gS [.int .u64 jb,.str nd,.int .u64 v1,.int .u64 v2,.int .u64 v3,.int .u64 v4] ?_ ?_ ?_
  ·simp only [ht,aa];exact ⟨by omega,by omega,hrows⟩
  ·simp [ht,aa,fq,hx]
  cbv
  repeat (first|refine gI (by (simp [ht];done)) ?_|refine pI (by (simp [ht];done)) ?_)
  refine ai (fun hb=>?_) (fun hb=>?_)
  ·have hb':(SW&&decide (nd=name))=true:=by simp [ht] at hb ⊢;exact hb
   clear hb
   obtain ⟨⟨⟨r0,r1,r2,r3⟩,okr⟩,hv⟩:∃s,s=gu ⟨a1,b1,c1,d1⟩ ⟨v1,v2,v3,v4⟩:=⟨_,rfl⟩
   have hst:dD name (⟨a1,b1,c1,d1⟩,SW) ⟨jb,nd,⟨v1,v2,v3,v4⟩⟩=(⟨r0,r1,r2,r3⟩,okr):=by simp only [dD,hb',if_true];exact hv.symm
   rw [hst] at j2
   cbv
   refine gj trivial (Fu ht _ _ _ _ _ _ _ _ (by simp only [ht];exact hv)) trivial rfl rfl ?_
   cbv
   refine aA ⟨n-1,((⟨r0,r1,r2,r3⟩,okr),k+1),⟨by omega,(hJ _ _).2 ⟨by show k+1+(n-1)=_;omega,j2⟩⟩,?_⟩
   simp only [ht,aa,aC (show k<9223372036854775807 by omega)];rfl
  have hb':(SW&&decide (nd=name))=false:=by simp [ht] at hb ⊢;exact hb
  clear hb
  have hst:dD name (⟨a1,b1,c1,d1⟩,SW) ⟨jb,nd,⟨v1,v2,v3,v4⟩⟩=(⟨a1,b1,c1,d1⟩,SW):=by simp [dD,hb']
  rw [hst] at j2
  cbv
  refine aA ⟨n-1,((⟨a1,b1,c1,d1⟩,SW),k+1),⟨by omega,(hJ _ _).2 ⟨by show k+1+(n-1)=_;omega,j2⟩⟩,?_⟩
  simp only [ht,aa,aC (show k<9223372036854775807 by omega)];rfl
 have hk:k=ps.length:=by simp [ht,aa] at h;omega
 clear h
 rw [hk,List.drop_length,List.foldl_nil] at j2
 have Tc:(if SW then ((⟨a1,b1,c1,d1⟩:bz),SW) else (bz.zero,false))=(⟨a,b,c,d⟩,ok):=by rw [←hr,gE,hf,←j2]
 cbv
 refine ai (fun hb=>?_) (fun hb=>?_)
 ·have hb':SW=false:=by simpa [ht] using hb
  clear hb
  subst hb'
  obtain ⟨⟨rfl,rfl,rfl,rfl⟩,rfl⟩:(a=0∧b=0∧c=0∧d=0)∧ok=false:=by simpa [bz.zero,eq_comm] using Tc
  cbv
  exact an trivial trivial rfl rfl rfl rfl
 have hb':SW=true:=by simpa [ht] using hb
 clear hb
 subst hb'
 obtain ⟨⟨rfl,rfl,rfl,rfl⟩,rfl⟩:(a1=a∧b1=b∧c1=c∧d1=d)∧true=ok:=by simpa using Tc
 cbv
 refine an trivial trivial rfl rfl rfl ?_
 simp only [ht]
theorem Uf (ht:TT t) (name:aD) {l:List Node} {es ps:List (List D)} (aF:es=l.map Node.cells) (hl:l.length<9223372036854775807):
 FC 160 [.agg [SL es,SL ps],ST name] [] (.ret (QW t (t _ fun _=>gk name l))) []:=by
 simp only [ht]
 generalize hr:gk name l=r
 obtain ⟨⟨nm,⟨a,b,c,d⟩,lb,up⟩,ok⟩:=r
 exact (by simpa only [QW,QV,ht] using Q9 ht name aF hl hr rfl)
theorem Fv (ht:TT t) (name:aD) {l:List Node} {ps:List Place} {es qs:List (List D)} (aF:es=l.map Node.cells) (fq:qs=ps.map Place.cells) (hl:l.length<9223372036854775807) (nQ:ps.length<9223372036854775807):
 FC 102 [.agg [SL es,SL qs],ST name] [] (.ret (TP (t _ fun _=>gE name l ps))) []:=by
 simp only [ht]
 generalize hr:gE name l ps=r
 obtain ⟨⟨a,b,c,d⟩,ok⟩:=r
 exact W7 ht name aF fq hl nQ hr
theorem oJ (ht:TT t) (a b c d e f g h:Int):FC 88 [V4 a b c d,V4 e f g h] [] (.ret (bY (t _ fun _=>mU ⟨a,b,c,d⟩ ⟨e,f,g,h⟩))) []:=by
 simp only [ht];exact Ue ht _ _ _ _ _ _ _ _ rfl
theorem Ug (ht:TT t) (name:aD) (v0 v1 v2 v3:Int) {l:List Node} {ps:List Place} {es qs:List (List D)} (aF:es=l.map Node.cells) (fq:qs=ps.map Place.cells) (hl:l.length<9223372036854775807) (nQ:ps.length<9223372036854775807):
 FC 145 [.agg [SL es,SL qs],ST name,V4 v0 v1 v2 v3] [] (.ret (kR (t _ fun _=>qo name ⟨v0,v1,v2,v3⟩ l ps))) []:=by
 refine bC ht (aE:=[]) Tryz.func145 (c:=_) rfl rfl (N:=39) rfl (rs:=_) rfl (n:=0) rfl rfl ?_
 cbv
 refine aS trivial (Uf ht _ (by assumption) (by assumption)) trivial rfl rfl rfl (fun r0 bE=>?_)
 simp only [ht] at bE
 cbv
 refine ay trivial (Fv ht _ (by assumption) (by assumption) (by assumption) (by assumption)) trivial rfl rfl (fun r1 cX=>?_)
 simp only [ht] at cX
 cbv
 refine ai (fun h2=>?_) (fun h2=>?_)
 ·simp [ht] at h2
  cbv
  refine an trivial trivial rfl rfl rfl ?_
  (simp only [ht,qo];grind)
 simp [ht] at h2
 cbv
 refine ai (fun h3=>?_) (fun h3=>?_)
 ·simp [ht] at h3
  cbv
  refine an trivial trivial rfl rfl rfl ?_
  (simp only [ht,qo];grind)
 simp [ht] at h3
 cbv
 iterate 2 refine gI (by simp [ht]) ?_
 refine aM (fun g4=>⟨by simp [ht] at g4 ⊢;exact g4,trivial,oJ ht _ _ _ _ _ _ _ _⟩) rfl rfl (fun r5 jA=>?_)
 simp only [ht] at jA
 cbv
 refine gI (by simp [ht]) ?_
 refine pI (by simp [ht]) ?_
 refine ai (fun h6=>?_) (fun h6=>?_)
 ·simp [ht] at h6
  cbv
  refine an trivial trivial rfl rfl rfl ?_
  (simp_all [qo];done)
 simp [ht] at h6
 cbv
 refine an trivial trivial rfl rfl rfl ?_
 (simp_all [qo];done)
theorem C6 (ht:TT t) {ps:List Place} {es:List (List D)} (aF:es=ps.map Place.cells) (hs:ps.length<1000000000):
 FC 144 [SL es] [] (.ret (.ow 0 6 (t _ fun _=>(ps.map Place.cells).length))) [.row 6 (t _ fun _=>ps.map Place.cells)]:=by
 simp only [ht];subst aF
 refine wi ht ?_ ?_ (by simp)
 ·intro r hr;obtain ⟨y,_,rfl⟩:=List.mem_map.1 hr;rfl
 simp;omega
theorem W9 (ht:TT t) (bu:Int) (v0 v1 v2 v3:Int) {l:List Node} {ps:List Place} {names:List aD} {es qs ns:List (List D)} (aF:es=l.map Node.cells) (fq:qs=ps.map Place.cells) (gX:ns=names.map aT) (hl:l.length<1000000000) (nQ:ps.length<100000000) (GU:names.length<100000000):
 FC 83 [.agg [SL es,SL qs],az bu,SL ns,V4 v0 v1 v2 v3] [] (.ret (QX t (t _ fun _=>xM ⟨l,ps⟩ bu names ⟨v0,v1,v2,v3⟩))) []:=by
 refine bC ht (aE:=[]) Tryz.func83 (c:=_) rfl rfl (N:=45) rfl (rs:=_) rfl (n:=0) rfl rfl ?_
 cbv
 have ar:es.length=l.length:=by rw [aF,lgM]
 have dM:qs.length=ps.length:=by rw [fq,lgM]
 have fj:ns.length=names.length:=by rw [gX,lgM]
 refine bJ [false,false,false,false,false,false,false,true] (by kernel_rfl) (by kernel_rfl) ?_
 cbv
 iterate 4 refine gI (by simp) ?_
 refine .inr (MB trivial (C6 ht (by assumption) (by omega)) trivial rfl (.inr rfl) rfl ?_)
 cbv
 refine gI (by simp) ?_
 obtain ⟨J0,eg⟩:∃J0:Nat→Int×List (List D)→Prop,∀n i u,J0 n (i,u)↔(∃(k:Nat) (rs:List Place),i=k∧k+n=names.length∧u=rs.map Place.cells∧rs.length=ps.length+k∧fN l bu ⟨v0,v1,v2,v3⟩ names ps=fN l bu ⟨v0,v1,v2,v3⟩ (names.drop k) rs):=⟨fun n v=>match v with|(i,u)=>(∃(k:Nat) (rs:List Place),i=k∧k+n=names.length∧u=rs.map Place.cells∧rs.length=ps.length+k∧fN l bu ⟨v0,v1,v2,v3⟩ names ps=fN l bu ⟨v0,v1,v2,v3⟩ (names.drop k) rs),fun _ _ _=>Iff.rfl⟩
 refine aZ ⟨[1,4,7,8,10,20,21,22],[],[]⟩ (σ:=Int×List (List D)) (fun v=>[(22,.d (.int .i64 (t _ fun _=>v.1)))]) (fun v=>[(2,.var [AV.cl [],AV.cl []]),(4,.row 6 (t _ fun _=>v.2)),(3,.var [AV.d (D.sl es),.ow 4 6 (t _ fun _=>(v.2).length)])]) J0 ?_
 cbv
 refine aA ⟨names.length,(_,_),(eg _ _ _).2 ?_,by simp only [ht];rfl,?_⟩
 ·exact ⟨0,ps,rfl,by simp,by simp,by simp,by simp⟩
 rintro n ⟨i,u⟩ hj
 replace hj:=(eg _ _ _).1 hj
 obtain ⟨k,rs,rfl,j1,j2,j3,j4⟩:=hj
 have MO:u.length=rs.length:=by rw [j2,lgM]
 cbv
 refine ai (fun h1=>?_) (fun h1=>?_)
 ·simp [ht,aa,fj] at h1
  cbv
  refine dg ht gX (cT:=dR t) (by (simp only [ht,aa];omega)) (by (simp only [ht,aa];omega)) (fun _=>rfl) (fun _=>rfl) (fun x2 iw=>?_)
  simp [ht,aa] at iw
  rw [bO iw,fN] at j4
  cbv
  refine ay trivial (Ug ht _ _ _ _ _ (by assumption) (by (simp only [ht];omega)) (by omega) (by omega)) (by simp [ht]) rfl rfl (fun r3 gH=>?_)
  simp only [ht] at gH
  cbv
  refine ai (fun h4=>?_) (fun h4=>?_)
  ·simp [ht] at h4
   cbv
   refine an trivial trivial rfl rfl rfl ?_
   (simp only [ht,xM];grind)
  simp [ht] at h4
  cbv
  refine ⟨?_,?_⟩
  ·(simp only [ht,true_and];exact zb j2 (fun _=>rfl) rfl (by omega) (by decide))
  cbv
  refine bf (_,_) (by simp only [ht,←List.length_append];rfl) (n-1) ?_ ((eg _ _ _).2 ?_)
  ·omega
  simp only [aa]
  refine ⟨k+1,rs++[⟨bu,x2,⟨v0,v1,v2,v3⟩⟩],aC (by omega),by omega,?_,by simp;omega,?_⟩
  ·(simp [*];done)
  (simp_all;done)
 simp [ht,aa,fj] at h1
 cbv
 refine an trivial (by simp [ht]) rfl rfl rfl ?_
 (rw [List.drop_eq_nil_of_le (by omega),fN] at j4;simp [ht,xM,j4,aF,j2];done)
theorem Im (ht:TT t) (name:aD) {l:List Node} {es ps:List (List D)} (aF:es=l.map Node.cells) (hl:l.length<9223372036854775807):
 FC 95 [.agg [SL es,SL ps],ST name] [] (.ret (kR (t _ fun _=>idxOf (fun x=>decide (x.name=name)) l))) []:=by
 simp only [ht];exact MN ht name aF hl rfl
theorem wj (ht:TT t) {l:List Node} {es:List (List D)} (aF:es=l.map Node.cells) (hs:l.length<1000000000):
 FC 99 [SL es] [] (.ret (.ow 0 7 (t _ fun _=>(l.map Node.cells).length))) [.row 7 (t _ fun _=>l.map Node.cells)]:=by
 simp only [ht];subst aF
 refine Ij ht ?_ ?_ (by simp)
 ·intro r hr;obtain ⟨y,_,rfl⟩:=List.mem_map.1 hr;rfl
 simp;omega
def bT.aH (_:Th) (x:bT):List D:=[.str x.key,.str x.value]
theorem NW (ht:TT t) {l m:List bT} {es fs:List (List D)} (aF:es=l.map bT.cells) (qL:fs=m.map bT.cells) (hl:l.length<1000000000) (hm:m.length<1000000000):
 FC 128 [SL es,SL fs] [] (.ret (bY (t _ fun _=>decide (l=m)))) []:=by
 refine bC ht (aE:=[]) Tryz.func128 (c:=_) rfl rfl (N:=26) rfl (rs:=_) rfl (n:=0) rfl rfl ?_
 cbv
 have ar:es.length=l.length:=by rw [aF,lgM]
 have cD:fs.length=m.length:=by rw [qL,lgM]
 refine ai (fun h0=>?_) (fun h0=>?_)
 ·simp [ht,aa,ar,cD] at h0
  cbv
  refine an trivial trivial rfl rfl rfl ?_
  (simp [ht];rintro rfl;simp_all;done)
 simp [ht,aa,ar,cD] at h0
 cbv
 obtain ⟨J1,fe⟩:∃J1:Nat→Int→Prop,∀n i,J1 n i↔(∃k:Nat,i=k∧k+n=l.length∧l.length=m.length∧decide (l=m)=decide (l.drop k=m.drop k)):=⟨fun n v=>match v with|i=>(∃k:Nat,i=k∧k+n=l.length∧l.length=m.length∧decide (l=m)=decide (l.drop k=m.drop k)),fun _ _=>Iff.rfl⟩
 refine aZ ⟨[0,1,12,13],[],[]⟩ (σ:=Int) (fun v=>[(13,.d (.int .i64 (t _ fun _=>v)))]) (fun v=>[]) J1 ?_
 cbv
 refine aA ⟨l.length,_,(fe _ _).2 ?_,by simp only [ht];rfl,?_⟩
 ·(simp only [aa];grind)
 rintro n i hj
 replace hj:=(fe _ _).1 hj
 obtain ⟨k,rfl,j1,j2,j4⟩:=hj
 cbv
 refine ai (fun h2=>?_) (fun h2=>?_)
 ·simp [ht,aa,ar] at h2
  cbv
  refine bJ [false,false,false,false,false,false,false,false,true] (by kernel_rfl) (by kernel_rfl) ?_
  cbv
  iterate 2 refine gI (by simp) ?_
  refine dg ht aF (cT:=bT.aH t) (by (simp only [ht,aa];omega)) (by (simp only [ht,aa];omega)) (fun _=>rfl) (fun _=>rfl) (fun x3 ke=>?_)
  simp [ht,aa] at ke
  rw [bO ke] at j4
  cbv
  iterate 3 refine gI (by simp) ?_
  refine dg ht qL (cT:=bT.aH t) (by (simp only [ht,aa];omega)) (by (simp only [ht,aa];omega)) (fun _=>rfl) (fun _=>rfl) (fun x4 qt=>?_)
  simp [ht,aa] at qt
  rw [bO qt] at j4
  cbv
  refine gI (by simp) ?_
  refine ai (fun h5=>?_) (fun h5=>?_)
  ·simp [ht] at h5
   cbv
   refine an trivial trivial rfl rfl rfl ?_
   (simp [ht];rintro rfl;simp_all;done)
  simp [ht] at h5
  cbv
  refine bf _ rfl (n-1) ?_ ((fe _ _).2 ?_)
  ·omega
  simp only [ht,aa]
  refine ⟨k+1,aC (by omega),by omega,by omega,?_⟩
  (simp [TN, *];done)
 simp [ht,aa,ar] at h2
 cbv
 refine an trivial trivial rfl rfl rfl ?_
 (simp [ht,j4,List.drop_eq_nil_of_le (show l.length≤k by omega),List.drop_eq_nil_of_le (show m.length≤k by omega)];done)
theorem KY (ht:TT t) {l m:List Place} {es fs:List (List D)} (aF:es=l.map Place.cells) (qL:fs=m.map Place.cells) (hl:l.length<1000000000) (hm:m.length<1000000000):
 FC 71 [SL es,SL fs] [] (.ret (bY (t _ fun _=>decide (l=m)))) []:=by
 refine bC ht (aE:=[]) Tryz.func71 (c:=_) rfl rfl (N:=26) rfl (rs:=_) rfl (n:=0) rfl rfl ?_
 cbv
 have ar:es.length=l.length:=by rw [aF,lgM]
 have cD:fs.length=m.length:=by rw [qL,lgM]
 refine ai (fun h0=>?_) (fun h0=>?_)
 ·simp [ht,aa,ar,cD] at h0
  cbv
  refine an trivial trivial rfl rfl rfl ?_
  (simp [ht];rintro rfl;simp_all;done)
 simp [ht,aa,ar,cD] at h0
 cbv
 obtain ⟨J1,fe⟩:∃J1:Nat→Int→Prop,∀n i,J1 n i↔(∃k:Nat,i=k∧k+n=l.length∧l.length=m.length∧decide (l=m)=decide (l.drop k=m.drop k)):=⟨fun n v=>match v with|i=>(∃k:Nat,i=k∧k+n=l.length∧l.length=m.length∧decide (l=m)=decide (l.drop k=m.drop k)),fun _ _=>Iff.rfl⟩
 refine aZ ⟨[0,1,12,13],[],[]⟩ (σ:=Int) (fun v=>[(13,.d (.int .i64 (t _ fun _=>v)))]) (fun v=>[]) J1 ?_
 cbv
 refine aA ⟨l.length,_,(fe _ _).2 ?_,by simp only [ht];rfl,?_⟩
 ·(simp only [aa];grind)
 rintro n i hj
 replace hj:=(fe _ _).1 hj
 obtain ⟨k,rfl,j1,j2,j4⟩:=hj
 cbv
 refine ai (fun h2=>?_) (fun h2=>?_)
 ·simp [ht,aa,ar] at h2
  cbv
  refine bJ [false,false,false,false,false,false,false,false,true] (by kernel_rfl) (by kernel_rfl) ?_
  cbv
  iterate 2 refine gI (by simp) ?_
  refine dg ht aF (cT:=Place.aH t) (by (simp only [ht,aa];omega)) (by (simp only [ht,aa];omega)) (fun _=>rfl) (fun _=>rfl) (fun x3 ke=>?_)
  simp [ht,aa] at ke
  rw [bO ke] at j4
  cbv
  iterate 3 refine gI (by simp) ?_
  refine dg ht qL (cT:=Place.aH t) (by (simp only [ht,aa];omega)) (by (simp only [ht,aa];omega)) (fun _=>rfl) (fun _=>rfl) (fun x4 qt=>?_)
  simp [ht,aa] at qt
  rw [bO qt] at j4
  cbv
  refine gI (by simp) ?_
  refine ai (fun h5=>?_) (fun h5=>?_)
  ·simp [ht] at h5
   cbv
   refine an trivial trivial rfl rfl rfl ?_
   (simp [ht];rintro rfl;simp_all;done)
  simp [ht] at h5
  cbv
  refine bf _ rfl (n-1) ?_ ((fe _ _).2 ?_)
  ·omega
  simp only [ht,aa]
  refine ⟨k+1,aC (by omega),by omega,by omega,?_⟩
  (simp [QU,nT, *];done)
 simp [ht,aa,ar] at h2
 cbv
 refine an trivial trivial rfl rfl rfl ?_
 (simp [ht,j4,List.drop_eq_nil_of_le (show l.length≤k by omega),List.drop_eq_nil_of_le (show m.length≤k by omega)];done)
theorem NY (ht:TT t) (c:Int) {l:List (Int×Int)} {es:List (List D)} (aF:es=l.map (fun x=>[D.int .i32 x.1,D.int .i32 x.2])) (f:Nat) (p:Int×Int→Bool) (hl:l.length<9223372036854775807)
 (hf:∀x∈l,FC f [.agg [.d (.int .i32 x.1),.d (.int .i32 x.2)],.ptr 0 0] [.var [.d (.int .i32 c)]] (.ret (BL (p x))) [.var [.d (.int .i32 c)]]) {r:Int} (hr:r=idxOf p l):FC 216 [SL es,.fn f [.ptr 0 0]] [.var [.d (.int .i32 c)]] (.ret (bq r)) [.var [.d (.int .i32 c)]]:=by
 have hel:es.length=l.length:=by rw [aF,lgM]
 obtain ⟨J,hJ⟩:∃J:Nat→Nat→Prop,∀n v,J n v↔(v+n=l.length∧∀i<v,∀x,l[i]?=some x→p x=false):=⟨fun n v=>v+n=l.length∧∀i<v,∀x,l[i]?=some x→p x=false,fun _ _=>Iff.rfl⟩
 refine bC ht (aE:=[.var [.d (.int .i32 c)]]) Tryz.func216 (c:=_) rfl rfl (N:=19) rfl (rs:=_) rfl (n:=1) rfl rfl ?_
 cbv
 refine aZ ⟨[0,1,7,8],[],[]⟩ (σ:=Nat) (fun k=>[(8,bq (t _ fun _=>(k:Int)))]) (fun _=>[]) J ?_
 cbv
 refine aA ⟨l.length,0,(hJ _ _).2 ⟨by omega,by intro i hi;simp at hi⟩,by simp only [ht];rfl,?_⟩
 rintro n k hj
 obtain ⟨h2,h3⟩:=(hJ _ _).1 hj
 clear hj
 cbv
 refine ai (fun h=>?_) (fun h=>?_)
 ·simp only [ht,aa,decide_eq_true_eq] at h
  have hk:k<l.length:=by omega
  obtain ⟨x,hx⟩:∃x,l[k]?=some x:=⟨l[k],by simp⟩
  have og:x∈l:=List.mem_of_getElem? hx
  have gY:=hf x og
  obtain ⟨px,hpx⟩:∃b,b=p x:=⟨_,rfl⟩
  rw [←hpx] at gY
  obtain ⟨lo,hi⟩:=x
  cbv
  refine gS [.int .i32 lo,.int .i32 hi] ?_ ?_ ?_
  ·simp only [ht,aa];refine ⟨by omega,h,?_⟩;rw [aF];intro r hr;obtain ⟨y,_,rfl⟩:=List.mem_map.1 hr;rfl
  ·simp [ht,aa,aF,hx]
  cbv
  refine dn trivial gY ?_
  cbv
  refine ai (fun hb=>?_) (fun hb=>?_)
  ·cbv
   refine an trivial trivial rfl rfl rfl ?_
   have e:=cN hx (hpx▸hb) h3
   simp only [ht,aa,hr,idxOf,e]
  cbv
  refine aA ⟨n-1,k+1,⟨by omega,(hJ _ _).2 ⟨by omega,?_⟩⟩,?_⟩
  ·intro i hi y hy
   by_cases hik:i<k
   ·exact h3 i hik y hy
   have:i=k:=by omega
   subst this;rw [hx] at hy;cases hy;rw [←hpx];exact hb
  simp only [ht,aa,aC (show k<9223372036854775807 by omega)];rfl
 simp only [ht,aa,decide_eq_false_iff_not] at h
 have hk:¬k<l.length:=by omega
 clear h
 cbv
 refine an trivial trivial rfl rfl rfl ?_
 rw [hr,idxOf,cS]
 intro i y hy
 have:i<l.length:=by
  rcases Nat.lt_or_ge i l.length with h'|h';· exact h'
  simp [List.getElem?_eq_none h'] at hy
 exact h3 i (by omega) y hy
theorem NZ (ht:TT t) (c:Int) {l:List (Int×Int)} {es:List (List D)} (aF:es=l.map (fun x=>[D.int .i32 x.1,D.int .i32 x.2])) (f:Nat) (p:Int×Int→Bool) (hl:l.length<9223372036854775807)
 (hf:∀x∈l,FC f [.agg [.d (.int .i32 x.1),.d (.int .i32 x.2)],.ptr 0 0] [.var [.d (.int .i32 c)]] (.ret (BL (p x))) [.var [.d (.int .i32 c)]]) {r:Bool} (hr:r=l.any p):FC 190 [SL es,.fn f [.ptr 0 0]] [.var [.d (.int .i32 c)]] (.ret (BL r)) [.var [.d (.int .i32 c)]]:=by
 obtain ⟨k,hk⟩:∃k,k=idxOf p l:=⟨_,rfl⟩
 refine bC ht (aE:=[.var [.d (.int .i32 c)]]) Tryz.func190 (c:=_) rfl rfl (N:=9) rfl (rs:=_) rfl (n:=1) rfl rfl ?_
 cbv
 refine dn trivial (NY ht c aF f p hl hf hk) ?_
 cbv
 refine an trivial trivial rfl rfl rfl ?_
 simp only [ht,hr,eT,hk]
theorem Rc (ht:TT t) (c lo hi:Int) {r:Bool} (hr:r=(decide (lo≤c)&&decide (c≤hi))):FC 191 [.agg [.d (.int .i32 lo),.d (.int .i32 hi)],.ptr 0 0] [.var [.d (.int .i32 c)]] (.ret (BL r)) [.var [.d (.int .i32 c)]]:=by
 refine bC ht (aE:=[.var [.d (.int .i32 c)]]) Tryz.func191 (c:=_) rfl rfl (N:=14) rfl (rs:=_) rfl (n:=1) rfl rfl ?_
 cbv
 repeat (first|refine gI (by (simp [ht];done)) ?_|refine pI (by (simp [ht];done)) ?_)
 refine an trivial trivial rfl rfl rfl ?_
 simp [ht,hr]
theorem MP (ht:TT t) (c:Int) (l:List (Int×Int)) {es:List (List D)} (aF:es=l.map (fun x=>[D.int .i32 x.1,D.int .i32 x.2])) (hl:l.length<9223372036854775807) {r:Bool} (hr:r=HW c l):FC 150 [.d (.int .i32 c),SL es] [] (.ret (BL r)) []:=by
 refine bC ht (aE:=[]) Tryz.func150 (c:=_) rfl rfl (N:=8) rfl (rs:=_) rfl (n:=0) rfl rfl ?_
 cbv
 refine dn trivial (NZ ht c aF 191 (fun x=>decide (x.1≤c)&&decide (c≤x.2)) hl (fun x _=>Rc ht c x.1 x.2 rfl) hr) ?_
 cbv
 exact an trivial trivial rfl rfl rfl rfl
theorem Uh (ht:TT t) (s:aD) (hs:s.length<9223372036854775807) {r:Int} (hr:r=rN s):FC 192 [ST s] [] (.ret (bq r)) []:=by
 obtain ⟨J,hJ⟩:∃J:Nat→Nat×Nat→Prop,∀n v,J n v↔(s.length≤v.1+n∧v.2+(iA s n v.1).length=rN s):=⟨fun n v=>s.length≤v.1+n∧v.2+(iA s n v.1).length=rN s,fun _ _=>Iff.rfl⟩
 have hc:rN s≤s.length:=Bx s _ _
 refine bC ht (aE:=[]) Tryz.func192 (c:=_) rfl rfl (N:=10) rfl (rs:=_) rfl (n:=0) rfl rfl ?_
 cbv
 refine aZ ⟨[2,4],[],[]⟩ (σ:=Nat×Nat) (fun v=>[(2,bq (t _ fun _=>(v.2:Int)))]) (fun v=>[(0,.it s (t _ fun _=>v.1))]) J ?_
 cbv
 refine aA ⟨s.length,(0,0),(hJ _ _).2 ⟨by simp,by simp [rN,DN]⟩,by simp only [ht];rfl,?_⟩
 rintro n ⟨pos,k⟩ hj
 obtain ⟨hf,hj⟩:=(hJ _ _).1 hj
 cbv
 refine ⟨fun hp=>?_,fun hp=>?_⟩
 ·simp only [ht] at hp hj hf
  cases n with
  |zero=>exfalso;omega
  |succ n=>
  rw [iA,if_pos hp] at hj
  cbv
  refine mS rfl ?_
  cbv
  have hd:=MD s pos hp
  refine aA ⟨n,(pos+(dec s pos).2,k+1),⟨by omega,(hJ _ _).2 ⟨?_,?_⟩⟩,?_⟩
  ·show s.length≤pos+_+n;omega
  ·rw [←hj];simp only [List.length_cons];omega
  simp only [ht,aa,aC (show k<9223372036854775807 by simp at hj;omega)];rfl
 simp only [ht] at hp hj
 cbv
 refine qj rfl ?_
 cbv
 refine an trivial trivial rfl rfl rfl ?_
 have e:iA s n pos=[]:=by cases n with
  |zero=>rfl
  |succ n=>rw [iA,if_neg hp]
 rw [e] at hj
 simp only [ht,aa,hr,←hj];rfl
end Dem
end
