/- Parts of a proof, joined. -/
import Derived.Test.YtihohjnkkalgiaaGreatDoorM17
set_option linter.all false
set_option maxRecDepth 100000
set_option maxHeartbeats 4000000
section
open Go Dem Go.Proofs
namespace Dem
variable {t:Th}
def Jb.aU (t:Th) (j:Jb):List D:=[.int .u64 j.id,.str j.x.path,.int .u64 j.x.fK.a,.int .u64 j.x.fK.b,.int .u64 j.x.fK.c,.int .u64 j.x.fK.d,.int .i64 j.x.count,.int .i64 j.x.prio,.int .i64 j.x.fq,.sl (t _ fun _=>j.x.bY.map Term.cells),.bool j.runs,.int .i64 j.left]
def U4 (t:Th) (j:Jb):AV:=.agg [aA j.id,ST j.x.path,aA j.x.fK.a,aA j.x.fK.b,aA j.x.fK.c,aA j.x.fK.d,bI j.x.count,bI j.x.prio,bI j.x.fq,SL (t _ fun _=>j.x.bY.map Term.cells),BL j.runs,bI j.left]
def Bp (t:Th) (r:Jb×Bool):AV:=.eE [U4 t r.1,BL r.2]
theorem QW (ht:TT t) (id:Int) {l:List (Jb)} {es:List (List D)} (aB:es=l.map Jb.cells) (f:Nat) (p:Jb→Bool) (hl:l.length<9223372036854775807)
 (hf:∀x∈l,FC f [.agg [aA x.id,ST x.x.path,aA x.x.fK.a,aA x.x.fK.b,aA x.x.fK.c,aA x.x.fK.d,bI x.x.count,bI x.x.prio,bI x.x.fq,SL (x.x.bY.map Term.cells),BL x.runs,bI x.left],.ptr 0 0] [.var [aA id]] (.ret (BL (p x))) [.var [aA id]]) {r:Int} (hr:r=idxOf p l):FC 70 [SL es,.fn f [.ptr 0 0]] [.var [aA id]] (.ret (bI r)) [.var [aA id]]:=by
 have hel:es.length=l.length:=by rw [aB,lgM]
 obtain ⟨J,hJ⟩:∃J:Nat→Nat→Prop,∀n v,J n v↔(v+n=l.length∧∀i<v,∀x,l[i]?=some x→p x=false):=⟨fun n v=>v+n=l.length∧∀i<v,∀x,l[i]?=some x→p x=false,fun _ _=>Iff.rfl⟩
 refine bH ht (aF:=[.var [aA id]]) Tryz.func70 rfl rfl (N:=19) rfl rfl (n:=1) rfl rfl ?_
 cbv
 refine bF ⟨[0,1,7,8],[],[]⟩ (σ:=Nat) (fun k=>[(8,bI (t _ fun _=>(k:Int)))]) (fun _=>[]) J ?_
 cbv
 refine aD ⟨l.length,0,(hJ _ _).2 ⟨by omega,by intro i hi;simp at hi⟩,by simp only [ht];rfl,?_⟩
 rintro n k hj
 obtain ⟨h2,h3⟩:=(hJ _ _).1 hj
 clear hj
 cbv
 refine an (fun h=>?_) (fun h=>?_)
 ·simp only [ht,aa,decide_eq_true_eq] at h
  have hk:k<l.length:=by omega
  obtain ⟨x,hx⟩:∃x,l[k]?=some x:=⟨l[k],by simp⟩
  have mE:x∈l:=List.mem_of_getElem? hx
  have gz:=hf x mE
  obtain ⟨px,hpx⟩:∃b,b=p x:=⟨_,rfl⟩
  rw [←hpx] at gz
  obtain ⟨id',⟨p',⟨a',b',c',d'⟩,n',Xg,LB,sM⟩,Xh,Xi⟩:=x;obtain ⟨Hz,mz⟩:∃lr:List (List D),lr=sM.map Term.cells:=⟨_,rfl⟩;simp only [←mz] at gz
  cbv
  refine ic [.int .u64 id',.str p',.int .u64 a',.int .u64 b',.int .u64 c',.int .u64 d',.int .i64 n',.int .i64 Xg,.int .i64 LB,.sl Hz,.bool Xh,.int .i64 Xi] ?_ ?_ ?_
  ·simp only [ht,aa];refine ⟨by omega,h,?_⟩;rw [aB];intro r hr;obtain ⟨y,_,rfl⟩:=List.mem_map.1 hr;rfl
  ·simp [ht,aa,aB,hx,mz,Jb.cells]
  cbv
  refine dw trv gz ?_
  cbv
  refine an (fun hb=>?_) (fun hb=>?_)
  ·cbv
   refine av trv trv rfl rfl rfl ?_
   have e:=cV hx (hpx▸hb) h3
   simp only [ht,aa,hr,idxOf,e]
  cbv
  refine aD ⟨n-1,k+1,⟨by omega,(hJ _ _).2 ⟨by omega,?_⟩⟩,?_⟩
  ·intro i hi y hy
   by_cases hik:i<k
   ·exact h3 i hik y hy
   have:i=k:=by omega
   subst this;rw [hx] at hy;cases hy;rw [←hpx];exact hb
  simp only [ht,aa,aC (show k<9223372036854775807 by omega)];rfl
 simp only [ht,aa,decide_eq_false_iff_not] at h
 have hk:¬k<l.length:=by omega
 clear h
 cbv
 refine av trv trv rfl rfl rfl ?_
 rw [hr,idxOf,c7]
 intro i y hy
 have:i<l.length:=by
  rcases Nat.lt_or_ge i l.length with h'|h';· exact h'
  simp [List.getElem?_eq_none h'] at hy
 exact h3 i (by omega) y hy
theorem NC (ht:TT t) (id i n k l a b c d:Int) (p:aH) (sr:List (List D)) (rn:Bool) (lf:Int):FC 99 [.agg [aA i,ST p,aA a,aA b,aA c,aA d,bI n,bI k,bI l,SL sr,BL rn,bI lf],.ptr 0 0] [.var [aA id]] (.ret (BL (decide (i=id)))) [.var [aA id]]:=by
 refine bH ht (aF:=[.var [aA id]]) Tryz.func99 rfl rfl (N:=8) rfl rfl (n:=1) rfl rfl ?_
 cbv
 refine av trv trv rfl rfl rfl ?_
 simp [ht]
theorem sE (ht:TT t) (id rd nx ef af:Int) (ns ps ts qs el al:List (List D)) {l:List Jb} {es:List (List D)} (aB:es=l.map Jb.cells) (hl:l.length<1000000000):
 FC 43 [.agg [aA rd,aA nx,SL ns,SL ps,SL ts,SL es,SL qs,aA ef,SL el,aA af,SL al],aA id] [] (.ret (gm (t _ fun _=>JO l id))) []:=by
 obtain ⟨r,hr⟩:∃r,r=JO l id:=⟨_,rfl⟩
 refine bH ht (aF:=[]) Tryz.func43 rfl rfl (N:=9) rfl rfl (n:=0) rfl rfl ?_
 cbv
 refine dx [1] trv rfl rfl (QW ht id aB 99 (fun x=>decide (x.id=id)) (by omega) (fun x _=>NC ht id _ _ _ _ _ _ _ _ _ _ _ _) (r:=r) hr) (cz ?_)
 cbv
 exact av trv trv rfl rfl rfl (by simp [ht,hr])
theorem ij (ht:TT t) (id rd nx ef af:Int) (ns ps ts qs el al:List (List D)) {l:List Jb} {es:List (List D)} (aB:es=l.map Jb.cells) (hl:l.length<1000000000):
 FC 17 [.agg [aA rd,aA nx,SL ns,SL ps,SL ts,SL es,SL qs,aA ef,SL el,aA af,SL al],aA id] [] (.ret (Bp t (t _ fun _=>bG l id))) []:=by
 refine bH ht (aF:=[]) Tryz.func17 rfl rfl (N:=18) rfl rfl (n:=0) rfl rfl ?_
 cbv
 have ap:es.length=l.length:=by rw [aB,lgM]
 refine aM trv (sE ht _ _ _ _ _ _ _ _ _ _ _ ‹_› ‹_›) trv rfl rfl (fun r0 cN=>?_)
 simp only [ht] at cN
 have ec:=cF cN
 clear cN
 rcases ec with ⟨e1,e2,e3⟩|⟨i,x,hi,hil,e1,e2,e3,e4⟩
 ·cbv
  refine an (fun h1=>?_) (fun h1=>?_)
  ·simp [ht] at h1
   cbv
   refine av trv trv rfl rfl rfl ?_
   (simp [ht,bG,e3,Jb.zero,Ask.zero,bK.zero];done)
  simp [ht] at h1
  omega
 cbv
 refine an (fun h2=>?_) (fun h2=>?_)
 ·simp [ht] at h2
  (simp only [aa] at*;omega)
 simp [ht] at h2
 cbv
 refine wI ht aB (cT:=Jb.aU t) e1 ‹_› (fun _=>rfl) (fun _=>(by (simp only [ht,Jb.aU];rfl))) ?_
 cbv
 refine av trv trv rfl rfl rfl ?_
 (simp [ht,bG,e4];done)
theorem ND (ht:TT t) (ts:List (List D)) {l:List (aH)} {es:List (List D)} (aB:es=l.map bu) (f:Nat) (p:aH→Bool) (hl:l.length<9223372036854775807)
 (hf:∀x∈l,FC f [.d (.str x),.ptr 0 0] [.var [SL ts]] (.ret (BL (p x))) [.var [SL ts]]) {r:Int} (hr:r=idxOf p l):FC 199 [SL es,.fn f [.ptr 0 0]] [.var [SL ts]] (.ret (bI r)) [.var [SL ts]]:=by
 have hel:es.length=l.length:=by rw [aB,lgM]
 obtain ⟨J,hJ⟩:∃J:Nat→Nat→Prop,∀n v,J n v↔(v+n=l.length∧∀i<v,∀x,l[i]?=some x→p x=false):=⟨fun n v=>v+n=l.length∧∀i<v,∀x,l[i]?=some x→p x=false,fun _ _=>Iff.rfl⟩
 refine bH ht (aF:=[.var [SL ts]]) Tryz.func199 rfl rfl (N:=19) rfl rfl (n:=1) rfl rfl ?_
 cbv
 refine bF ⟨[0,1,7,8],[],[]⟩ (σ:=Nat) (fun k=>[(8,bI (t _ fun _=>(k:Int)))]) (fun _=>[]) J ?_
 cbv
 refine aD ⟨l.length,0,(hJ _ _).2 ⟨by omega,by intro i hi;simp at hi⟩,by simp only [ht];rfl,?_⟩
 rintro n k hj
 obtain ⟨h2,h3⟩:=(hJ _ _).1 hj
 clear hj
 cbv
 refine an (fun h=>?_) (fun h=>?_)
 ·simp only [ht,aa,decide_eq_true_eq] at h
  have hk:k<l.length:=by omega
  obtain ⟨x,hx⟩:∃x,l[k]?=some x:=⟨l[k],by simp⟩
  have mE:x∈l:=List.mem_of_getElem? hx
  have gz:=hf x mE
  obtain ⟨px,hpx⟩:∃b,b=p x:=⟨_,rfl⟩
  rw [←hpx] at gz
  skip
  cbv
  refine ic [.str x] ?_ ?_ ?_
  ·simp only [ht,aa];refine ⟨by omega,h,?_⟩;rw [aB];intro r hr;obtain ⟨y,_,rfl⟩:=List.mem_map.1 hr;rfl
  ·simp [ht,aa,aB,hx]
  cbv
  refine dw trv gz ?_
  cbv
  refine an (fun hb=>?_) (fun hb=>?_)
  ·cbv
   refine av trv trv rfl rfl rfl ?_
   have e:=cV hx (hpx▸hb) h3
   simp only [ht,aa,hr,idxOf,e]
  cbv
  refine aD ⟨n-1,k+1,⟨by omega,(hJ _ _).2 ⟨by omega,?_⟩⟩,?_⟩
  ·intro i hi y hy
   by_cases hik:i<k
   ·exact h3 i hik y hy
   have:i=k:=by omega
   subst this;rw [hx] at hy;cases hy;rw [←hpx];exact hb
  simp only [ht,aa,aC (show k<9223372036854775807 by omega)];rfl
 simp only [ht,aa,decide_eq_false_iff_not] at h
 have hk:¬k<l.length:=by omega
 clear h
 cbv
 refine av trv trv rfl rfl rfl ?_
 rw [hr,idxOf,c7]
 intro i y hy
 have:i<l.length:=by
  rcases Nat.lt_or_ge i l.length with h'|h';· exact h'
  simp [List.getElem?_eq_none h'] at hy
 exact h3 i (by omega) y hy
theorem NE (ht:TT t) (ts:List (List D)) {l:List (aH)} {es:List (List D)} (aB:es=l.map bu) (f:Nat) (p:aH→Bool) (hl:l.length<9223372036854775807)
 (hf:∀x∈l,FC f [.d (.str x),.ptr 0 0] [.var [SL ts]] (.ret (BL (p x))) [.var [SL ts]]) {r:Bool} (hr:r=l.any p):FC 156 [SL es,.fn f [.ptr 0 0]] [.var [SL ts]] (.ret (BL r)) [.var [SL ts]]:=by
 obtain ⟨k,hk⟩:∃k,k=idxOf p l:=⟨_,rfl⟩
 refine bH ht (aF:=[.var [SL ts]]) Tryz.func156 rfl rfl (N:=9) rfl rfl (n:=1) rfl rfl ?_
 cbv
 refine dw trv (ND ht ts aB f p hl hf hk) ?_
 cbv
 refine av trv trv rfl rfl rfl ?_
 simp only [ht,hr,fe,hk]
theorem QX (ht:TT t) (q:aH) {l:List be} {es:List (List D)} (aB:es=l.map be.cells) (hl:l.length<1000000000) {r:Bool} (hr:r=!(ri l q).2):
 FC 179 [ST q,.ptr 0 0] [.var [SL es]] (.ret (BL r)) [.var [SL es]]:=by
 refine bH ht (aF:=[.var [SL es]]) Tryz.func179 rfl rfl (N:=14) rfl rfl (n:=1) rfl rfl ?_
 cbv
 have ap:es.length=l.length:=by rw [aB,lgM]
 refine aM trv (QV ht _ ‹_› ‹_›) trv rfl rfl (fun r0 cN=>?_)
 simp only [ht] at cN
 cbv
 refine av trv trv rfl rfl rfl ?_
 (simp [*];done)
theorem wS (ht:TT t) (p:aH) {l:List be} {es:List (List D)} (aB:es=l.map be.cells) (hl:l.length<1000000000) (hp:p.length<1000000000000):
 FC 133 [SL es,ST p] [] (.ret (bX (t _ fun _=>gH l p))) []:=by
 have h1:=kg p
 have h2:=ig p
 obtain ⟨ws,hws⟩:∃ws,ws=mj p++[[]]:=⟨_,rfl⟩
 obtain ⟨r9,gK⟩:∃r,r=ws.any (fun q=>!(ri l q).2):=⟨_,rfl⟩
 refine bH ht (aF:=[]) Tryz.func133 rfl rfl (N:=12) rfl rfl (n:=0) rfl rfl ?_
 cbv
 have ap:es.length=l.length:=by rw [aB,lgM]
 refine jV trv (Md ht p ‹_›) trv rfl (.inr rfl) ?_
 cbv
 refine ⟨?_,?_⟩
 ·(simp only [ht];grind)
 cbv
 (refine UW (v:=BL r9) trv rfl (by simp [ht]) (by exact de [0] rfl rfl rfl rfl (NE ht es (l:=ws) (by simp only [ht,hws];simp) 179 (fun q=>!(ri l q).2) (by rw [hws];simp;omega) (fun x _=>QX ht x aB hl rfl) gK)) ?_)
 cbv
 refine av trv trv rfl rfl rfl ?_
 (simp only [ht,gH,←hws,←gK];done)
theorem Bq (ht:TT t) {es:List (List D)} (aB:∀r∈es,r.length=9) (hs:es.length*80≤140737488355328) {m:Nat} (hm:m=es.length):
 FC 106 [SL es] [] (.ret (.ow 0 9 m)) [.row 9 es]:=by
 refine bH ht (aF:=[]) Tryz.func106 rfl rfl (N:=8) rfl rfl (n:=0) rfl rfl ?_
 cbv
 refine ⟨fun b hb=>?_⟩
 simp only [ht] at hb
 cbv
 refine an (fun h=>?_) (fun h=>?_)
 ·have he:=hb h
  subst he
  cbv
  exact GO trv rfl rfl (by rw [hm];rfl) rfl
 clear hb h
 cbv
 refine ⟨?_,?_⟩
 ·simp only [ht];simp;exact ⟨hs,aB⟩
 refine Cp trv rfl rfl rfl rfl ?_ ?_
 ·simp only [ht];rw [hm];simp
 simp only [ht];rfl
theorem ER (ht:TT t) {es:List (List D)} {x:D} {row:List D} {i n c:Nat} (hn:n=es.length) (hi:i≤n) (hc:n≤c) (hc0:n=0→c=0) (aB:∀r∈es,r.length=9) (hrow:(x::row).length=9) (hs:n<1000000) {r:List (List D)} (hr:r=es.take i++(x::row)::es.drop i):
 FC 144 [.vw 0 9 0 n c true,bI (i:Int),SL [x::row]] [.row 9 es] (.ret (SL r)) [.dead]:=by
 obtain ⟨n1,CS⟩:∃n1,n1=n+1:=⟨_,rfl⟩
 obtain ⟨i1,hi1⟩:∃i1,i1=i+1:=⟨_,rfl⟩
 obtain ⟨ni,hni⟩:∃ni,ni=n-i:=⟨_,rfl⟩
 obtain ⟨ci,qf⟩:∃ci,ci=c-i:=⟨_,rfl⟩
 obtain ⟨wO,Ka⟩:∃wO,wO=c-i1:=⟨_,rfl⟩
 obtain ⟨pG,ug⟩:∃pG,pG=n1-i:=⟨_,rfl⟩
 have hW:∀P:Prop,((IntKind.i64.wrap ((n:Int)+1)=(n1:Int))→(IntKind.i64.wrap ((n1:Int)-(i:Int))=(pG:Int))→(IntKind.i64.wrap ((i:Int)+1)=(i1:Int))→P)→P:=
  fun P h=>h (by rw [wrap64 (by omega) (by omega)];omega) (by rw [wrap64 (by omega) (by omega)];omega) (by rw [wrap64 (by omega) (by omega)];omega)
 have hrl:r.length=n1:=by rw [hr,List.length_append,List.length_cons,List.length_take,List.length_drop];omega
 have VY:n≠0→FC 186 [SL [x::row],.vw 0 9 i1 ni wO true] [.row 9 es] (.ret (BL false)) [.row 9 es]:=fun h0=>
  iz P9 Tryz.func186 rfl rfl rfl rfl (tS:=29) (tR:=4) rfl rfl (by intro h;rw [h] at hn;exact h0 hn)
 refine bH ht (aF:=[.row 9 es]) Tryz.func144 rfl rfl (N:=95) rfl rfl (n:=1) rfl rfl ?_
 cbv
 refine bL (.vw 0 9 i ni ci true) [.row 9 es] ?_ ?_ rfl ?_
 ·simp [ht,dO,bO];omega
 ·simp [ht,aY,aT,hni,qf]
 cbv
 refine nR (by simp [ht]) ?_
 cbv
 refine an (fun h=>?_) (fun h=>?_)
 ·have hin:i=n:=by simp [ht,aa] at h;omega
  clear h
  cbv
  refine bL (.ow 1 9 n1) [.dead,.row 9 r] ?_ ?_ ?_ ?_
  ·simp only [ht]
   refine ⟨⟨hn,by simp;omega,?_⟩,rfl,hn,fun h=>⟨hc0 (by rw [hn,h];rfl),rfl⟩⟩
   intro r hr
   rcases List.mem_append.1 hr with hr|hr
   ·exact aB r hr
   simp at hr;subst hr;exact hrow
  ·simp [ht,CS,hn]
  ·simp only [ht];rw [hr]
   have:i=es.length:=by omega
   subst this;simp
  cbv
  refine av trv ?_ rfl rfl rfl rfl
  simp only [ht];exact hrl.symm
 have hin:i<n:=by simp [ht,aa] at h;omega
 clear h
 have Be:r=(r.drop 0).take n1:=by rw [List.drop_zero,List.take_of_length_le (by omega)]
 cbv
 refine an (fun h2=>?_) (fun h2=>?_)
 ·have VZ:c=n:=by
   refine hW _ fun e1 e2 e3=>?_
   simp [ht,aa,e1] at h2;omega
  clear h2
  obtain ⟨L,hL⟩:∃L:List (List D),L=es.take i++List.replicate (es.length+1-i) [D.str [],D.int IntKind.u64 0,D.int IntKind.u64 0,D.int IntKind.u64 0,D.int IntKind.u64 0,D.int IntKind.u64 0,D.int IntKind.u64 0,D.int IntKind.u64 0,D.int IntKind.u64 0]:=⟨_,rfl⟩
  have IT:L.length=n1:=by rw [hL];simp;omega
  obtain ⟨L1,uh⟩:∃L1,L1=wrote L i [x::row]:=⟨_,rfl⟩
  have mw:L1.length=n1:=by rw [uh];simp [wrote,IT];omega
  have pX:r=wrote L1 i1 (es.drop i):=by rw [hi1,uh,hL,vF (by omega),hr]
  cbv
  refine bL (.vw 0 9 0 i c true) [.row 9 es] ?_ ?_ rfl ?_
  ·simp [ht,dO,bO];omega
  ·simp [ht,aY,aT]
  cbv
  refine bL (.vw 1 9 0 n1 n1 false) [.row 9 es,.row 9 L] ?_ ?_ ?_ ?_
  ·refine hW _ fun e1 e2 e3=>?_
   simp [ht,aa,e1,e2];omega
  ·refine hW _ fun e1 e2 e3=>?_
   simp [ht,aa,e1,e2];omega
  ·refine hW _ fun e1 e2 e3=>?_
   simp [ht,aa,e1,e2,hL];omega
  cbv
  refine bL (.vw 1 9 i pG pG false) [.row 9 es,.row 9 L] ?_ ?_ rfl ?_
  ·simp [ht,dO,bO];omega
  ·simp [ht,aY,aT,ug]
  cbv
  refine bL (bI 1) [.row 9 es,.row 9 L1] ?_ ?_ ?_ ?_
  ·simp only [ht,eO]
   refine ⟨⟨by omega,?_⟩,?_⟩
   ·intro h;rw [h] at IT;simp at IT;omega
   intro r hr;have:=List.mem_of_mem_take hr;simp at this;rw [this];exact hrow
  ·simp [ht,aa];omega
  ·simp [ht,uh,show min 1 pG=1 by omega]
  cbv
  refine cO [false,false,false,false,false,false,false,false,true] (by kernel_rfl) (by kernel_rfl) ?_
  cbv
  repeat (refine gI (by (simp;done)) ?_)
  refine ie (.vw 1 9 i1 ni ni false) (fun _=>⟨?_,?_⟩) ?_
  ·refine hW _ fun e1 e2 e3=>?_
   simp [ht,aa,e3,dO,bO];omega
  ·refine hW _ fun e1 e2 e3=>?_
   simp [ht,aa,e3,aY,aT];omega
  cbv
  repeat (refine gI (by (simp;done)) ?_)
  refine ie (.vw 0 9 i ni ci true) (fun _=>⟨?_,?_⟩) ?_
  ·simp [ht,dO,bO];omega
  ·simp [ht,aY,aT,hni,qf]
  cbv
  refine bL (bI (ni:Nat)) [.row 9 es,.row 9 r,.bB] ?_ ?_ ?_ ?_
  ·simp only [ht,eO]
   refine ⟨by omega,⟨by omega,?_⟩,?_⟩
   ·intro h;rw [h] at mw;simp at mw;omega
   intro r hr;exact aB r (List.mem_of_mem_drop (List.mem_of_mem_take hr))
  ·simp [ht,aa]
  ·simp only [ht,pX]
   rw [List.take_of_length_le (by simp;omega)]
  cbv
  refine yX [true] trv ?_ rfl rfl rfl ?_
  ·simp only [ht];omega
  simp only [ht];rw [←Be]
 have VZ:n<c:=by
  refine hW _ fun e1 e2 e3=>?_
  simp [ht,aa,e1] at h2;omega
 clear h2
 obtain ⟨L1,uh⟩:∃L1,L1=wrote es i1 (es.drop i):=⟨_,rfl⟩
 have pX:r=wrote L1 i [x::row]:=by rw [uh,hi1,EE (by omega),hr]
 have mw:L1.length=n1:=by rw [uh];simp [wrote];omega
 cbv
 refine bL (.vw 0 9 0 n1 c true) [.row 9 es] ?_ ?_ rfl ?_
 ·refine hW _ fun e1 e2 e3=>?_
  simp [ht,aa,e1,dO,bO];omega
 ·refine hW _ fun e1 e2 e3=>?_
  simp [ht,aa,e1,aY,aT]
 cbv
 refine bL (.vw 0 9 i1 ni wO true) [.row 9 es] ?_ ?_ rfl ?_
 ·refine hW _ fun e1 e2 e3=>?_
  simp [ht,aa,e3,dO,bO];omega
 ·refine hW _ fun e1 e2 e3=>?_
  simp [ht,aa,e3,aY,aT];omega
 cbv
 refine dw trv (VY (by omega)) ?_
 cbv
 refine kM (by simp [ht]) ?_
 cbv
 refine cO [false,false,false,false,false,false,false,false,true] (by kernel_rfl) (by kernel_rfl) ?_
 cbv
 repeat (refine gI (by (simp;done)) ?_)
 refine ie (.vw 0 9 i1 ni wO true) (fun _=>⟨?_,?_⟩) ?_
 ·refine hW _ fun e1 e2 e3=>?_
  simp [ht,aa,e3,dO,bO];omega
 ·refine hW _ fun e1 e2 e3=>?_
  simp [ht,aa,e3,aY,aT];omega
 cbv
 repeat (refine gI (by (simp;done)) ?_)
 refine ie (.vw 0 9 i pG ci true) (fun _=>⟨?_,?_⟩) ?_
 ·simp [ht,dO,bO];omega
 ·simp [ht,aY,aT,ug,qf]
 cbv
 refine bL (bI (ni:Nat)) [.row 9 L1,.bB] ?_ ?_ ?_ ?_
 ·simp only [ht,eO]
  refine ⟨by omega,⟨by omega,?_⟩,?_⟩
  ·intro h;rw [h] at hn;simp at hn;omega
  intro r hr;exact aB r (List.mem_of_mem_drop (List.mem_of_mem_take hr))
 ·simp [ht,aa];omega
 ·simp only [ht,uh]
  rw [List.take_of_length_le (by simp;omega)]
 cbv
 refine bL (.vw 0 9 i pG ci true) [.row 9 L1,.bB] ?_ ?_ rfl ?_
 ·simp [ht,dO,bO];omega
 ·simp [ht,aY,aT,ug,qf]
 cbv
 refine bL (bI 1) [.row 9 r,.bB] ?_ ?_ ?_ ?_
 ·simp only [ht,eO]
  refine ⟨⟨by omega,?_⟩,?_⟩
  ·intro h;rw [h] at mw;simp at mw;omega
  intro r hr;have:=List.mem_of_mem_take hr;simp at this;rw [this];exact hrow
 ·simp [ht,aa];omega
 ·simp [ht,pX,show min 1 pG=1 by omega]
 cbv
 refine yX [true] trv ?_ rfl rfl rfl ?_
 ·simp only [ht];omega
 simp only [ht];rw [←Be]
theorem HK (ht:TT t) {es:List (List D)} {x:D} {row:List D} {i n:Nat} (hn:n=es.length) (hi:i≤n) (aB:∀r∈es,r.length=9) (hrow:(x::row).length=9) (hs:n<1000000) {r:List (List D)} (hr:r=es.take i++(x::row)::es.drop i):
 FC 144 [.ow 0 9 n,bI (i:Int),SL [x::row]] [.row 9 es] (.ret (SL r)) [.dead]:=
 dX fun c hc hc0=>ER ht hn hi hc hc0 aB hrow hs hr
theorem QY (ht:TT t) (q:aH) {l:List (be)} {es:List (List D)} (aB:es=l.map be.cells) (f:Nat) (p:be→Bool) (hl:l.length<9223372036854775807)
 (hf:∀x∈l,FC f [.agg [ST x.path,aA x.eH.a,aA x.eH.b,aA x.eH.c,aA x.eH.d,aA x.used.a,aA x.used.b,aA x.used.c,aA x.used.d],.ptr 0 0] [.var [ST q]] (.ret (BL (p x))) [.var [ST q]]) {r:Int} (hr:r=idxOf p l):FC 135 [SL es,.fn f [.ptr 0 0]] [.var [ST q]] (.ret (bI r)) [.var [ST q]]:=by
 have hel:es.length=l.length:=by rw [aB,lgM]
 obtain ⟨J,hJ⟩:∃J:Nat→Nat→Prop,∀n v,J n v↔(v+n=l.length∧∀i<v,∀x,l[i]?=some x→p x=false):=⟨fun n v=>v+n=l.length∧∀i<v,∀x,l[i]?=some x→p x=false,fun _ _=>Iff.rfl⟩
 refine bH ht (aF:=[.var [ST q]]) Tryz.func135 rfl rfl (N:=19) rfl rfl (n:=1) rfl rfl ?_
 cbv
 refine bF ⟨[0,1,7,8],[],[]⟩ (σ:=Nat) (fun k=>[(8,bI (t _ fun _=>(k:Int)))]) (fun _=>[]) J ?_
 cbv
 refine aD ⟨l.length,0,(hJ _ _).2 ⟨by omega,by intro i hi;simp at hi⟩,by simp only [ht];rfl,?_⟩
 rintro n k hj
 obtain ⟨h2,h3⟩:=(hJ _ _).1 hj
 clear hj
 cbv
 refine an (fun h=>?_) (fun h=>?_)
 ·simp only [ht,aa,decide_eq_true_eq] at h
  have hk:k<l.length:=by omega
  obtain ⟨x,hx⟩:∃x,l[k]?=some x:=⟨l[k],by simp⟩
  have mE:x∈l:=List.mem_of_getElem? hx
  have gz:=hf x mE
  obtain ⟨px,hpx⟩:∃b,b=p x:=⟨_,rfl⟩
  rw [←hpx] at gz
  obtain ⟨nm,⟨a,b,c,d⟩,⟨e,g,u,v⟩⟩:=x
  cbv
  refine ic [.str nm,.int .u64 a,.int .u64 b,.int .u64 c,.int .u64 d,.int .u64 e,.int .u64 g,.int .u64 u,.int .u64 v] ?_ ?_ ?_
  ·simp only [ht,aa];refine ⟨by omega,h,?_⟩;rw [aB];intro r hr;obtain ⟨y,_,rfl⟩:=List.mem_map.1 hr;rfl
  ·simp [ht,aa,aB,hx]
  cbv
  refine dw trv gz ?_
  cbv
  refine an (fun hb=>?_) (fun hb=>?_)
  ·cbv
   refine av trv trv rfl rfl rfl ?_
   have e:=cV hx (hpx▸hb) h3
   simp only [ht,aa,hr,idxOf,e]
  cbv
  refine aD ⟨n-1,k+1,⟨by omega,(hJ _ _).2 ⟨by omega,?_⟩⟩,?_⟩
  ·intro i hi y hy
   by_cases hik:i<k
   ·exact h3 i hik y hy
   have:i=k:=by omega
   subst this;rw [hx] at hy;cases hy;rw [←hpx];exact hb
  simp only [ht,aa,aC (show k<9223372036854775807 by omega)];rfl
 simp only [ht,aa,decide_eq_false_iff_not] at h
 have hk:¬k<l.length:=by omega
 clear h
 cbv
 refine av trv trv rfl rfl rfl ?_
 rw [hr,idxOf,c7]
 intro i y hy
 have:i<l.length:=by
  rcases Nat.lt_or_ge i l.length with h'|h';· exact h'
  simp [List.getElem?_eq_none h'] at hy
 exact h3 i (by omega) y hy
theorem V9 (ht:TT t) (q:aH) (x:be) {r:Bool} (hr:r=!Op.bytesLess x.path q):FC 143 [.agg [ST x.path,aA x.eH.a,aA x.eH.b,aA x.eH.c,aA x.eH.d,aA x.used.a,aA x.used.b,aA x.used.c,aA x.used.d],.ptr 0 0] [.var [ST q]] (.ret (BL r)) [.var [ST q]]:=by
 obtain ⟨nm,⟨a,b,c,d⟩,⟨e,g,u,v⟩⟩:=x
 refine bH ht (aF:=[.var [ST q]]) Tryz.func143 rfl rfl (N:=8) rfl rfl (n:=1) rfl rfl ?_
 cbv
 refine av trv trv rfl rfl rfl ?_
 simp only [ht,hr]
theorem yD (ht:TT t) {l:List be} {es:List (List D)} (aB:es=l.map be.cells) (hs:l.length<1000000000):
 FC 106 [SL es] [] (.ret (.ow 0 9 (t _ fun _=>(l.map be.cells).length))) [.row 9 (t _ fun _=>l.map be.cells)]:=by
 simp only [ht];subst aB
 refine Bq ht ?_ ?_ (by simp)
 ·intro r hr;obtain ⟨y,_,rfl⟩:=List.mem_map.1 hr;rfl
 simp;omega
theorem vL (ht:TT t) {l:List be} {x:be} {k:Nat} {i:Int} (hi:i=k) (hk:k≤l.length) (hl:l.length<1000000):
 FC 144 [.ow 0 9 (t _ fun _=>(l.map be.cells).length),bI i,.cl [be.cells x]] [.row 9 (t _ fun _=>l.map be.cells)] (.ret (SL (t _ fun _=>(l.take k++x::l.drop k).map be.cells))) [.dead]:=by
 simp only [ht];subst hi
 refine pg (args':=[.ow 0 9 (l.map be.cells).length,bI k,SL [be.cells x]]) ?_ (HK ht (by simp) (by simpa using hk) ?_ rfl (by simpa using hl) (by simp))
 ·intro β w ok vs h
  simp only [ak] at h ⊢
  obtain ⟨u1,Zx,rfl,h1,u2,O5,rfl,h2,u3,V5,rfl,h3,h4⟩:=h
  exact ⟨u1,_,rfl,h1,u2,_,rfl,h2,u3,V5,rfl,LV h3,h4⟩
 intro r hr;obtain ⟨y,_,rfl⟩:=List.mem_map.1 hr;rfl
theorem QZ {t:Th} (ht:TT t) {α:Type} {l:List α} {cells cT:α→List D} {es:List (List D)} {g:Bool} {c:Prop} (aB:es=l.map cells) {z:Int} {n:Nat} (i:Nat) (x:α) {K:List D→Prop} (hi:g=true→z=i∧l[i]?=some x) (hn:∀x,(cells x).length=n) (hT:∀x,cells x=cT x)
 (hc:g=true→c) (hK:K (cT x)):mP g (c∧(t Prop fun _=>0≤z∧z<es.length∧∀r∈es,r.length=n)) (t _ fun _=>es.getD z.toNat []) K:=by
 refine P6 (cT x) (fun hg=>?_) hK
 obtain ⟨h1,h2⟩:=hi hg
 obtain ⟨ds,h,hk⟩:=wI (K:=fun ds=>ds=cT x) ht aB h2 h1 hn hT rfl
 obtain ⟨h3,h4⟩:=h rfl
 exact ⟨⟨hc hg,h3⟩,h4.trans hk⟩
theorem rB {l:List be} {q:aH} {r:Int} (h:r=bT l q):(r=-1∧bT l q=-1∧l.findIdx? (fun e=>decide (e.path=q))=none)∨∃(k:Nat) (x:be),r=k∧bT l q=k∧k<l.length∧l[k]?=some x∧l.findIdx? (fun e=>decide (e.path=q))=some k:=by
 rcases cF (p:=fun e:be=>decide (e.path=q)) (l:=l) (r:=r) h with ⟨e1,e2,e3⟩|⟨i,x,hi,hil,e1,e2,e3,e4⟩
 ·exact .inl ⟨e1,by rw [←h,e1],e2⟩
 exact .inr ⟨i,x,hi,by rw [←h,hi],hil,e1,e3⟩
def TH (l:List be) (q:aH):Nat:=match l.findIdx? (fun e=>!Op.bytesLess e.path q) with
 |some k=>k
 |none=>l.length
theorem Dr {l:List be} {q:aH} {v:bK} (h:l.findIdx? (fun e=>decide (e.path=q))=none) (h1:named q=true) (h2:¬q=[]→0≤bT l (parent q)) (h3:bT l q<0→(l.length:Int)<16):
 vv l q v=(l.take (TH l q)++⟨q,v,bK.zero⟩::l.drop (TH l q),0):=by
 have e0:bT l q=-1:=by unfold bT idxOf;rw [h]
 have h3:=h3 (by omega)
 unfold vv TH
 rw [if_neg (by simp [h1]),if_neg (by simp;exact fun g=>by have:=h2 g;omega),if_neg (by simp;omega)]
 simp only [h]
 cases l.findIdx? (fun e=>!Op.bytesLess e.path q)<;>simp
theorem NF {l:List be} {q:aH} {v:bK} (h1:named q=true) (h2:¬q=[]→0≤bT l (parent q)) (h3:bT l q<0) (h4:(16:Int)≤l.length):vv l q v=(l,9):=by
 unfold vv
 rw [if_neg (by simp [h1]),if_neg (by simp;exact fun g=>by have:=h2 g;omega),if_pos (by simp;omega)]
theorem Ds {l:List be} {q:aH} {v:bK} {k:Nat} {x:be} (h:l.findIdx? (fun e=>decide (e.path=q))=some k) (hx:l[k]?=some x) (h1:named q=true) (h2:¬q=[]→0≤bT l (parent q)):
 vv l q v=if kY x.used v then (l.set k {x with eH:=v},0) else (l,10):=by
 have e0:bT l q=k:=by unfold bT idxOf;rw [h]
 unfold vv
 rw [if_neg (by simp [h1]),if_neg (by simp;exact fun g=>by have:=h2 g;omega),if_neg (by simp;omega)]
 simp only [h,List.getD_eq_getElem?_getD,hx,Option.getD_some]
 cases kY x.used v<;>simp
theorem zy (ht:TT t) (q:aH) (a b c d:Int) {l:List be} {es:List (List D)} (aB:es=l.map be.cells) (hl:l.length<100000) (hq:q.length<1000000000000) (hpq:(parent q).length<1000000000000):
 FC 92 [SL es,ST q,V4 a b c d] [] (.ret (Bo t (t _ fun _=>vv l q ⟨a,b,c,d⟩))) []:=by
 obtain ⟨pq,IU⟩:∃p,p=parent q:=⟨_,rfl⟩
 obtain ⟨nq,Fi⟩:∃p,p=named q:=⟨_,rfl⟩
 refine bH ht (aF:=[]) Tryz.func92 rfl rfl (N:=77) rfl rfl (n:=0) rfl rfl ?_
 cbv
 have ap:es.length=l.length:=by rw [aB,lgM]
 refine aM trv (kp ht _ ‹_› (by omega)) trv rfl rfl (fun r0 cN=>?_)
 simp only [ht] at cN
 (rcases rB (q:=q) cN with ⟨e1,e0,e2⟩|⟨i,x,e1,e0,hil,e3,e2⟩)
 ·cbv
  refine aM trv (vK ht _ ‹_›) trv rfl rfl (fun r1 dL=>?_)
  simp only [ht] at dL
  rw [←Fi] at dL
  subst r1
  cbv
  refine an (fun h2=>?_) (fun h2=>?_)
  ·simp [ht] at h2
   cbv
   refine av trv trv rfl rfl rfl ?_
   (subst IU Fi;simp_all [vv];done)
  simp [ht] at h2
  cbv
  iterate 2 refine gI (by simp [ht]) ?_
  refine bJ (fun g3=>⟨by simp [ht] at g3 ⊢;exact g3,trv,sD ht _ ‹_›⟩) rfl rfl (fun r4 iA=>?_)
  simp only [ht] at iA
  rw [←IU] at iA
  subst r4
  cbv
  refine bJ (fun g5=>⟨by simp [ht] at g5 ⊢;exact g5,trv,kp ht _ ‹_› (by omega)⟩) rfl rfl (fun r6 lF=>?_)
  simp only [ht] at lF
  skip
  cbv
  refine gI (by simp [ht]) ?_
  refine pI (by simp [ht]) ?_
  refine an (fun h7=>?_) (fun h7=>?_)
  ·simp [ht] at h7
   cbv
   refine av trv trv rfl rfl rfl ?_
   (subst IU Fi;simp_all [vv];done)
  simp [ht] at h7
  cbv
  iterate 3 refine gI (by simp [ht]) ?_
  refine pI (by simp [ht]) ?_
  refine an (fun h8=>?_) (fun h8=>?_)
  ·simp [ht,aa,ap] at h8
   cbv
   refine av trv trv rfl rfl rfl ?_
   (simp only [ht];rw [NF (by rw [←Fi];assumption) (fun g=>by rw [←IU,←lF];exact h7 g) (by omega) h8.2];simp [aB];done)
  simp [ht,aa,ap] at h8
  cbv
  refine cO [true,true,true,false,false,false,false,false,false,true,true,true,true] (by kernel_rfl) (by kernel_rfl) ?_
  cbv
  iterate 2 refine gI (by simp [ht]) ?_
  (refine QZ ht aB (cT:=be.aU t) 0 default (fun g=>absurd g (by simp [ht,e1])) (fun _=>rfl) (fun _=>by simp only [be.aU]) (fun g=>by exact ⟨g,g,trv⟩) ?_)
  cbv
  iterate 3 refine gI (by simp [ht]) ?_
  refine bJ (fun g9=>⟨by simp [ht] at g9 ⊢;exact g9,trv,ol ht _ _ _ _ _ _ _ _⟩) rfl rfl (fun r10 Wa=>?_)
  simp only [ht] at Wa
  cbv
  refine gI (by simp [ht]) ?_
  refine pI (by simp [ht]) ?_
  refine an (fun h11=>?_) (fun h11=>?_)
  ·simp [ht] at h11
   omega
  simp [ht] at h11
  cbv
  refine jV trv (yD ht ‹_› (by omega)) trv rfl (.inr rfl) ?_
  cbv
  refine an (fun h12=>?_) (fun h12=>?_)
  ·simp [ht] at h12
   omega
  simp [ht] at h12
  cbv
  (obtain ⟨r9,gK⟩:∃r,r=idxOf (fun o:be=>!Op.bytesLess o.path q) l:=⟨_,rfl⟩;refine dx [0] trv rfl rfl (QY ht q aB 143 (fun o:be=>!Op.bytesLess o.path q) (by omega) (fun x _=>V9 ht q x rfl) gK) (cz ?_);have ec:=cF gK;clear gK;rcases ec with ⟨f1,f2,f3⟩|⟨z,y,f0,fz,f1,f2,f3,f4⟩)
  ·cbv
   refine an (fun IV=>?_) (fun IV=>?_)
   ·simp [ht] at IV
    cbv
    refine dx [3] trv rfl rfl (vL ht (l:=l) (x:=⟨q,⟨a,b,c,d⟩,bK.zero⟩) (k:=TH l q) (by (simp [ht,TH,f2,ap];done)) (by (simp [TH,f2];done)) (by simp only [aa] at*;omega)) (cz ?_)
    cbv
    refine av trv trv rfl rfl rfl ?_
    (simp only [ht];rw [Dr e2 (by rw [←Fi];assumption) (fun g=>by rw [←IU,←lF];exact h7 g) (fun g=>h8 (by omega))])
   simp [ht] at IV
   omega
  cbv
  refine an (fun NG=>?_) (fun NG=>?_)
  ·simp [ht] at NG
   (simp only [aa] at*;omega)
  simp [ht] at NG
  cbv
  refine dx [3] trv rfl rfl (vL ht (l:=l) (x:=⟨q,⟨a,b,c,d⟩,bK.zero⟩) (k:=TH l q) (by (simp only [TH,f3];exact f0)) (by (simp only [TH,f3];omega)) (by simp only [aa] at*;omega)) (cz ?_)
  cbv
  refine av trv trv rfl rfl rfl ?_
  (simp only [ht];rw [Dr e2 (by rw [←Fi];assumption) (fun g=>by rw [←IU,←lF];exact h7 g) (fun g=>h8 (by omega))])
 cbv
 refine aM trv (vK ht _ ‹_›) trv rfl rfl (fun r15 YI=>?_)
 simp only [ht] at YI
 rw [←Fi] at YI
 subst r15
 cbv
 refine an (fun Q0=>?_) (fun Q0=>?_)
 ·simp [ht] at Q0
  cbv
  refine av trv trv rfl rfl rfl ?_
  (subst IU Fi;simp_all [vv];done)
 simp [ht] at Q0
 cbv
 iterate 2 refine gI (by simp [ht]) ?_
 refine bJ (fun g17=>⟨by simp [ht] at g17 ⊢;exact g17,trv,sD ht _ ‹_›⟩) rfl rfl (fun r18 YJ=>?_)
 simp only [ht] at YJ
 rw [←IU] at YJ
 subst r18
 cbv
 refine bJ (fun g19=>⟨by simp [ht] at g19 ⊢;exact g19,trv,kp ht _ ‹_› (by omega)⟩) rfl rfl (fun r20 Wb=>?_)
 simp only [ht] at Wb
 skip
 cbv
 refine gI (by simp [ht]) ?_
 refine pI (by simp [ht]) ?_
 refine an (fun YK=>?_) (fun YK=>?_)
 ·simp [ht] at YK
  cbv
  refine av trv trv rfl rfl rfl ?_
  (subst IU Fi;simp_all [vv];done)
 simp [ht] at YK
 cbv
 iterate 3 refine gI (by simp [ht]) ?_
 refine pI (by simp [ht]) ?_
 refine an (fun h22=>?_) (fun h22=>?_)
 ·simp [ht,aa,ap] at h22
  (simp only [aa] at*;omega)
 simp [ht,aa,ap] at h22
 cbv
 refine cO [true,true,true,false,false,false,false,false,false,true,true,true,true] (by kernel_rfl) (by kernel_rfl) ?_
 cbv
 iterate 2 refine gI (by simp [ht]) ?_
 (refine QZ ht aB (cT:=be.aU t) i x (fun g=>⟨e1,e3⟩) (fun _=>rfl) (fun _=>by simp only [be.aU]) (fun g=>by exact ⟨g,g,trv⟩) ?_)
 cbv
 iterate 3 refine gI (by simp [ht]) ?_
 refine bJ (fun g23=>⟨by simp [ht] at g23 ⊢;exact g23,trv,ol ht _ _ _ _ _ _ _ _⟩) rfl rfl (fun r24 aaP=>?_)
 simp only [ht] at aaP
 cbv
 refine gI (by simp [ht]) ?_
 refine pI (by simp [ht]) ?_
 refine an (fun h25=>?_) (fun h25=>?_)
 ·simp [ht] at h25
  cbv
  refine av trv trv rfl rfl rfl ?_
  (have ts:=Ds (v:=⟨a,b,c,d⟩) e2 e3 (by rw [←Fi];assumption) (fun g=>by rw [←IU,←Wb];exact YK g);simp only [ht];rw [ts];simp_all;done)
 simp [ht] at h25
 cbv
 refine jV trv (yD ht ‹_› (by omega)) trv rfl (.inr rfl) ?_
 cbv
 refine an (fun h26=>?_) (fun h26=>?_)
 ·simp [ht] at h26
  cbv
  refine ⟨?_,?_⟩
  ·(subst IU Fi;simp_all;done)
  refine ⟨?_,?_⟩
  ·(subst IU Fi;simp_all;done)
  cbv
  refine av trv (by simp [ht]) rfl rfl rfl ?_
  (have ts:=Ds (v:=⟨a,b,c,d⟩) e2 e3 (by rw [←Fi];assumption) (fun g=>by rw [←IU,←Wb];exact YK g);simp only [ht];rw [ts];simp_all [List.map_set,bw];done)
 simp [ht] at h26
 (simp only [aa] at*;omega)
def Q2 (r:be×Int):AV:=.eE [YF r.1,bI r.2]
theorem TJ (ht:TT t) (a0 a1 a2 a3 b0 b1 b2 b3:Int):FC 170 [V4 a0 a1 a2 a3,V4 b0 b1 b2 b3] [] (.ret (Xe (t _ fun _=>dY ⟨a0,a1,a2,a3⟩ ⟨b0,b1,b2,b3⟩))) []:=by
 simp only [ht];exact EH ht _ _ _ _ _ _ _ _ rfl
theorem Kl (ht:TT t) (v1 v2 v3 v4:Int) (p:aH) (a b c d e f g h:Int):
 FC 105 [V4 v1 v2 v3 v4,.agg [ST p,aA a,aA b,aA c,aA d,aA e,aA f,aA g,aA h]] [] (.ret (Q2 (t _ fun _=>fD ⟨v1,v2,v3,v4⟩ ⟨p,⟨a,b,c,d⟩,⟨e,f,g,h⟩⟩))) []:=by
 obtain ⟨⟨⟨s1,s2,s3,s4⟩,k⟩,hS⟩:∃r,r=iT ⟨e,f,g,h⟩ ⟨v1,v2,v3,v4⟩:=⟨_,rfl⟩
 refine bH ht (aF:=[]) Tryz.func105 rfl rfl (N:=28) rfl rfl (n:=0) rfl rfl ?_
 cbv
 refine fU trv (QC ht _ _ _ _ _ _ _ _ ‹_›) trv rfl rfl ?_
 cbv
 refine an (fun h0=>?_) (fun h0=>?_)
 ·simp [ht] at h0
  cbv
  refine av trv trv rfl rfl rfl ?_
  (simp only [ht,fD,←hS];simp_all;done)
 simp [ht] at h0
 cbv
 refine aM trv (ol ht _ _ _ _ _ _ _ _) trv rfl rfl (fun r1 dL=>?_)
 simp only [ht] at dL
 cbv
 refine an (fun h2=>?_) (fun h2=>?_)
 ·simp [ht] at h2
  cbv
  refine av trv trv rfl rfl rfl ?_
  (simp only [ht,fD,←hS];simp_all;done)
 simp [ht] at h2
 cbv
 refine av trv trv rfl rfl rfl ?_
 (simp only [ht,fD,←hS];simp_all;done)
theorem Km (ht:TT t) (v1 v2 v3 v4:Int) (p:aH) (a b c d e f g h:Int):
 FC 159 [V4 v1 v2 v3 v4,.agg [ST p,aA a,aA b,aA c,aA d,aA e,aA f,aA g,aA h]] [] (.ret (Q2 (t _ fun _=>eI ⟨v1,v2,v3,v4⟩ ⟨p,⟨a,b,c,d⟩,⟨e,f,g,h⟩⟩))) []:=by
 obtain ⟨⟨⟨s1,s2,s3,s4⟩,k⟩,hS⟩:∃r,r=dY ⟨e,f,g,h⟩ ⟨v1,v2,v3,v4⟩:=⟨_,rfl⟩
 refine bH ht (aF:=[]) Tryz.func159 rfl rfl (N:=22) rfl rfl (n:=0) rfl rfl ?_
 cbv
 refine fU trv (EH ht _ _ _ _ _ _ _ _ ‹_›) trv rfl rfl ?_
 cbv
 refine an (fun h0=>?_) (fun h0=>?_)
 ·simp [ht] at h0
  cbv
  refine av trv trv rfl rfl rfl ?_
  (simp only [ht,eI,←hS];simp_all;done)
 simp [ht] at h0
 cbv
 refine av trv trv rfl rfl rfl ?_
 (simp only [ht,eI,←hS];simp_all;done)
theorem TK (ht:TT t) (q:aH) {l:List be} {es:List (List D)} (aB:es=l.map be.cells) (hl:l.length<1000000000) {r:Bool} (hr:r=decide (bT l q<0)):
 FC 157 [ST q,.ptr 0 0] [.var [SL es]] (.ret (BL r)) [.var [SL es]]:=by
 refine bH ht (aF:=[.var [SL es]]) Tryz.func157 rfl rfl (N:=8) rfl rfl (n:=1) rfl rfl ?_
 cbv
 have ap:es.length=l.length:=by rw [aB,lgM]
 refine aM trv (kp ht _ ‹_› ‹_›) trv rfl rfl (fun r0 cN=>?_)
 simp only [ht] at cN
 cbv
 refine av trv trv rfl rfl rfl ?_
 (simp [*];done)
theorem NH (ht:TT t) (ts:List (List D)) {l:List (aH)} {es:List (List D)} (aB:es=l.map bu) (f:Nat) (p:aH→Bool) (hl:l.length<9223372036854775807)
 (hf:∀x∈l,FC f [.d (.str x),.ptr 0 0] [.var [SL ts]] (.ret (BL (p x))) [.var [SL ts]]) {r:Int} (hr:r=idxOf p l):FC 199 [SL es,.fn f [.ptr 0 0]] [.var [SL ts]] (.ret (bI r)) [.var [SL ts]]:=by
 have hel:es.length=l.length:=by rw [aB,lgM]
 obtain ⟨J,hJ⟩:∃J:Nat→Nat→Prop,∀n v,J n v↔(v+n=l.length∧∀i<v,∀x,l[i]?=some x→p x=false):=⟨fun n v=>v+n=l.length∧∀i<v,∀x,l[i]?=some x→p x=false,fun _ _=>Iff.rfl⟩
 refine bH ht (aF:=[.var [SL ts]]) Tryz.func199 rfl rfl (N:=19) rfl rfl (n:=1) rfl rfl ?_
 cbv
 refine bF ⟨[0,1,7,8],[],[]⟩ (σ:=Nat) (fun k=>[(8,bI (t _ fun _=>(k:Int)))]) (fun _=>[]) J ?_
 cbv
 refine aD ⟨l.length,0,(hJ _ _).2 ⟨by omega,by intro i hi;simp at hi⟩,by simp only [ht];rfl,?_⟩
 rintro n k hj
 obtain ⟨h2,h3⟩:=(hJ _ _).1 hj
 clear hj
 cbv
 refine an (fun h=>?_) (fun h=>?_)
 ·simp only [ht,aa,decide_eq_true_eq] at h
  have hk:k<l.length:=by omega
  obtain ⟨x,hx⟩:∃x,l[k]?=some x:=⟨l[k],by simp⟩
  have mE:x∈l:=List.mem_of_getElem? hx
  have gz:=hf x mE
  obtain ⟨px,hpx⟩:∃b,b=p x:=⟨_,rfl⟩
  rw [←hpx] at gz
  skip
  cbv
  refine ic [.str x] ?_ ?_ ?_
  ·simp only [ht,aa];refine ⟨by omega,h,?_⟩;rw [aB];intro r hr;obtain ⟨y,_,rfl⟩:=List.mem_map.1 hr;rfl
  ·simp [ht,aa,aB,hx]
  cbv
  refine dw trv gz ?_
  cbv
  refine an (fun hb=>?_) (fun hb=>?_)
  ·cbv
   refine av trv trv rfl rfl rfl ?_
   have e:=cV hx (hpx▸hb) h3
   simp only [ht,aa,hr,idxOf,e]
  cbv
  refine aD ⟨n-1,k+1,⟨by omega,(hJ _ _).2 ⟨by omega,?_⟩⟩,?_⟩
  ·intro i hi y hy
   by_cases hik:i<k
   ·exact h3 i hik y hy
   have:i=k:=by omega
   subst this;rw [hx] at hy;cases hy;rw [←hpx];exact hb
  simp only [ht,aa,aC (show k<9223372036854775807 by omega)];rfl
 simp only [ht,aa,decide_eq_false_iff_not] at h
 have hk:¬k<l.length:=by omega
 clear h
 cbv
 refine av trv trv rfl rfl rfl ?_
 rw [hr,idxOf,c7]
 intro i y hy
 have:i<l.length:=by
  rcases Nat.lt_or_ge i l.length with h'|h';· exact h'
  simp [List.getElem?_eq_none h'] at hy
 exact h3 i (by omega) y hy
theorem NI (ht:TT t) (ts:List (List D)) {l:List (aH)} {es:List (List D)} (aB:es=l.map bu) (f:Nat) (p:aH→Bool) (hl:l.length<9223372036854775807)
 (hf:∀x∈l,FC f [.d (.str x),.ptr 0 0] [.var [SL ts]] (.ret (BL (p x))) [.var [SL ts]]) {r:Bool} (hr:r=l.any p):FC 156 [SL es,.fn f [.ptr 0 0]] [.var [SL ts]] (.ret (BL r)) [.var [SL ts]]:=by
 obtain ⟨k,hk⟩:∃k,k=idxOf p l:=⟨_,rfl⟩
 refine bH ht (aF:=[.var [SL ts]]) Tryz.func156 rfl rfl (N:=9) rfl rfl (n:=1) rfl rfl ?_
 cbv
 refine dw trv (NH ht ts aB f p hl hf hk) ?_
 cbv
 refine av trv trv rfl rfl rfl ?_
 simp only [ht,hr,fe,hk]
theorem NJ (ht:TT t) {l:List be} {qs:List aH} {es ss:List (List D)} (aB:es=l.map be.cells) (hss:ss=qs.map bu) (hl:l.length<1000000000) (hq:qs.length<1000000000) {r:Bool} (hr:r=qs.any (fun q=>decide (bT l q<0))):
 FC 156 [SL ss,.fn 157 [.ptr 0 0]] [.var [SL es]] (.ret (BL r)) [.var [SL es]]:=
 NI ht es hss 157 (fun q=>decide (bT l q<0)) (by omega) (fun x _=>TK ht x aB hl rfl) hr
theorem HL (ht:TT t) {es:List (List D)} (aB:∀r∈es,r.length=9) (hs:es.length*80≤140737488355328) {m:Nat} (hm:m=es.length):
 FC 158 [SL es] [] (.ret (.ow 0 9 m)) [.row 9 es]:=by
 refine bH ht (aF:=[]) Tryz.func158 rfl rfl (N:=8) rfl rfl (n:=0) rfl rfl ?_
 cbv
 refine ⟨fun b hb=>?_⟩
 simp only [ht] at hb
 cbv
 refine an (fun h=>?_) (fun h=>?_)
 ·have he:=hb h
  subst he
  cbv
  exact GO trv rfl rfl (by rw [hm];rfl) rfl
 clear hb h
 cbv
 refine ⟨?_,?_⟩
 ·simp only [ht];simp;exact ⟨hs,aB⟩
 refine Cp trv rfl rfl rfl rfl ?_ ?_
 ·simp only [ht];rw [hm];simp
 simp only [ht];rfl
theorem ES (ht:TT t) {l:List be} {es:List (List D)} (aB:es=l.map be.cells) (hs:l.length<1000000000):
 FC 158 [SL es] [] (.ret (.ow 0 9 (t _ fun _=>(l.map be.cells).length))) [.row 9 (t _ fun _=>l.map be.cells)]:=by
 simp only [ht];subst aB
 refine HL ht ?_ ?_ (by simp)
 ·intro r hr;obtain ⟨y,_,rfl⟩:=List.mem_map.1 hr;rfl
 simp;omega
theorem NK (q:aH):(above q).length≤4:=by
 have h1:=ig q
 have h2:=kg q
 simp only [above,List.length_cons];omega
theorem Wc {l:List be} {qs:List aH} {k:Nat} {x:aH} (h:qs.any (fun q=>decide (bT l q<0))=false) (hx:qs[k]?=some x):∃(i:Nat) (y:be),bT l x=i∧l[i]?=some y∧i<l.length:=by
 have h1:¬bT l x<0:=by
  intro h2
  have:qs.any (fun q=>decide (bT l q<0))=true:=List.any_eq_true.2 ⟨x,List.mem_of_getElem? hx,by simpa using h2⟩
  rw [h] at this;cases this
 rcases rB (q:=x) (r:=bT l x) rfl with ⟨e1,_,_⟩|⟨i,y,e1,_,e2,e3,_⟩
 ·omega
 exact ⟨i,y,e1,e3,e2⟩
theorem Mf (ht:TT t) (f:Nat) (g:be→be×Int) (v1 v2 v3 v4:Int) (q:aH) {l:List be} {es:List (List D)} (aB:es=l.map be.cells) (hl:l.length<100000) (hq:q.length<1000000000000)
 (hf:∀(p:aH) (a b c d e z g0 h:Int),FC f [V4 v1 v2 v3 v4,.agg [ST p,aA a,aA b,aA c,aA d,aA e,aA z,aA g0,aA h]] [] (.ret (Q2 (t _ fun _=>g ⟨p,⟨a,b,c,d⟩,⟨e,z,g0,h⟩⟩))) []):
 FC 104 [SL es,ST q,.fn f [.eE [V4 v1 v2 v3 v4]]] [] (.ret (Bo t (t _ fun _=>p6 g l q))) []:=by
 have hal:=NK q
 obtain ⟨nq,Fi⟩:∃p,p=named q:=⟨_,rfl⟩
 obtain ⟨aq,YL⟩:∃p,p=above q:=⟨_,rfl⟩
 rw [←YL] at hal
 refine bH ht (aF:=[]) Tryz.func104 rfl rfl (N:=55) rfl rfl (n:=0) rfl rfl ?_
 cbv
 have ap:es.length=l.length:=by rw [aB,lgM]
 refine aM trv (vK ht _ ‹_›) trv rfl rfl (fun r0 cN=>?_)
 simp only [ht] at cN
 rw [←Fi] at cN
 subst r0
 cbv
 refine an (fun h1=>?_) (fun h1=>?_)
 ·simp [ht] at h1
  cbv
  refine av trv trv rfl rfl rfl ?_
  (simp only [ht,p6,←Fi,←YL];simp_all;done)
 simp [ht] at h1
 cbv
 refine aE trv (HJ ht _ ‹_›) trv rfl rfl rfl (fun r2 fQ=>?_)
 simp only [ht] at fQ
 rw [←YL] at fQ
 subst r2
 cbv
 (obtain ⟨r9,gK⟩:∃r,r=aq.any (fun q=>decide (bT l q<0)):=⟨_,rfl⟩;refine dx [0] trv rfl rfl (NJ ht aB (qs:=aq) (by simp only [ht]) (by omega) (by omega) gK) (cz ?_))
 cbv
 refine an (fun h3=>?_) (fun h3=>?_)
 ·cbv
  refine av trv trv rfl rfl rfl ?_
  (simp only [ht,p6,←Fi,←YL];simp_all;done)
 cbv
 refine jV trv (ES ht ‹_› (by omega)) trv rfl (.inr rfl) ?_
 cbv
 obtain ⟨J4,HF⟩:∃J4:Nat→Int×List (List D)→Prop,∀n i u,J4 n (i,u)↔(∃(k:Nat) (o:List be),i=k∧k+n=aq.length∧u=o.map be.cells∧o.length=l.length∧p6 g l q=ki g l (aq.drop k) o):=⟨fun n v=>match v with|(i,u)=>(∃(k:Nat) (o:List be),i=k∧k+n=aq.length∧u=o.map be.cells∧o.length=l.length∧p6 g l q=ki g l (aq.drop k) o),fun _ _ _=>Iff.rfl⟩
 refine bF ⟨[2,3,9,27,28,29],[],[]⟩ (σ:=Int×List (List D)) (fun v=>[(29,.d (.int .i64 (t _ fun _=>v.1)))]) (fun v=>[(1,.row 9 (t _ fun _=>v.2))]) J4 ?_
 cbv
 refine aD ⟨aq.length,(_,_),(HF _ _ _).2 ?_,by simp only [ht];rfl,?_⟩
 ·exact ⟨0,l,rfl,by simp,rfl,rfl,by rw [p6,←Fi,←YL,←gK];simp_all⟩
 rintro n ⟨i,u⟩ hj
 replace hj:=(HF _ _ _).1 hj
 obtain ⟨k,o,rfl,j1,j2,j3,j4⟩:=hj
 have vH:u.length=o.length:=by rw [j2,lgM]
 cbv
 refine an (fun h5=>?_) (fun h5=>?_)
 ·simp [ht,aa] at h5
  cbv
  (refine fP ht (l:=aq) (cells:=bu) (cT:=eA t) (by simp only [ht];done) (by simp only [ht,aa];omega) (by simp only [ht,aa];omega) (fun _=>rfl) (fun _=>rfl) (fun xn Q3=>?_);simp only [ht] at Q3;replace Q3:aq[k]?=some xn:=Q3;rw [dU Q3,ki] at j4;obtain ⟨zz,y,e1,e2,e3⟩:=Wc (gK.symm.trans ‹_›) Q3;rw [e1] at j4;simp only [Int.toNat_natCast,List.getD_eq_getElem?_getD,e2,Option.getD_some] at j4)
  cbv
  refine aM trv (kp ht _ ‹_› (by omega)) trv rfl rfl (fun r6 lF=>?_)
  simp only [ht] at lF
  rw [e1] at lF
  cbv
  refine wI ht aB (cT:=be.aU t) e2 ‹_› (fun _=>rfl) (fun _=>rfl) ?_
  cbv
  (refine aM trv (hf _ _ _ _ _ _ _ _ _) trv rfl rfl (fun rg ZC=>?_);simp only [ht] at ZC;obtain ⟨⟨gp,⟨ga,gb,gc,gd⟩,⟨ge,gf,gg,gh⟩⟩,ge0⟩:=rg;replace ZC:_=g y:=ZC;rw [←ZC] at j4;simp only at j4)
  cbv
  refine an (fun h8=>?_) (fun h8=>?_)
  ·simp [ht] at h8
   cbv
   refine av trv trv rfl rfl rfl ?_
   (simp [*];done)
  simp [ht] at h8
  cbv
  refine ⟨?_,?_⟩
  ·(simp only [ht];simp_all;done)
  refine ⟨?_,?_⟩
  ·(simp only [ht];simp_all;done)
  cbv
  refine bQ (_,_) (by simp only [ht];rfl) (n-1) ?_ ((HF _ _ _).2 ?_)
  ·omega
  simp only [aa]
  (refine ⟨k+1,o.set zz ⟨gp,⟨ga,gb,gc,gd⟩,⟨ge,gf,gg,gh⟩⟩,aC (by omega),by omega,?_,by simp [j3],?_⟩<;>simp_all [bw,List.map_set])
 simp [ht,aa] at h5
 cbv
 (refine av trv (by simp only [ht];simp [vH,j3]) rfl rfl rfl ?_;rw [List.drop_eq_nil_of_le (by omega),ki] at j4;simp only [ht,j4,j2];done)
theorem uj (ht:TT t) (q:aH) (v1 v2 v3 v4:Int) {l:List be} {es:List (List D)} (aB:es=l.map be.cells) (hl:l.length<100000) (hq:q.length<1000000000000):
 FC 58 [SL es,ST q,V4 v1 v2 v3 v4] [] (.ret (Bo t (t _ fun _=>cZ l q ⟨v1,v2,v3,v4⟩))) []:=by
 have hc:=Mf ht 105 (fD ⟨v1,v2,v3,v4⟩) v1 v2 v3 v4 q aB hl hq (fun p a b c d e z g0 h=>Kl ht v1 v2 v3 v4 p a b c d e z g0 h)
 refine bH ht (aF:=[]) Tryz.func58 rfl rfl (N:=16) rfl rfl (n:=0) rfl rfl ?_
 cbv
 have ap:es.length=l.length:=by rw [aB,lgM]
 (refine aE trv hc trv rfl rfl rfl (fun r9 gK=>?_);simp only [ht] at gK)
 cbv
 refine av trv trv rfl rfl rfl ?_
 (simp [cZ, *];done)
theorem Kn (ht:TT t) (q:aH) (v1 v2 v3 v4:Int) {l:List be} {es:List (List D)} (aB:es=l.map be.cells) (hl:l.length<100000) (hq:q.length<1000000000000):
 FC 107 [SL es,ST q,V4 v1 v2 v3 v4] [] (.ret (Bo t (t _ fun _=>sx l q ⟨v1,v2,v3,v4⟩))) []:=by
 have hc:=Mf ht 159 (eI ⟨v1,v2,v3,v4⟩) v1 v2 v3 v4 q aB hl hq (fun p a b c d e z g0 h=>Km ht v1 v2 v3 v4 p a b c d e z g0 h)
 refine bH ht (aF:=[]) Tryz.func107 rfl rfl (N:=16) rfl rfl (n:=0) rfl rfl ?_
 cbv
 have ap:es.length=l.length:=by rw [aB,lgM]
 (refine aE trv hc trv rfl rfl rfl (fun r9 gK=>?_);simp only [ht] at gK)
 cbv
 refine av trv trv rfl rfl rfl ?_
 (simp [sx, *];done)
def bZ.aU (_:Th) (q:bZ):List D:=[.int .u64 q.id,.int .i64 q.prio]
def YM (t:Th) (r:List bZ×Int):AV:=.eE [SL (t _ fun _=>r.1.map bZ.cells),bI r.2]
def YN (t:Th) (r:List bZ×Bool):AV:=.eE [SL (t _ fun _=>r.1.map bZ.cells),BL r.2]
theorem Q5 (ht:TT t) (id:Int) {l:List (bZ)} {es:List (List D)} (aB:es=l.map bZ.cells) (f:Nat) (p:bZ→Bool) (hl:l.length<9223372036854775807)
 (hf:∀x∈l,FC f [.agg [aA x.id,bI x.prio],.ptr 0 0] [.var [aA id]] (.ret (BL (p x))) [.var [aA id]]) {r:Int} (hr:r=idxOf p l):FC 162 [SL es,.fn f [.ptr 0 0]] [.var [aA id]] (.ret (bI r)) [.var [aA id]]:=by
 have hel:es.length=l.length:=by rw [aB,lgM]
 obtain ⟨J,hJ⟩:∃J:Nat→Nat→Prop,∀n v,J n v↔(v+n=l.length∧∀i<v,∀x,l[i]?=some x→p x=false):=⟨fun n v=>v+n=l.length∧∀i<v,∀x,l[i]?=some x→p x=false,fun _ _=>Iff.rfl⟩
 refine bH ht (aF:=[.var [aA id]]) Tryz.func162 rfl rfl (N:=19) rfl rfl (n:=1) rfl rfl ?_
 cbv
 refine bF ⟨[0,1,7,8],[],[]⟩ (σ:=Nat) (fun k=>[(8,bI (t _ fun _=>(k:Int)))]) (fun _=>[]) J ?_
 cbv
 refine aD ⟨l.length,0,(hJ _ _).2 ⟨by omega,by intro i hi;simp at hi⟩,by simp only [ht];rfl,?_⟩
 rintro n k hj
 obtain ⟨h2,h3⟩:=(hJ _ _).1 hj
 clear hj
 cbv
 refine an (fun h=>?_) (fun h=>?_)
 ·simp only [ht,aa,decide_eq_true_eq] at h
  have hk:k<l.length:=by omega
  obtain ⟨x,hx⟩:∃x,l[k]?=some x:=⟨l[k],by simp⟩
  have mE:x∈l:=List.mem_of_getElem? hx
  have gz:=hf x mE
  obtain ⟨px,hpx⟩:∃b,b=p x:=⟨_,rfl⟩
  rw [←hpx] at gz
  obtain ⟨a,b⟩:=x
  cbv
  refine ic [.int .u64 a,.int .i64 b] ?_ ?_ ?_
  ·simp only [ht,aa];refine ⟨by omega,h,?_⟩;rw [aB];intro r hr;obtain ⟨y,_,rfl⟩:=List.mem_map.1 hr;rfl
  ·simp [ht,aa,aB,hx,bZ.cells]
  cbv
  refine dw trv gz ?_
  cbv
  refine an (fun hb=>?_) (fun hb=>?_)
  ·cbv
   refine av trv trv rfl rfl rfl ?_
   have e:=cV hx (hpx▸hb) h3
   simp only [ht,aa,hr,idxOf,e]
  cbv
  refine aD ⟨n-1,k+1,⟨by omega,(hJ _ _).2 ⟨by omega,?_⟩⟩,?_⟩
  ·intro i hi y hy
   by_cases hik:i<k
   ·exact h3 i hik y hy
   have:i=k:=by omega
   subst this;rw [hx] at hy;cases hy;rw [←hpx];exact hb
  simp only [ht,aa,aC (show k<9223372036854775807 by omega)];rfl
 simp only [ht,aa,decide_eq_false_iff_not] at h
 have hk:¬k<l.length:=by omega
 clear h
 cbv
 refine av trv trv rfl rfl rfl ?_
 rw [hr,idxOf,c7]
 intro i y hy
 have:i<l.length:=by
  rcases Nat.lt_or_ge i l.length with h'|h';· exact h'
  simp [List.getElem?_eq_none h'] at hy
 exact h3 i (by omega) y hy
theorem NL (ht:TT t) (id:Int) (x:bZ):FC 163 [.agg [aA x.id,bI x.prio],.ptr 0 0] [.var [aA id]] (.ret (BL (decide (x.id=id)))) [.var [aA id]]:=by
 obtain ⟨a,b⟩:=x
 refine bH ht (aF:=[.var [aA id]]) Tryz.func163 rfl rfl (N:=8) rfl rfl (n:=1) rfl rfl ?_
 cbv
 refine av trv trv rfl rfl rfl ?_
 simp [ht]
theorem wT (ht:TT t) (id:Int) {l:List bZ} {es:List (List D)} (aB:es=l.map bZ.cells) (hl:l.length<1000000000):
 FC 109 [SL es,aA id] [] (.ret (gm (t _ fun _=>iG l id))) []:=by
 obtain ⟨r,hr⟩:∃r,r=iG l id:=⟨_,rfl⟩
 refine bH ht (aF:=[]) Tryz.func109 rfl rfl (N:=8) rfl rfl (n:=0) rfl rfl ?_
 cbv
 refine dw trv (Q5 ht id aB 163 (fun x=>decide (x.id=id)) (by omega) (fun x _=>NL ht id x) (r:=r) hr) ?_
 cbv
 exact av trv trv rfl rfl rfl (by simp [ht,hr])
theorem Dt (ht:TT t) (a b:Int):FC 130 [.agg [aA a,bI b]] [] (.ret (bX (t _ fun _=>gF ⟨a,b⟩))) []:=by
 refine bH ht (aF:=[]) Tryz.func130 rfl rfl (N:=11) rfl rfl (n:=0) rfl rfl ?_
 cbv
 iterate 3 refine gI (by simp [ht]) ?_
 refine pI (by simp [ht]) ?_
 refine av trv trv rfl rfl rfl ?_
 (simp [ht,gF];done)
theorem Du (ht:TT t) (a b c d:Int):FC 131 [.agg [aA a,bI b],.agg [aA c,bI d]] [] (.ret (bX (t _ fun _=>dh ⟨a,b⟩ ⟨c,d⟩))) []:=by
 refine bH ht (aF:=[]) Tryz.func131 rfl rfl (N:=24) rfl rfl (n:=0) rfl rfl ?_
 cbv
 iterate 11 refine gI (by simp [ht]) ?_
 refine gI (by simp [ht,ah];intros;simp_all) ?_
 refine pI (by simp [ht]) ?_
 refine av trv trv rfl rfl rfl ?_
 (simp [ht,dh];done)
theorem Wd {l:List bZ} {e x:bZ} {k:Nat} (hx:l[k]?=some x) (h:dh e x=true) (h3:∀i<k,∀y,l[i]?=some y→dh e y=false):vu l e=k:=by
 simp only [vu];rw [cV hx h h3]
theorem We {l:List bZ} {e:bZ} {k:Nat} (hk:l.length≤k) (h3:∀i<k,∀y,l[i]?=some y→dh e y=false):vu l e=l.length:=by
 simp only [vu]
 rw [c7]
 intro i y hy
 have:i<l.length:=(List.getElem?_eq_some_iff.1 hy).1
 exact h3 i (by omega) y hy
theorem Q6 {l:List bZ} {e x:bZ} {k:Nat} (h3:∀i<k,∀y,l[i]?=some y→dh e y=false) (hx:l[k]?=some x) (h:dh e x=false):∀i<k+1,∀y,l[i]?=some y→dh e y=false:=by
 intro i hi y hy
 rcases Nat.lt_or_ge i k with h1|h1
 ·exact h3 i h1 y hy
 have:i=k:=by omega
 subst this;rw [hx] at hy;cases hy;exact h
theorem Wf (ht:TT t) (a b:Int) {l:List bZ} {es:List (List D)} (aB:es=l.map bZ.cells) (hl:l.length<1000000000):
 FC 141 [.agg [.fn 131 []],SL es,.agg [aA a,bI b]] [] (.ret (gm (t _ fun _=>(vu l ⟨a,b⟩:Int)))) []:=by
 refine bH ht (aF:=[]) Tryz.func141 rfl rfl (N:=25) rfl rfl (n:=0) rfl rfl ?_
 cbv
 have ap:es.length=l.length:=by rw [aB,lgM]
 obtain ⟨J0,dR⟩:∃J0:Nat→Int→Prop,∀n i,J0 n i↔(∃k:Nat,i=k∧k+n=l.length∧∀i<k,∀y,l[i]?=some y→dh ⟨a,b⟩ y=false):=⟨fun n v=>match v with|i=>(∃k:Nat,i=k∧k+n=l.length∧∀i<k,∀y,l[i]?=some y→dh ⟨a,b⟩ y=false),fun _ _=>Iff.rfl⟩
 refine bF ⟨[1,3,5,9,10,11],[],[]⟩ (σ:=Int) (fun v=>[(11,.d (.int .i64 (t _ fun _=>v)))]) (fun v=>[]) J0 ?_
 cbv
 refine aD ⟨l.length,_,(dR _ _).2 ?_,by simp only [ht];rfl,?_⟩
 ·exact ⟨0,rfl,by simp,fun i hi=>by omega⟩
 rintro n i hj
 replace hj:=(dR _ _).1 hj
 obtain ⟨k,rfl,j1,j4⟩:=hj
 cbv
 refine an (fun h1=>?_) (fun h1=>?_)
 ·simp [ht,aa,ap] at h1
  cbv
  refine fP ht aB (cT:=bZ.aU t) (by (simp only [ht,aa];omega)) (by (simp only [ht,aa];omega)) (fun _=>rfl) (fun _=>rfl) (fun x2 fZ=>?_)
  simp [ht,aa] at fZ
  cbv
  refine aM trv (Du ht _ _ _ _) trv rfl rfl (fun r3 iV=>?_)
  simp only [ht] at iV
  cbv
  refine an (fun h4=>?_) (fun h4=>?_)
  ·cbv
   refine av trv trv rfl rfl rfl ?_
   (simp only [ht];rw [Wd fZ (by rw [h4] at iV;exact iV.symm) j4])
  cbv
  refine bQ _ (by simp only [ht];rfl) (n-1) ?_ ((dR _ _).2 ?_)
  ·omega
  simp only [aa]
  exact ⟨k+1,aC (by omega),by omega,Q6 j4 ‹_› (by simp_all)⟩
 simp [ht,aa,ap] at h1
 cbv
 refine av trv trv rfl rfl rfl ?_
 (simp only [ht];rw [We (by omega) j4];simp [aB];done)
theorem Ko (ht:TT t) {es:List (List D)} (aB:∀r∈es,r.length=2) (hs:es.length*16≤140737488355328) {m:Nat} (hm:m=es.length):
 FC 140 [SL es] [] (.ret (.ow 0 2 m)) [.row 2 es]:=by
 refine bH ht (aF:=[]) Tryz.func140 rfl rfl (N:=8) rfl rfl (n:=0) rfl rfl ?_
 cbv
 refine ⟨fun b hb=>?_⟩
 simp only [ht] at hb
 cbv
 refine an (fun h=>?_) (fun h=>?_)
 ·have he:=hb h
  subst he
  cbv
  exact GO trv rfl rfl (by rw [hm];rfl) rfl
 clear hb h
 cbv
 refine ⟨?_,?_⟩
 ·simp only [ht];simp;exact ⟨hs,aB⟩
 refine Cp trv rfl rfl rfl rfl ?_ ?_
 ·simp only [ht];rw [hm];simp
 simp only [ht];rfl
theorem ET (ht:TT t) {es:List (List D)} {x:D} {row:List D} {i n c:Nat} (hn:n=es.length) (hi:i≤n) (hc:n≤c) (hc0:n=0→c=0) (aB:∀r∈es,r.length=2) (hrow:(x::row).length=2) (hs:n<1000000) {r:List (List D)} (hr:r=es.take i++(x::row)::es.drop i):
 FC 139 [.vw 0 2 0 n c true,bI (i:Int),SL [x::row]] [.row 2 es] (.ret (SL r)) [.dead]:=by
 obtain ⟨n1,CS⟩:∃n1,n1=n+1:=⟨_,rfl⟩
 obtain ⟨i1,hi1⟩:∃i1,i1=i+1:=⟨_,rfl⟩
 obtain ⟨ni,hni⟩:∃ni,ni=n-i:=⟨_,rfl⟩
 obtain ⟨ci,qf⟩:∃ci,ci=c-i:=⟨_,rfl⟩
 obtain ⟨wO,Ka⟩:∃wO,wO=c-i1:=⟨_,rfl⟩
 obtain ⟨pG,ug⟩:∃pG,pG=n1-i:=⟨_,rfl⟩
 have hW:∀P:Prop,((IntKind.i64.wrap ((n:Int)+1)=(n1:Int))→(IntKind.i64.wrap ((n1:Int)-(i:Int))=(pG:Int))→(IntKind.i64.wrap ((i:Int)+1)=(i1:Int))→P)→P:=
  fun P h=>h (by rw [wrap64 (by omega) (by omega)];omega) (by rw [wrap64 (by omega) (by omega)];omega) (by rw [wrap64 (by omega) (by omega)];omega)
 have hrl:r.length=n1:=by rw [hr,List.length_append,List.length_cons,List.length_take,List.length_drop];omega
 have VY:n≠0→FC 184 [SL [x::row],.vw 0 2 i1 ni wO true] [.row 2 es] (.ret (BL false)) [.row 2 es]:=fun h0=>
  iz P9 Tryz.func184 rfl rfl rfl rfl (tS:=31) (tR:=4) rfl rfl (by intro h;rw [h] at hn;exact h0 hn)
 refine bH ht (aF:=[.row 2 es]) Tryz.func139 rfl rfl (N:=95) rfl rfl (n:=1) rfl rfl ?_
 cbv
 refine bL (.vw 0 2 i ni ci true) [.row 2 es] ?_ ?_ rfl ?_
 ·simp [ht,dO,bO];omega
 ·simp [ht,aY,aT,hni,qf]
 cbv
 refine nR (by simp [ht]) ?_
 cbv
 refine an (fun h=>?_) (fun h=>?_)
 ·have hin:i=n:=by simp [ht,aa] at h;omega
  clear h
  cbv
  refine bL (.ow 1 2 n1) [.dead,.row 2 r] ?_ ?_ ?_ ?_
  ·simp only [ht]
   refine ⟨⟨hn,by simp;omega,?_⟩,rfl,hn,fun h=>⟨hc0 (by rw [hn,h];rfl),rfl⟩⟩
   intro r hr
   rcases List.mem_append.1 hr with hr|hr
   ·exact aB r hr
   simp at hr;subst hr;exact hrow
  ·simp [ht,CS,hn]
  ·simp only [ht];rw [hr]
   have:i=es.length:=by omega
   subst this;simp
  cbv
  refine av trv ?_ rfl rfl rfl rfl
  simp only [ht];exact hrl.symm
 have hin:i<n:=by simp [ht,aa] at h;omega
 clear h
 have Be:r=(r.drop 0).take n1:=by rw [List.drop_zero,List.take_of_length_le (by omega)]
 cbv
 refine an (fun h2=>?_) (fun h2=>?_)
 ·have VZ:c=n:=by
   refine hW _ fun e1 e2 e3=>?_
   simp [ht,aa,e1] at h2;omega
  clear h2
  obtain ⟨L,hL⟩:∃L:List (List D),L=es.take i++List.replicate (es.length+1-i) [D.int IntKind.u64 0,D.int IntKind.i64 0]:=⟨_,rfl⟩
  have IT:L.length=n1:=by rw [hL];simp;omega
  obtain ⟨L1,uh⟩:∃L1,L1=wrote L i [x::row]:=⟨_,rfl⟩
  have mw:L1.length=n1:=by rw [uh];simp [wrote,IT];omega
  have pX:r=wrote L1 i1 (es.drop i):=by rw [hi1,uh,hL,vF (by omega),hr]
  cbv
  refine bL (.vw 0 2 0 i c true) [.row 2 es] ?_ ?_ rfl ?_
  ·simp [ht,dO,bO];omega
  ·simp [ht,aY,aT]
  cbv
  refine bL (.vw 1 2 0 n1 n1 false) [.row 2 es,.row 2 L] ?_ ?_ ?_ ?_
  ·refine hW _ fun e1 e2 e3=>?_
   simp [ht,aa,e1,e2];omega
  ·refine hW _ fun e1 e2 e3=>?_
   simp [ht,aa,e1,e2];omega
  ·refine hW _ fun e1 e2 e3=>?_
   simp [ht,aa,e1,e2,hL];omega
  cbv
  refine bL (.vw 1 2 i pG pG false) [.row 2 es,.row 2 L] ?_ ?_ rfl ?_
  ·simp [ht,dO,bO];omega
  ·simp [ht,aY,aT,ug]
  cbv
  refine bL (bI 1) [.row 2 es,.row 2 L1] ?_ ?_ ?_ ?_
  ·simp only [ht,eO]
   refine ⟨⟨by omega,?_⟩,?_⟩
   ·intro h;rw [h] at IT;simp at IT;omega
   intro r hr;have:=List.mem_of_mem_take hr;simp at this;rw [this];exact hrow
  ·simp [ht,aa];omega
  ·simp [ht,uh,show min 1 pG=1 by omega]
  cbv
  refine cO [false,false,false,false,false,false,false,false,true] (by kernel_rfl) (by kernel_rfl) ?_
  cbv
  repeat (refine gI (by (simp;done)) ?_)
  refine ie (.vw 1 2 i1 ni ni false) (fun _=>⟨?_,?_⟩) ?_
  ·refine hW _ fun e1 e2 e3=>?_
   simp [ht,aa,e3,dO,bO];omega
  ·refine hW _ fun e1 e2 e3=>?_
   simp [ht,aa,e3,aY,aT];omega
  cbv
  repeat (refine gI (by (simp;done)) ?_)
  refine ie (.vw 0 2 i ni ci true) (fun _=>⟨?_,?_⟩) ?_
  ·simp [ht,dO,bO];omega
  ·simp [ht,aY,aT,hni,qf]
  cbv
  refine bL (bI (ni:Nat)) [.row 2 es,.row 2 r,.bB] ?_ ?_ ?_ ?_
  ·simp only [ht,eO]
   refine ⟨by omega,⟨by omega,?_⟩,?_⟩
   ·intro h;rw [h] at mw;simp at mw;omega
   intro r hr;exact aB r (List.mem_of_mem_drop (List.mem_of_mem_take hr))
  ·simp [ht,aa]
  ·simp only [ht,pX]
   rw [List.take_of_length_le (by simp;omega)]
  cbv
  refine yX [true] trv ?_ rfl rfl rfl ?_
  ·simp only [ht];omega
  simp only [ht];rw [←Be]
 have VZ:n<c:=by
  refine hW _ fun e1 e2 e3=>?_
  simp [ht,aa,e1] at h2;omega
 clear h2
 obtain ⟨L1,uh⟩:∃L1,L1=wrote es i1 (es.drop i):=⟨_,rfl⟩
 have pX:r=wrote L1 i [x::row]:=by rw [uh,hi1,EE (by omega),hr]
 have mw:L1.length=n1:=by rw [uh];simp [wrote];omega
 cbv
 refine bL (.vw 0 2 0 n1 c true) [.row 2 es] ?_ ?_ rfl ?_
 ·refine hW _ fun e1 e2 e3=>?_
  simp [ht,aa,e1,dO,bO];omega
 ·refine hW _ fun e1 e2 e3=>?_
  simp [ht,aa,e1,aY,aT]
 cbv
 refine bL (.vw 0 2 i1 ni wO true) [.row 2 es] ?_ ?_ rfl ?_
 ·refine hW _ fun e1 e2 e3=>?_
  simp [ht,aa,e3,dO,bO];omega
 ·refine hW _ fun e1 e2 e3=>?_
  simp [ht,aa,e3,aY,aT];omega
 cbv
 refine dw trv (VY (by omega)) ?_
 cbv
 refine kM (by simp [ht]) ?_
 cbv
 refine cO [false,false,false,false,false,false,false,false,true] (by kernel_rfl) (by kernel_rfl) ?_
 cbv
 repeat (refine gI (by (simp;done)) ?_)
 refine ie (.vw 0 2 i1 ni wO true) (fun _=>⟨?_,?_⟩) ?_
 ·refine hW _ fun e1 e2 e3=>?_
  simp [ht,aa,e3,dO,bO];omega
 ·refine hW _ fun e1 e2 e3=>?_
  simp [ht,aa,e3,aY,aT];omega
 cbv
 repeat (refine gI (by (simp;done)) ?_)
 refine ie (.vw 0 2 i pG ci true) (fun _=>⟨?_,?_⟩) ?_
 ·simp [ht,dO,bO];omega
 ·simp [ht,aY,aT,ug,qf]
 cbv
 refine bL (bI (ni:Nat)) [.row 2 L1,.bB] ?_ ?_ ?_ ?_
 ·simp only [ht,eO]
  refine ⟨by omega,⟨by omega,?_⟩,?_⟩
  ·intro h;rw [h] at hn;simp at hn;omega
  intro r hr;exact aB r (List.mem_of_mem_drop (List.mem_of_mem_take hr))
 ·simp [ht,aa];omega
 ·simp only [ht,uh]
  rw [List.take_of_length_le (by simp;omega)]
 cbv
 refine bL (.vw 0 2 i pG ci true) [.row 2 L1,.bB] ?_ ?_ rfl ?_
 ·simp [ht,dO,bO];omega
 ·simp [ht,aY,aT,ug,qf]
 cbv
 refine bL (bI 1) [.row 2 r,.bB] ?_ ?_ ?_ ?_
 ·simp only [ht,eO]
  refine ⟨⟨by omega,?_⟩,?_⟩
  ·intro h;rw [h] at mw;simp at mw;omega
  intro r hr;have:=List.mem_of_mem_take hr;simp at this;rw [this];exact hrow
 ·simp [ht,aa];omega
 ·simp [ht,pX,show min 1 pG=1 by omega]
 cbv
 refine yX [true] trv ?_ rfl rfl rfl ?_
 ·simp only [ht];omega
 simp only [ht];rw [←Be]
theorem HM (ht:TT t) {es:List (List D)} {x:D} {row:List D} {i n:Nat} (hn:n=es.length) (hi:i≤n) (aB:∀r∈es,r.length=2) (hrow:(x::row).length=2) (hs:n<1000000) {r:List (List D)} (hr:r=es.take i++(x::row)::es.drop i):
 FC 139 [.ow 0 2 n,bI (i:Int),SL [x::row]] [.row 2 es] (.ret (SL r)) [.dead]:=
 dX fun c hc hc0=>ET ht hn hi hc hc0 aB hrow hs hr
theorem HN (ht:TT t) {l:List bZ} {es:List (List D)} (aB:es=l.map bZ.cells) (hs:l.length<1000000000):
 FC 140 [SL es] [] (.ret (.ow 0 2 (t _ fun _=>(l.map bZ.cells).length))) [.row 2 (t _ fun _=>l.map bZ.cells)]:=by
 simp only [ht];subst aB
 refine Ko ht ?_ ?_ (by simp)
 ·intro r hr;obtain ⟨y,_,rfl⟩:=List.mem_map.1 hr;rfl
 simp;omega
theorem EU (ht:TT t) {l:List bZ} {x:bZ} {k:Nat} {i:Int} (hi:i=k) (hk:k≤l.length) (hl:l.length<1000000):
 FC 139 [.ow 0 2 (t _ fun _=>(l.map bZ.cells).length),bI i,.cl [bZ.cells x]] [.row 2 (t _ fun _=>l.map bZ.cells)] (.ret (SL (t _ fun _=>(l.take k++x::l.drop k).map bZ.cells))) [.dead]:=by
 simp only [ht];subst hi
 refine pg (args':=[.ow 0 2 (l.map bZ.cells).length,bI k,SL [bZ.cells x]]) ?_ (HM ht (by simp) (by simpa using hk) ?_ rfl (by simpa using hl) (by simp [bZ.cells]))
 ·intro β w ok vs h
  simp only [ak] at h ⊢
  obtain ⟨u1,Zx,rfl,h1,u2,O5,rfl,h2,u3,V5,rfl,h3,h4⟩:=h
  exact ⟨u1,_,rfl,h1,u2,_,rfl,h2,u3,V5,rfl,LV h3,h4⟩
 intro r hr;obtain ⟨y,_,rfl⟩:=List.mem_map.1 hr;rfl
theorem Wg (l:List bZ) (e:bZ):vu l e≤l.length:=by
 unfold vu
 cases h:l.findIdx? (fun x=>dh e x) with
 |none=>exact Nat.le_refl _
 |some k=>exact Nat.le_of_lt (List.findIdx?_eq_some_iff_getElem.1 h).1
theorem Br (ht:TT t) (a b:Int) {l:List bZ} {es:List (List D)} (aB:es=l.map bZ.cells) (hl:l.length<1000000):
 FC 91 [SL es,.agg [aA a,bI b]] [] (.ret (YM t (t _ fun _=>jW l ⟨a,b⟩))) []:=by
 have hq:=Wg l ⟨a,b⟩
 obtain ⟨qa,hqa⟩:∃n,n=vu l ⟨a,b⟩:=⟨_,rfl⟩
 refine bH ht (aF:=[]) Tryz.func91 rfl rfl (N:=31) rfl rfl (n:=0) rfl rfl ?_
 cbv
 have ap:es.length=l.length:=by rw [aB,lgM]
 refine aM trv (Dt ht _ _) trv rfl rfl (fun r0 cN=>?_)
 simp only [ht] at cN
 cbv
 refine an (fun h1=>?_) (fun h1=>?_)
 ·cbv
  refine av trv trv rfl rfl rfl ?_
  (simp only [ht];simp_all [jW];done)
 cbv
 refine aM trv (wT ht _ ‹_› (by omega)) trv rfl rfl (fun r2 fQ=>?_)
 simp only [ht] at fQ
 cbv
 refine an (fun h3=>?_) (fun h3=>?_)
 ·simp [ht] at h3
  cbv
  refine av trv trv rfl rfl rfl ?_
  (simp only [ht];simp_all [jW];done)
 simp [ht] at h3
 cbv
 refine an (fun h4=>?_) (fun h4=>?_)
 ·simp [ht,aa,ap] at h4
  cbv
  refine av trv trv rfl rfl rfl ?_
  (simp only [ht,jW];grind)
 simp [ht,aa,ap] at h4
 cbv
 refine cO [false,false,false,false,false,false,false,false,true,true,true] (by kernel_rfl) (by kernel_rfl) ?_
 cbv
 refine gI (by simp) ?_
 refine .inr (GN trv (HN ht ‹_› (by omega)) trv rfl (.inr rfl) rfl ?_)
 cbv
 iterate 3 refine gI (by simp) ?_
 refine .inl ?_
 refine bJ (fun g5=>⟨trv,trv,Wf ht _ _ ‹_› (by omega)⟩) rfl rfl (fun r6 lF=>?_)
 simp only [ht] at lF
 rw [←hqa] at lF
 cbv
 iterate 2 refine gI (by simp) ?_
 refine dx [1] trv rfl rfl (EU ht (l:=l) (x:=⟨a,b⟩) (k:=qa) ‹_› (by omega) (by omega)) (cz ?_)
 cbv
 refine av trv trv rfl rfl rfl ?_
 (simp only [ht,jW];grind)
end Dem
end
