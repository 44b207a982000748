/- Parts of a proof, joined. -/
import Derived.Test.YtihohjnkkalgiaaGreatDoorP17
set_option linter.all false
set_option maxRecDepth 100000
set_option maxHeartbeats 4000000
section
open Go Dem Go.Proofs
namespace Dem
variable {t:Th}
def Jb.bC (t:Th) (j:Jb):List D:=[.int .u64 j.id,.str j.x.path,.int .u64 j.x.gB.a,.int .u64 j.x.gB.b,.int .u64 j.x.gB.c,.int .u64 j.x.gB.d,.int .i64 j.x.count,.int .i64 j.x.prio,.int .i64 j.x.fB,.sl (t _ fun _=>j.x.bZ.map Term.cells),.bool j.runs,.int .i64 j.left]
def UW (t:Th) (j:Jb):AV:=.agg [az j.id,ST j.x.path,az j.x.gB.a,az j.x.gB.b,az j.x.gB.c,az j.x.gB.d,bG j.x.count,bG j.x.prio,bG j.x.fB,SL (t _ fun _=>j.x.bZ.map Term.cells),BL j.runs,bG j.left]
def Kj (t:Th) (r:Jb×Bool):AV:=.dL [UW t r.1,BL r.2]
theorem Nj (ht:TT t) (id:Int) {l:List (Jb)} {es:List (List D)} (aA:es=l.map Jb.cells) (f:Nat) (p:Jb→Bool) (hl:l.length<9223372036854775807)
 (hf:∀x∈l,FC f [.agg [az x.id,ST x.x.path,az x.x.gB.a,az x.x.gB.b,az x.x.gB.c,az x.x.gB.d,bG x.x.count,bG x.x.prio,bG x.x.fB,SL (x.x.bZ.map Term.cells),BL x.runs,bG x.left],.ptr 0 0] [.var [az id]] (.ret (BL (p x))) [.var [az id]]) {r:Int} (hr:r=idxOf p l):FC 70 [SL es,.fn f [.ptr 0 0]] [.var [az id]] (.ret (bG r)) [.var [az id]]:=by
 have hel:es.length=l.length:=by rw [aA,lgM]
 obtain ⟨J,hJ⟩:∃J:Nat→Nat→Prop,∀n v,J n v↔(v+n=l.length∧∀i<v,∀x,l[i]?=some x→p x=false):=⟨fun n v=>v+n=l.length∧∀i<v,∀x,l[i]?=some x→p x=false,fun _ _=>Iff.rfl⟩
 refine bL ht (aI:=[.var [az id]]) Tryz.func70 rfl rfl (N:=19) rfl rfl (n:=1) rfl rfl ?_
 cbv
 refine bI ⟨[0,1,7,8],[],[]⟩ (σ:=Nat) (fun k=>[(8,bG (t _ fun _=>(k:Int)))]) (fun _=>[]) J ?_
 cbv
 refine aC ⟨l.length,0,(hJ _ _).2 ⟨by omega,by intro i hi;simp at hi⟩,by simp only [ht];rfl,?_⟩
 rintro n k hj
 obtain ⟨h2,h3⟩:=(hJ _ _).1 hj
 clear hj
 cbv
 refine an (fun h=>?_) (fun h=>?_)
 ·simp only [ht,aa,decide_eq_true_eq] at h
  have hk:k<l.length:=by omega
  obtain ⟨x,hx⟩:∃x,l[k]?=some x:=⟨l[k],by simp⟩
  have oo:x∈l:=List.mem_of_getElem? hx
  have gG:=hf x oo
  obtain ⟨px,hpx⟩:∃b,b=p x:=⟨_,rfl⟩
  rw [←hpx] at gG
  obtain ⟨id',⟨p',⟨a',b',c',d'⟩,n',Ts,Ii,qB⟩,Tt,Tu⟩:=x;obtain ⟨EY,lI⟩:∃lr:List (List D),lr=qB.map Term.cells:=⟨_,rfl⟩;simp only [←lI] at gG
  cbv
  refine cI [.int .u64 id',.str p',.int .u64 a',.int .u64 b',.int .u64 c',.int .u64 d',.int .i64 n',.int .i64 Ts,.int .i64 Ii,.sl EY,.bool Tt,.int .i64 Tu] ?_ ?_ ?_
  ·simp only [ht,aa];refine ⟨by omega,h,?_⟩;rw [aA];intro r hr;obtain ⟨y,_,rfl⟩:=List.mem_map.1 hr;rfl
  ·simp [ht,aa,aA,hx,lI,Jb.cells]
  cbv
  refine dV trv gG ?_
  cbv
  refine an (fun hb=>?_) (fun hb=>?_)
  ·cbv
   refine ax trv trv rfl rfl rfl ?_
   have e:=de hx (hpx▸hb) h3
   simp only [ht,aa,hr,idxOf,e]
  cbv
  refine aC ⟨n-1,k+1,⟨by omega,(hJ _ _).2 ⟨by omega,?_⟩⟩,?_⟩
  ·intro i hi y hy
   by_cases hik:i<k
   ·exact h3 i hik y hy
   have:i=k:=by omega
   subst this;rw [hx] at hy;cases hy;rw [←hpx];exact hb
  simp only [ht,aa,aD (show k<9223372036854775807 by omega)];rfl
 simp only [ht,aa,decide_eq_false_iff_not] at h
 have hk:¬k<l.length:=by omega
 clear h
 cbv
 refine ax trv trv rfl rfl rfl ?_
 rw [hr,idxOf,dA]
 intro i y hy
 have:i<l.length:=by
  rcases Nat.lt_or_ge i l.length with h'|h';· exact h'
  simp [List.getElem?_eq_none h'] at hy
 exact h3 i (by omega) y hy
theorem Kk (ht:TT t) (id i n k l a b c d:Int) (p:aQ) (sr:List (List D)) (rn:Bool) (lf:Int):FC 99 [.agg [az i,ST p,az a,az b,az c,az d,bG n,bG k,bG l,SL sr,BL rn,bG lf],.ptr 0 0] [.var [az id]] (.ret (BL (decide (i=id)))) [.var [az id]]:=by
 refine bL ht (aI:=[.var [az id]]) Tryz.func99 rfl rfl (N:=8) rfl rfl (n:=1) rfl rfl ?_
 cbv
 refine ax trv trv rfl rfl rfl ?_
 simp [ht]
theorem qu (ht:TT t) (id rd nx ef af:Int) (ns ps ts qs el al:List (List D)) {l:List Jb} {es:List (List D)} (aA:es=l.map Jb.cells) (hl:l.length<1000000000):
 FC 43 [.agg [az rd,az nx,SL ns,SL ps,SL ts,SL es,SL qs,az ef,SL el,az af,SL al],az id] [] (.ret (fQ (t _ fun _=>GL l id))) []:=by
 obtain ⟨r,hr⟩:∃r,r=GL l id:=⟨_,rfl⟩
 refine bL ht (aI:=[]) Tryz.func43 rfl rfl (N:=9) rfl rfl (n:=0) rfl rfl ?_
 cbv
 refine dx [1] trv rfl rfl (Nj ht id aA 99 (fun x=>decide (x.id=id)) (by omega) (fun x _=>Kk ht id _ _ _ _ _ _ _ _ _ _ _ _) (r:=r) hr) (cj ?_)
 cbv
 exact ax trv trv rfl rfl rfl (by simp [ht,hr])
theorem pG (ht:TT t) (id rd nx ef af:Int) (ns ps ts qs el al:List (List D)) {l:List Jb} {es:List (List D)} (aA:es=l.map Jb.cells) (hl:l.length<1000000000):
 FC 17 [.agg [az rd,az nx,SL ns,SL ps,SL ts,SL es,SL qs,az ef,SL el,az af,SL al],az id] [] (.ret (Kj t (t _ fun _=>cG l id))) []:=by
 refine bL ht (aI:=[]) Tryz.func17 rfl rfl (N:=18) rfl rfl (n:=0) rfl rfl ?_
 cbv
 have av:es.length=l.length:=by rw [aA,lgM]
 refine aZ trv (qu ht _ _ _ _ _ _ _ _ _ _ _ ‹_› ‹_›) trv rfl rfl (fun r0 cF=>?_)
 simp only [ht] at cF
 have ec:=cE cF
 clear cF
 rcases ec with ⟨e1,e2,e3⟩|⟨i,x,hi,hil,e1,e2,e3,e4⟩
 ·cbv
  refine an (fun h1=>?_) (fun h1=>?_)
  ·simp [ht] at h1
   cbv
   refine ax trv trv rfl rfl rfl ?_
   (simp [ht,cG,e3,Jb.zero,Ask.zero,bM.zero];done)
  simp [ht] at h1
  omega
 cbv
 refine an (fun h2=>?_) (fun h2=>?_)
 ·simp [ht] at h2
  (simp only [aa] at*;omega)
 simp [ht] at h2
 cbv
 refine yC ht aA (cT:=Jb.bC t) e1 ‹_› (fun _=>rfl) (fun _=>(by (simp only [ht,Jb.bC];rfl))) ?_
 cbv
 refine ax trv trv rfl rfl rfl ?_
 (simp [ht,cG,e4];done)
theorem Kl (ht:TT t) (ts:List (List D)) {l:List (aQ)} {es:List (List D)} (aA:es=l.map bg) (f:Nat) (p:aQ→Bool) (hl:l.length<9223372036854775807)
 (hf:∀x∈l,FC f [.d (.str x),.ptr 0 0] [.var [SL ts]] (.ret (BL (p x))) [.var [SL ts]]) {r:Int} (hr:r=idxOf p l):FC 199 [SL es,.fn f [.ptr 0 0]] [.var [SL ts]] (.ret (bG r)) [.var [SL ts]]:=by
 have hel:es.length=l.length:=by rw [aA,lgM]
 obtain ⟨J,hJ⟩:∃J:Nat→Nat→Prop,∀n v,J n v↔(v+n=l.length∧∀i<v,∀x,l[i]?=some x→p x=false):=⟨fun n v=>v+n=l.length∧∀i<v,∀x,l[i]?=some x→p x=false,fun _ _=>Iff.rfl⟩
 refine bL ht (aI:=[.var [SL ts]]) Tryz.func199 rfl rfl (N:=19) rfl rfl (n:=1) rfl rfl ?_
 cbv
 refine bI ⟨[0,1,7,8],[],[]⟩ (σ:=Nat) (fun k=>[(8,bG (t _ fun _=>(k:Int)))]) (fun _=>[]) J ?_
 cbv
 refine aC ⟨l.length,0,(hJ _ _).2 ⟨by omega,by intro i hi;simp at hi⟩,by simp only [ht];rfl,?_⟩
 rintro n k hj
 obtain ⟨h2,h3⟩:=(hJ _ _).1 hj
 clear hj
 cbv
 refine an (fun h=>?_) (fun h=>?_)
 ·simp only [ht,aa,decide_eq_true_eq] at h
  have hk:k<l.length:=by omega
  obtain ⟨x,hx⟩:∃x,l[k]?=some x:=⟨l[k],by simp⟩
  have oo:x∈l:=List.mem_of_getElem? hx
  have gG:=hf x oo
  obtain ⟨px,hpx⟩:∃b,b=p x:=⟨_,rfl⟩
  rw [←hpx] at gG
  skip
  cbv
  refine cI [.str x] ?_ ?_ ?_
  ·simp only [ht,aa];refine ⟨by omega,h,?_⟩;rw [aA];intro r hr;obtain ⟨y,_,rfl⟩:=List.mem_map.1 hr;rfl
  ·simp [ht,aa,aA,hx]
  cbv
  refine dV trv gG ?_
  cbv
  refine an (fun hb=>?_) (fun hb=>?_)
  ·cbv
   refine ax trv trv rfl rfl rfl ?_
   have e:=de hx (hpx▸hb) h3
   simp only [ht,aa,hr,idxOf,e]
  cbv
  refine aC ⟨n-1,k+1,⟨by omega,(hJ _ _).2 ⟨by omega,?_⟩⟩,?_⟩
  ·intro i hi y hy
   by_cases hik:i<k
   ·exact h3 i hik y hy
   have:i=k:=by omega
   subst this;rw [hx] at hy;cases hy;rw [←hpx];exact hb
  simp only [ht,aa,aD (show k<9223372036854775807 by omega)];rfl
 simp only [ht,aa,decide_eq_false_iff_not] at h
 have hk:¬k<l.length:=by omega
 clear h
 cbv
 refine ax trv trv rfl rfl rfl ?_
 rw [hr,idxOf,dA]
 intro i y hy
 have:i<l.length:=by
  rcases Nat.lt_or_ge i l.length with h'|h';· exact h'
  simp [List.getElem?_eq_none h'] at hy
 exact h3 i (by omega) y hy
theorem Km (ht:TT t) (ts:List (List D)) {l:List (aQ)} {es:List (List D)} (aA:es=l.map bg) (f:Nat) (p:aQ→Bool) (hl:l.length<9223372036854775807)
 (hf:∀x∈l,FC f [.d (.str x),.ptr 0 0] [.var [SL ts]] (.ret (BL (p x))) [.var [SL ts]]) {r:Bool} (hr:r=l.any p):FC 156 [SL es,.fn f [.ptr 0 0]] [.var [SL ts]] (.ret (BL r)) [.var [SL ts]]:=by
 obtain ⟨k,hk⟩:∃k,k=idxOf p l:=⟨_,rfl⟩
 refine bL ht (aI:=[.var [SL ts]]) Tryz.func156 rfl rfl (N:=9) rfl rfl (n:=1) rfl rfl ?_
 cbv
 refine dV trv (Kl ht ts aA f p hl hf hk) ?_
 cbv
 refine ax trv trv rfl rfl rfl ?_
 simp only [ht,hr,iu,hk]
theorem Nk (ht:TT t) (q:aQ) {l:List bu} {es:List (List D)} (aA:es=l.map bu.cells) (hl:l.length<1000000000) {r:Bool} (hr:r=!(ph l q).2):
 FC 179 [ST q,.ptr 0 0] [.var [SL es]] (.ret (BL r)) [.var [SL es]]:=by
 refine bL ht (aI:=[.var [SL es]]) Tryz.func179 rfl rfl (N:=14) rfl rfl (n:=1) rfl rfl ?_
 cbv
 have av:es.length=l.length:=by rw [aA,lgM]
 refine aZ trv (Ni ht _ ‹_› ‹_›) trv rfl rfl (fun r0 cF=>?_)
 simp only [ht] at cF
 cbv
 refine ax trv trv rfl rfl rfl ?_
 (simp [*];done)
theorem Bb (ht:TT t) (p:aQ) {l:List bu} {es:List (List D)} (aA:es=l.map bu.cells) (hl:l.length<1000000000) (hp:p.length<1000000000000):
 FC 133 [SL es,ST p] [] (.ret (cP (t _ fun _=>iO l p))) []:=by
 have h1:=jE p
 have h2:=gF p
 obtain ⟨ws,WZ⟩:∃ws,ws=lT p++[[]]:=⟨_,rfl⟩
 obtain ⟨r9,j8⟩:∃r,r=ws.any (fun q=>!(ph l q).2):=⟨_,rfl⟩
 refine bL ht (aI:=[]) Tryz.func133 rfl rfl (N:=12) rfl rfl (n:=0) rfl rfl ?_
 cbv
 have av:es.length=l.length:=by rw [aA,lgM]
 refine jg trv (IV ht p ‹_›) trv rfl (.inr rfl) ?_
 cbv
 refine ⟨?_,?_⟩
 ·(simp only [ht];grind)
 cbv
 (refine Mx (v:=BL r9) trv rfl (by simp [ht]) (by exact dw [0] rfl rfl rfl rfl (Km ht es (l:=ws) (by simp only [ht,WZ];simp) 179 (fun q=>!(ph l q).2) (by rw [WZ];simp;omega) (fun x _=>Nk ht x aA hl rfl) j8)) ?_)
 cbv
 refine ax trv trv rfl rfl rfl ?_
 (simp only [ht,iO,←WZ,←j8];done)
theorem yY (ht:TT t) {es:List (List D)} (aA:∀r∈es,r.length=9) (hs:es.length*80≤140737488355328) {m:Nat} (hm:m=es.length):
 FC 106 [SL es] [] (.ret (.ow 0 9 m)) [.row 9 es]:=by
 refine bL ht (aI:=[]) Tryz.func106 rfl rfl (N:=8) rfl rfl (n:=0) rfl rfl ?_
 cbv
 refine ⟨fun b hb=>?_⟩
 simp only [ht] at hb
 cbv
 refine an (fun h=>?_) (fun h=>?_)
 ·have he:=hb h
  subst he
  cbv
  exact Er trv rfl rfl (by rw [hm];rfl) rfl
 clear hb h
 cbv
 refine ⟨?_,?_⟩
 ·simp only [ht];simp;exact ⟨hs,aA⟩
 refine Ad trv rfl rfl rfl rfl ?_ ?_
 ·simp only [ht];rw [hm];simp
 simp only [ht];rfl
theorem CD (ht:TT t) {es:List (List D)} {x:D} {row:List D} {i n c:Nat} (hn:n=es.length) (hi:i≤n) (hc:n≤c) (hc0:n=0→c=0) (aA:∀r∈es,r.length=9) (hrow:(x::row).length=9) (hs:n<1000000) {r:List (List D)} (hr:r=es.take i++(x::row)::es.drop i):
 FC 144 [.vw 0 9 0 n c true,bG (i:Int),SL [x::row]] [.row 9 es] (.ret (SL r)) [.dead]:=by
 obtain ⟨n1,DE⟩:∃n1,n1=n+1:=⟨_,rfl⟩
 obtain ⟨i1,hi1⟩:∃i1,i1=i+1:=⟨_,rfl⟩
 obtain ⟨ni,hni⟩:∃ni,ni=n-i:=⟨_,rfl⟩
 obtain ⟨ci,ot⟩:∃ci,ci=c-i:=⟨_,rfl⟩
 obtain ⟨uN,GV⟩:∃uN,uN=c-i1:=⟨_,rfl⟩
 obtain ⟨nU,rT⟩:∃nU,nU=n1-i:=⟨_,rfl⟩
 have hW:∀P:Prop,((IntKind.i64.wrap ((n:Int)+1)=(n1:Int))→(IntKind.i64.wrap ((n1:Int)-(i:Int))=(nU:Int))→(IntKind.i64.wrap ((i:Int)+1)=(i1:Int))→P)→P:=
  fun P h=>h (by rw [wrap64 (by omega) (by omega)];omega) (by rw [wrap64 (by omega) (by omega)];omega) (by rw [wrap64 (by omega) (by omega)];omega)
 have hrl:r.length=n1:=by rw [hr,List.length_append,List.length_cons,List.length_take,List.length_drop];omega
 have R8:n≠0→FC 186 [SL [x::row],.vw 0 9 i1 ni uN true] [.row 9 es] (.ret (BL false)) [.row 9 es]:=fun h0=>
  gQ Q3 Tryz.func186 rfl rfl rfl rfl (tS:=29) (tR:=4) rfl rfl (by intro h;rw [h] at hn;exact h0 hn)
 refine bL ht (aI:=[.row 9 es]) Tryz.func144 rfl rfl (N:=95) rfl rfl (n:=1) rfl rfl ?_
 cbv
 refine bE (.vw 0 9 i ni ci true) [.row 9 es] ?_ ?_ rfl ?_
 ·simp [ht,dF,bJ];omega
 ·simp [ht,aS,aM,hni,ot]
 cbv
 refine mU (by simp [ht]) ?_
 cbv
 refine an (fun h=>?_) (fun h=>?_)
 ·have hin:i=n:=by simp [ht,aa] at h;omega
  clear h
  cbv
  refine bE (.ow 1 9 n1) [.dead,.row 9 r] ?_ ?_ ?_ ?_
  ·simp only [ht]
   refine ⟨⟨hn,by simp;omega,?_⟩,rfl,hn,fun h=>⟨hc0 (by rw [hn,h];rfl),rfl⟩⟩
   intro r hr
   rcases List.mem_append.1 hr with hr|hr
   ·exact aA r hr
   simp at hr;subst hr;exact hrow
  ·simp [ht,DE,hn]
  ·simp only [ht];rw [hr]
   have:i=es.length:=by omega
   subst this;simp
  cbv
  refine ax trv ?_ rfl rfl rfl rfl
  simp only [ht];exact hrl.symm
 have hin:i<n:=by simp [ht,aa] at h;omega
 clear h
 have yS:r=(r.drop 0).take n1:=by rw [List.drop_zero,List.take_of_length_le (by omega)]
 cbv
 refine an (fun h2=>?_) (fun h2=>?_)
 ·have R9:c=n:=by
   refine hW _ fun e1 e2 e3=>?_
   simp [ht,aa,e1] at h2;omega
  clear h2
  obtain ⟨L,hL⟩:∃L:List (List D),L=es.take i++List.replicate (es.length+1-i) [D.str [],D.int IntKind.u64 0,D.int IntKind.u64 0,D.int IntKind.u64 0,D.int IntKind.u64 0,D.int IntKind.u64 0,D.int IntKind.u64 0,D.int IntKind.u64 0,D.int IntKind.u64 0]:=⟨_,rfl⟩
  have FL:L.length=n1:=by rw [hL];simp;omega
  obtain ⟨L1,rU⟩:∃L1,L1=wrote L i [x::row]:=⟨_,rfl⟩
  have lH:L1.length=n1:=by rw [rU];simp [wrote,FL];omega
  have oI:r=wrote L1 i1 (es.drop i):=by rw [hi1,rU,hL,tM (by omega),hr]
  cbv
  refine bE (.vw 0 9 0 i c true) [.row 9 es] ?_ ?_ rfl ?_
  ·simp [ht,dF,bJ];omega
  ·simp [ht,aS,aM]
  cbv
  refine bE (.vw 1 9 0 n1 n1 false) [.row 9 es,.row 9 L] ?_ ?_ ?_ ?_
  ·refine hW _ fun e1 e2 e3=>?_
   simp [ht,aa,e1,e2];omega
  ·refine hW _ fun e1 e2 e3=>?_
   simp [ht,aa,e1,e2];omega
  ·refine hW _ fun e1 e2 e3=>?_
   simp [ht,aa,e1,e2,hL];omega
  cbv
  refine bE (.vw 1 9 i nU nU false) [.row 9 es,.row 9 L] ?_ ?_ rfl ?_
  ·simp [ht,dF,bJ];omega
  ·simp [ht,aS,aM,rT]
  cbv
  refine bE (bG 1) [.row 9 es,.row 9 L1] ?_ ?_ ?_ ?_
  ·simp only [ht,eB]
   refine ⟨⟨by omega,?_⟩,?_⟩
   ·intro h;rw [h] at FL;simp at FL;omega
   intro r hr;have:=List.mem_of_mem_take hr;simp at this;rw [this];exact hrow
  ·simp [ht,aa];omega
  ·simp [ht,rU,show min 1 nU=1 by omega]
  cbv
  refine c7 [false,false,false,false,false,false,false,false,true] (by kernel_rfl) (by kernel_rfl) ?_
  cbv
  repeat (refine gI (by (simp;done)) ?_)
  refine gE (.vw 1 9 i1 ni ni false) (fun _=>⟨?_,?_⟩) ?_
  ·refine hW _ fun e1 e2 e3=>?_
   simp [ht,aa,e3,dF,bJ];omega
  ·refine hW _ fun e1 e2 e3=>?_
   simp [ht,aa,e3,aS,aM];omega
  cbv
  repeat (refine gI (by (simp;done)) ?_)
  refine gE (.vw 0 9 i ni ci true) (fun _=>⟨?_,?_⟩) ?_
  ·simp [ht,dF,bJ];omega
  ·simp [ht,aS,aM,hni,ot]
  cbv
  refine bE (bG (ni:Nat)) [.row 9 es,.row 9 r,.bt] ?_ ?_ ?_ ?_
  ·simp only [ht,eB]
   refine ⟨by omega,⟨by omega,?_⟩,?_⟩
   ·intro h;rw [h] at lH;simp at lH;omega
   intro r hr;exact aA r (List.mem_of_mem_drop (List.mem_of_mem_take hr))
  ·simp [ht,aa]
  ·simp only [ht,oI]
   rw [List.take_of_length_le (by simp;omega)]
  cbv
  refine wG [true] trv ?_ rfl rfl rfl ?_
  ·simp only [ht];omega
  simp only [ht];rw [←yS]
 have R9:n<c:=by
  refine hW _ fun e1 e2 e3=>?_
  simp [ht,aa,e1] at h2;omega
 clear h2
 obtain ⟨L1,rU⟩:∃L1,L1=wrote es i1 (es.drop i):=⟨_,rfl⟩
 have oI:r=wrote L1 i [x::row]:=by rw [rU,hi1,Ct (by omega),hr]
 have lH:L1.length=n1:=by rw [rU];simp [wrote];omega
 cbv
 refine bE (.vw 0 9 0 n1 c true) [.row 9 es] ?_ ?_ rfl ?_
 ·refine hW _ fun e1 e2 e3=>?_
  simp [ht,aa,e1,dF,bJ];omega
 ·refine hW _ fun e1 e2 e3=>?_
  simp [ht,aa,e1,aS,aM]
 cbv
 refine bE (.vw 0 9 i1 ni uN true) [.row 9 es] ?_ ?_ rfl ?_
 ·refine hW _ fun e1 e2 e3=>?_
  simp [ht,aa,e3,dF,bJ];omega
 ·refine hW _ fun e1 e2 e3=>?_
  simp [ht,aa,e3,aS,aM];omega
 cbv
 refine dV trv (R8 (by omega)) ?_
 cbv
 refine jX (by simp [ht]) ?_
 cbv
 refine c7 [false,false,false,false,false,false,false,false,true] (by kernel_rfl) (by kernel_rfl) ?_
 cbv
 repeat (refine gI (by (simp;done)) ?_)
 refine gE (.vw 0 9 i1 ni uN true) (fun _=>⟨?_,?_⟩) ?_
 ·refine hW _ fun e1 e2 e3=>?_
  simp [ht,aa,e3,dF,bJ];omega
 ·refine hW _ fun e1 e2 e3=>?_
  simp [ht,aa,e3,aS,aM];omega
 cbv
 repeat (refine gI (by (simp;done)) ?_)
 refine gE (.vw 0 9 i nU ci true) (fun _=>⟨?_,?_⟩) ?_
 ·simp [ht,dF,bJ];omega
 ·simp [ht,aS,aM,rT,ot]
 cbv
 refine bE (bG (ni:Nat)) [.row 9 L1,.bt] ?_ ?_ ?_ ?_
 ·simp only [ht,eB]
  refine ⟨by omega,⟨by omega,?_⟩,?_⟩
  ·intro h;rw [h] at hn;simp at hn;omega
  intro r hr;exact aA r (List.mem_of_mem_drop (List.mem_of_mem_take hr))
 ·simp [ht,aa];omega
 ·simp only [ht,rU]
  rw [List.take_of_length_le (by simp;omega)]
 cbv
 refine bE (.vw 0 9 i nU ci true) [.row 9 L1,.bt] ?_ ?_ rfl ?_
 ·simp [ht,dF,bJ];omega
 ·simp [ht,aS,aM,rT,ot]
 cbv
 refine bE (bG 1) [.row 9 r,.bt] ?_ ?_ ?_ ?_
 ·simp only [ht,eB]
  refine ⟨⟨by omega,?_⟩,?_⟩
  ·intro h;rw [h] at lH;simp at lH;omega
  intro r hr;have:=List.mem_of_mem_take hr;simp at this;rw [this];exact hrow
 ·simp [ht,aa];omega
 ·simp [ht,oI,show min 1 nU=1 by omega]
 cbv
 refine wG [true] trv ?_ rfl rfl rfl ?_
 ·simp only [ht];omega
 simp only [ht];rw [←yS]
theorem E8 (ht:TT t) {es:List (List D)} {x:D} {row:List D} {i n:Nat} (hn:n=es.length) (hi:i≤n) (aA:∀r∈es,r.length=9) (hrow:(x::row).length=9) (hs:n<1000000) {r:List (List D)} (hr:r=es.take i++(x::row)::es.drop i):
 FC 144 [.ow 0 9 n,bG (i:Int),SL [x::row]] [.row 9 es] (.ret (SL r)) [.dead]:=
 dK fun c hc hc0=>CD ht hn hi hc hc0 aA hrow hs hr
theorem Nl (ht:TT t) (q:aQ) {l:List (bu)} {es:List (List D)} (aA:es=l.map bu.cells) (f:Nat) (p:bu→Bool) (hl:l.length<9223372036854775807)
 (hf:∀x∈l,FC f [.agg [ST x.path,az x.fT.a,az x.fT.b,az x.fT.c,az x.fT.d,az x.used.a,az x.used.b,az x.used.c,az x.used.d],.ptr 0 0] [.var [ST q]] (.ret (BL (p x))) [.var [ST q]]) {r:Int} (hr:r=idxOf p l):FC 135 [SL es,.fn f [.ptr 0 0]] [.var [ST q]] (.ret (bG r)) [.var [ST q]]:=by
 have hel:es.length=l.length:=by rw [aA,lgM]
 obtain ⟨J,hJ⟩:∃J:Nat→Nat→Prop,∀n v,J n v↔(v+n=l.length∧∀i<v,∀x,l[i]?=some x→p x=false):=⟨fun n v=>v+n=l.length∧∀i<v,∀x,l[i]?=some x→p x=false,fun _ _=>Iff.rfl⟩
 refine bL ht (aI:=[.var [ST q]]) Tryz.func135 rfl rfl (N:=19) rfl rfl (n:=1) rfl rfl ?_
 cbv
 refine bI ⟨[0,1,7,8],[],[]⟩ (σ:=Nat) (fun k=>[(8,bG (t _ fun _=>(k:Int)))]) (fun _=>[]) J ?_
 cbv
 refine aC ⟨l.length,0,(hJ _ _).2 ⟨by omega,by intro i hi;simp at hi⟩,by simp only [ht];rfl,?_⟩
 rintro n k hj
 obtain ⟨h2,h3⟩:=(hJ _ _).1 hj
 clear hj
 cbv
 refine an (fun h=>?_) (fun h=>?_)
 ·simp only [ht,aa,decide_eq_true_eq] at h
  have hk:k<l.length:=by omega
  obtain ⟨x,hx⟩:∃x,l[k]?=some x:=⟨l[k],by simp⟩
  have oo:x∈l:=List.mem_of_getElem? hx
  have gG:=hf x oo
  obtain ⟨px,hpx⟩:∃b,b=p x:=⟨_,rfl⟩
  rw [←hpx] at gG
  obtain ⟨nm,⟨a,b,c,d⟩,⟨e,g,u,v⟩⟩:=x
  cbv
  refine cI [.str nm,.int .u64 a,.int .u64 b,.int .u64 c,.int .u64 d,.int .u64 e,.int .u64 g,.int .u64 u,.int .u64 v] ?_ ?_ ?_
  ·simp only [ht,aa];refine ⟨by omega,h,?_⟩;rw [aA];intro r hr;obtain ⟨y,_,rfl⟩:=List.mem_map.1 hr;rfl
  ·simp [ht,aa,aA,hx]
  cbv
  refine dV trv gG ?_
  cbv
  refine an (fun hb=>?_) (fun hb=>?_)
  ·cbv
   refine ax trv trv rfl rfl rfl ?_
   have e:=de hx (hpx▸hb) h3
   simp only [ht,aa,hr,idxOf,e]
  cbv
  refine aC ⟨n-1,k+1,⟨by omega,(hJ _ _).2 ⟨by omega,?_⟩⟩,?_⟩
  ·intro i hi y hy
   by_cases hik:i<k
   ·exact h3 i hik y hy
   have:i=k:=by omega
   subst this;rw [hx] at hy;cases hy;rw [←hpx];exact hb
  simp only [ht,aa,aD (show k<9223372036854775807 by omega)];rfl
 simp only [ht,aa,decide_eq_false_iff_not] at h
 have hk:¬k<l.length:=by omega
 clear h
 cbv
 refine ax trv trv rfl rfl rfl ?_
 rw [hr,idxOf,dA]
 intro i y hy
 have:i<l.length:=by
  rcases Nat.lt_or_ge i l.length with h'|h';· exact h'
  simp [List.getElem?_eq_none h'] at hy
 exact h3 i (by omega) y hy
theorem Sj (ht:TT t) (q:aQ) (x:bu) {r:Bool} (hr:r=!Op.bytesLess x.path q):FC 143 [.agg [ST x.path,az x.fT.a,az x.fT.b,az x.fT.c,az x.fT.d,az x.used.a,az x.used.b,az x.used.c,az x.used.d],.ptr 0 0] [.var [ST q]] (.ret (BL r)) [.var [ST q]]:=by
 obtain ⟨nm,⟨a,b,c,d⟩,⟨e,g,u,v⟩⟩:=x
 refine bL ht (aI:=[.var [ST q]]) Tryz.func143 rfl rfl (N:=8) rfl rfl (n:=1) rfl rfl ?_
 cbv
 refine ax trv trv rfl rfl rfl ?_
 simp only [ht,hr]
theorem wg (ht:TT t) {l:List bu} {es:List (List D)} (aA:es=l.map bu.cells) (hs:l.length<1000000000):
 FC 106 [SL es] [] (.ret (.ow 0 9 (t _ fun _=>(l.map bu.cells).length))) [.row 9 (t _ fun _=>l.map bu.cells)]:=by
 simp only [ht];subst aA
 refine yY ht ?_ ?_ (by simp)
 ·intro r hr;obtain ⟨y,_,rfl⟩:=List.mem_map.1 hr;rfl
 simp;omega
theorem tV (ht:TT t) {l:List bu} {x:bu} {k:Nat} {i:Int} (hi:i=k) (hk:k≤l.length) (hl:l.length<1000000):
 FC 144 [.ow 0 9 (t _ fun _=>(l.map bu.cells).length),bG i,.cl [bu.cells x]] [.row 9 (t _ fun _=>l.map bu.cells)] (.ret (SL (t _ fun _=>(l.take k++x::l.drop k).map bu.cells))) [.dead]:=by
 simp only [ht];subst hi
 refine nO (args':=[.ow 0 9 (l.map bu.cells).length,bG k,SL [bu.cells x]]) ?_ (E8 ht (by simp) (by simpa using hk) ?_ rfl (by simpa using hl) (by simp))
 ·intro β w ok vs h
  simp only [ak] at h ⊢
  obtain ⟨u1,VH,rfl,h1,u2,LC,rfl,h2,u3,Sf,rfl,h3,h4⟩:=h
  exact ⟨u1,_,rfl,h1,u2,_,rfl,h2,u3,Sf,rfl,IB h3,h4⟩
 intro r hr;obtain ⟨y,_,rfl⟩:=List.mem_map.1 hr;rfl
theorem elemAt {α:Type} [Inhabited α] (l:List α) (k:Nat):∃x,k<l.length→l[k]?=some x:=by
 by_cases h:k<l.length
 ·exact ⟨l[k],fun _=>List.getElem?_eq_getElem h⟩
 exact ⟨default,fun h'=>absurd h' h⟩
theorem Bc {t:Th} (ht:TT t) {α:Type} {l:List α} {cells cT:α→List D} {es:List (List D)} {g:Bool} {c:Prop} (aA:es=l.map cells) {z:Int} {n:Nat} (i:Nat) (x:α) {K:List D→Prop} (hi:g=true→z=i∧l[i]?=some x) (hn:∀x,(cells x).length=n) (hT:∀x,cells x=cT x)
 (hc:g=true→c) (hK:K (cT x)):mI g (c∧(t Prop fun _=>0≤z∧z<es.length∧∀r∈es,r.length=n)) (t _ fun _=>es.getD z.toNat []) K:=by
 refine Pj (cT x) (fun hg=>?_) hK
 obtain ⟨h1,h2⟩:=hi hg
 obtain ⟨ds,h,hk⟩:=yC (K:=fun ds=>ds=cT x) ht aA h2 h1 hn hT rfl
 obtain ⟨h3,h4⟩:=h rfl
 exact ⟨⟨hc hg,h3⟩,h4.trans hk⟩
theorem pH {l:List bu} {q:aQ} {r:Int} (h:r=bV l q):(r=-1∧bV l q=-1∧l.findIdx? (fun e=>decide (e.path=q))=none)∨∃(k:Nat) (x:bu),r=k∧bV l q=k∧k<l.length∧l[k]?=some x∧l.findIdx? (fun e=>decide (e.path=q))=some k:=by
 rcases cE (p:=fun e:bu=>decide (e.path=q)) (l:=l) (r:=r) h with ⟨e1,e2,e3⟩|⟨i,x,hi,hil,e1,e2,e3,e4⟩
 ·exact .inl ⟨e1,by rw [←h,e1],e2⟩
 exact .inr ⟨i,x,hi,by rw [←h,hi],hil,e1,e3⟩
def PW (l:List bu) (q:aQ):Nat:=match l.findIdx? (fun e=>!Op.bytesLess e.path q) with
 |some k=>k
 |none=>l.length
theorem Bd {l:List bu} {q:aQ} {v:bM} (h:l.findIdx? (fun e=>decide (e.path=q))=none) (h1:named q=true) (h2:¬q=[]→0≤bV l (parent q)) (h3:bV l q<0→(l.length:Int)<16):
 tE l q v=(l.take (PW l q)++⟨q,v,bM.zero⟩::l.drop (PW l q),0):=by
 have e0:bV l q=-1:=by unfold bV idxOf;rw [h]
 have h3:=h3 (by omega)
 unfold tE PW
 rw [if_neg (by simp [h1]),if_neg (by simp;exact fun g=>by have:=h2 g;omega),if_neg (by simp;omega)]
 simp only [h]
 cases l.findIdx? (fun e=>!Op.bytesLess e.path q)<;>simp
theorem Kn {l:List bu} {q:aQ} {v:bM} (h1:named q=true) (h2:¬q=[]→0≤bV l (parent q)) (h3:bV l q<0) (h4:(16:Int)≤l.length):tE l q v=(l,9):=by
 unfold tE
 rw [if_neg (by simp [h1]),if_neg (by simp;exact fun g=>by have:=h2 g;omega),if_pos (by simp;omega)]
theorem Be {l:List bu} {q:aQ} {v:bM} {k:Nat} {x:bu} (h:l.findIdx? (fun e=>decide (e.path=q))=some k) (hx:l[k]?=some x) (h1:named q=true) (h2:¬q=[]→0≤bV l (parent q)):
 tE l q v=if mW x.used v then (l.set k {x with fT:=v},0) else (l,10):=by
 have e0:bV l q=k:=by unfold bV idxOf;rw [h]
 unfold tE
 rw [if_neg (by simp [h1]),if_neg (by simp;exact fun g=>by have:=h2 g;omega),if_neg (by simp;omega)]
 simp only [h,List.getD_eq_getElem?_getD,hx,Option.getD_some]
 cases mW x.used v<;>simp
theorem fj (ht:TT t) (q:aQ) (a b c d:Int) {l:List bu} {es:List (List D)} (aA:es=l.map bu.cells) (hl:l.length<100000) (hq:q.length<1000000000000) (hpq:(parent q).length<1000000000000):
 FC 92 [SL es,ST q,V4 a b c d] [] (.ret (yX t (t _ fun _=>tE l q ⟨a,b,c,d⟩))) []:=by
 obtain ⟨pq,Ko⟩:∃p,p=parent q:=⟨_,rfl⟩
 obtain ⟨nq,CZ⟩:∃p,p=named q:=⟨_,rfl⟩
 refine bL ht (aI:=[]) Tryz.func92 rfl rfl (N:=77) rfl rfl (n:=0) rfl rfl ?_
 cbv
 have av:es.length=l.length:=by rw [aA,lgM]
 refine aZ trv (kS ht _ ‹_› (by omega)) trv rfl rfl (fun r0 cF=>?_)
 simp only [ht] at cF
 (rcases pH (q:=q) cF with ⟨e1,e0,e2⟩|⟨i,x,e1,e0,hil,e3,e2⟩)
 ·cbv
  refine aZ trv (yW ht _ ‹_›) trv rfl rfl (fun r1 dM=>?_)
  simp only [ht] at dM
  rw [←CZ] at dM
  subst r1
  cbv
  refine an (fun h2=>?_) (fun h2=>?_)
  ·simp [ht] at h2
   cbv
   refine ax trv trv rfl rfl rfl ?_
   (subst Ko CZ;simp_all [tE];done)
  simp [ht] at h2
  cbv
  iterate 2 refine gI (by simp [ht]) ?_
  refine cY (fun g3=>⟨by simp [ht] at g3 ⊢;exact g3,trv,Ba ht _ ‹_›⟩) rfl rfl (fun r4 eK=>?_)
  simp only [ht] at eK
  rw [←Ko] at eK
  subst r4
  cbv
  refine cY (fun g5=>⟨by simp [ht] at g5 ⊢;exact g5,trv,kS ht _ ‹_› (by omega)⟩) rfl rfl (fun r6 mG=>?_)
  simp only [ht] at mG
  skip
  cbv
  refine gI (by simp [ht]) ?_
  refine pI (by simp [ht]) ?_
  refine an (fun h7=>?_) (fun h7=>?_)
  ·simp [ht] at h7
   cbv
   refine ax trv trv rfl rfl rfl ?_
   (subst Ko CZ;simp_all [tE];done)
  simp [ht] at h7
  cbv
  iterate 3 refine gI (by simp [ht]) ?_
  refine pI (by simp [ht]) ?_
  refine an (fun h8=>?_) (fun h8=>?_)
  ·simp [ht,aa,av] at h8
   cbv
   refine ax trv trv rfl rfl rfl ?_
   (simp only [ht];rw [Kn (by rw [←CZ];assumption) (fun g=>by rw [←Ko,←mG];exact h7 g) (by omega) h8.2];simp [aA];done)
  simp [ht,aa,av] at h8
  cbv
  refine c7 [true,true,true,false,false,false,false,false,false,true,true,true,true] (by kernel_rfl) (by kernel_rfl) ?_
  cbv
  iterate 2 refine gI (by simp [ht]) ?_
  (refine Bc ht aA (cT:=bu.bC t) 0 default (fun g=>absurd g (by simp [ht,e1])) (fun _=>rfl) (fun _=>by simp only [bu.bC]) (fun g=>by exact ⟨g,g,trv⟩) ?_)
  cbv
  iterate 3 refine gI (by simp [ht]) ?_
  refine cY (fun g9=>⟨by simp [ht] at g9 ⊢;exact g9,trv,tO ht _ _ _ _ _ _ _ _⟩) rfl rfl (fun r10 W4=>?_)
  simp only [ht] at W4
  cbv
  refine gI (by simp [ht]) ?_
  refine pI (by simp [ht]) ?_
  refine an (fun h11=>?_) (fun h11=>?_)
  ·simp [ht] at h11
   omega
  simp [ht] at h11
  cbv
  refine jg trv (wg ht ‹_› (by omega)) trv rfl (.inr rfl) ?_
  cbv
  refine an (fun h12=>?_) (fun h12=>?_)
  ·simp [ht] at h12
   omega
  simp [ht] at h12
  cbv
  (obtain ⟨r9,j8⟩:∃r,r=idxOf (fun o:bu=>!Op.bytesLess o.path q) l:=⟨_,rfl⟩;refine dx [0] trv rfl rfl (Nl ht q aA 143 (fun o:bu=>!Op.bytesLess o.path q) (by omega) (fun x _=>Sj ht q x rfl) j8) (cj ?_);have ec:=cE j8;clear j8;rcases ec with ⟨f1,f2,f3⟩|⟨z,y,f0,fz,f1,f2,f3,f4⟩)
  ·cbv
   refine an (fun Nn=>?_) (fun Nn=>?_)
   ·simp [ht] at Nn
    cbv
    refine dx [3] trv rfl rfl (tV ht (l:=l) (x:=⟨q,⟨a,b,c,d⟩,bM.zero⟩) (k:=PW l q) (by (simp [ht,PW,f2,av];done)) (by (simp [PW,f2];done)) (by simp only [aa] at*;omega)) (cj ?_)
    cbv
    refine ax trv trv rfl rfl rfl ?_
    (simp only [ht];rw [Bd e2 (by rw [←CZ];assumption) (fun g=>by rw [←Ko,←mG];exact h7 g) (fun g=>h8 (by omega))])
   simp [ht] at Nn
   omega
  cbv
  refine an (fun Kq=>?_) (fun Kq=>?_)
  ·simp [ht] at Kq
   (simp only [aa] at*;omega)
  simp [ht] at Kq
  cbv
  refine dx [3] trv rfl rfl (tV ht (l:=l) (x:=⟨q,⟨a,b,c,d⟩,bM.zero⟩) (k:=PW l q) (by (simp only [PW,f3];exact f0)) (by (simp only [PW,f3];omega)) (by simp only [aa] at*;omega)) (cj ?_)
  cbv
  refine ax trv trv rfl rfl rfl ?_
  (simp only [ht];rw [Bd e2 (by rw [←CZ];assumption) (fun g=>by rw [←Ko,←mG];exact h7 g) (fun g=>h8 (by omega))])
 cbv
 refine aZ trv (yW ht _ ‹_›) trv rfl rfl (fun Zy UX=>?_)
 simp only [ht] at UX
 rw [←CZ] at UX
 subst Zy
 cbv
 refine an (fun No=>?_) (fun No=>?_)
 ·simp [ht] at No
  cbv
  refine ax trv trv rfl rfl rfl ?_
  (subst Ko CZ;simp_all [tE];done)
 simp [ht] at No
 cbv
 iterate 2 refine gI (by simp [ht]) ?_
 refine cY (fun g17=>⟨by simp [ht] at g17 ⊢;exact g17,trv,Ba ht _ ‹_›⟩) rfl rfl (fun Zz UY=>?_)
 simp only [ht] at UY
 rw [←Ko] at UY
 subst Zz
 cbv
 refine cY (fun g19=>⟨by simp [ht] at g19 ⊢;exact g19,trv,kS ht _ ‹_› (by omega)⟩) rfl rfl (fun r20 Sk=>?_)
 simp only [ht] at Sk
 skip
 cbv
 refine gI (by simp [ht]) ?_
 refine pI (by simp [ht]) ?_
 refine an (fun UZ=>?_) (fun UZ=>?_)
 ·simp [ht] at UZ
  cbv
  refine ax trv trv rfl rfl rfl ?_
  (subst Ko CZ;simp_all [tE];done)
 simp [ht] at UZ
 cbv
 iterate 3 refine gI (by simp [ht]) ?_
 refine pI (by simp [ht]) ?_
 refine an (fun W5=>?_) (fun W5=>?_)
 ·simp [ht,aa,av] at W5
  (simp only [aa] at*;omega)
 simp [ht,aa,av] at W5
 cbv
 refine c7 [true,true,true,false,false,false,false,false,false,true,true,true,true] (by kernel_rfl) (by kernel_rfl) ?_
 cbv
 iterate 2 refine gI (by simp [ht]) ?_
 (refine Bc ht aA (cT:=bu.bC t) i x (fun g=>⟨e1,e3⟩) (fun _=>rfl) (fun _=>by simp only [bu.bC]) (fun g=>by exact ⟨g,g,trv⟩) ?_)
 cbv
 iterate 3 refine gI (by simp [ht]) ?_
 refine cY (fun g23=>⟨by simp [ht] at g23 ⊢;exact g23,trv,tO ht _ _ _ _ _ _ _ _⟩) rfl rfl (fun r24 W6=>?_)
 simp only [ht] at W6
 cbv
 refine gI (by simp [ht]) ?_
 refine pI (by simp [ht]) ?_
 refine an (fun W7=>?_) (fun W7=>?_)
 ·simp [ht] at W7
  cbv
  refine ax trv trv rfl rfl rfl ?_
  (have ts:=Be (v:=⟨a,b,c,d⟩) e2 e3 (by rw [←CZ];assumption) (fun g=>by rw [←Ko,←Sk];exact UZ g);simp only [ht];rw [ts];simp_all;done)
 simp [ht] at W7
 cbv
 refine jg trv (wg ht ‹_› (by omega)) trv rfl (.inr rfl) ?_
 cbv
 refine an (fun W8=>?_) (fun W8=>?_)
 ·simp [ht] at W8
  cbv
  refine ⟨?_,?_⟩
  ·(subst Ko CZ;simp_all;done)
  refine ⟨?_,?_⟩
  ·(subst Ko CZ;simp_all;done)
  cbv
  refine ax trv (by simp [ht]) rfl rfl rfl ?_
  (have ts:=Be (v:=⟨a,b,c,d⟩) e2 e3 (by rw [←CZ];assumption) (fun g=>by rw [←Ko,←Sk];exact UZ g);simp only [ht];rw [ts];simp_all [List.map_set,be];done)
 simp [ht] at W8
 (simp only [aa] at*;omega)
def Np (r:bu×Int):AV:=.dL [UT r.1,bG r.2]
theorem PX (ht:TT t) (a0 a1 a2 a3 b0 b1 b2 b3:Int):FC 170 [V4 a0 a1 a2 a3,V4 b0 b1 b2 b3] [] (.ret (UJ (t _ fun _=>dX ⟨a0,a1,a2,a3⟩ ⟨b0,b1,b2,b3⟩))) []:=by
 simp only [ht];exact Cw ht _ _ _ _ _ _ _ _ rfl
theorem G5 (ht:TT t) (v1 v2 v3 v4:Int) (p:aQ) (a b c d e f g h:Int):
 FC 105 [V4 v1 v2 v3 v4,.agg [ST p,az a,az b,az c,az d,az e,az f,az g,az h]] [] (.ret (Np (t _ fun _=>fe ⟨v1,v2,v3,v4⟩ ⟨p,⟨a,b,c,d⟩,⟨e,f,g,h⟩⟩))) []:=by
 obtain ⟨⟨⟨s1,s2,s3,s4⟩,k⟩,hS⟩:∃r,r=mV ⟨e,f,g,h⟩ ⟨v1,v2,v3,v4⟩:=⟨_,rfl⟩
 refine bL ht (aI:=[]) Tryz.func105 rfl rfl (N:=28) rfl rfl (n:=0) rfl rfl ?_
 cbv
 refine fO trv (Sb ht _ _ _ _ _ _ _ _ ‹_›) trv rfl rfl ?_
 cbv
 refine an (fun h0=>?_) (fun h0=>?_)
 ·simp [ht] at h0
  cbv
  refine ax trv trv rfl rfl rfl ?_
  (simp only [ht,fe,←hS];simp_all;done)
 simp [ht] at h0
 cbv
 refine aZ trv (tO ht _ _ _ _ _ _ _ _) trv rfl rfl (fun r1 dM=>?_)
 simp only [ht] at dM
 cbv
 refine an (fun h2=>?_) (fun h2=>?_)
 ·simp [ht] at h2
  cbv
  refine ax trv trv rfl rfl rfl ?_
  (simp only [ht,fe,←hS];simp_all;done)
 simp [ht] at h2
 cbv
 refine ax trv trv rfl rfl rfl ?_
 (simp only [ht,fe,←hS];simp_all;done)
theorem G6 (ht:TT t) (v1 v2 v3 v4:Int) (p:aQ) (a b c d e f g h:Int):
 FC 159 [V4 v1 v2 v3 v4,.agg [ST p,az a,az b,az c,az d,az e,az f,az g,az h]] [] (.ret (Np (t _ fun _=>dY ⟨v1,v2,v3,v4⟩ ⟨p,⟨a,b,c,d⟩,⟨e,f,g,h⟩⟩))) []:=by
 obtain ⟨⟨⟨s1,s2,s3,s4⟩,k⟩,hS⟩:∃r,r=dX ⟨e,f,g,h⟩ ⟨v1,v2,v3,v4⟩:=⟨_,rfl⟩
 refine bL ht (aI:=[]) Tryz.func159 rfl rfl (N:=22) rfl rfl (n:=0) rfl rfl ?_
 cbv
 refine fO trv (Cw ht _ _ _ _ _ _ _ _ ‹_›) trv rfl rfl ?_
 cbv
 refine an (fun h0=>?_) (fun h0=>?_)
 ·simp [ht] at h0
  cbv
  refine ax trv trv rfl rfl rfl ?_
  (simp only [ht,dY,←hS];simp_all;done)
 simp [ht] at h0
 cbv
 refine ax trv trv rfl rfl rfl ?_
 (simp only [ht,dY,←hS];simp_all;done)
theorem PY (ht:TT t) (q:aQ) {l:List bu} {es:List (List D)} (aA:es=l.map bu.cells) (hl:l.length<1000000000) {r:Bool} (hr:r=decide (bV l q<0)):
 FC 157 [ST q,.ptr 0 0] [.var [SL es]] (.ret (BL r)) [.var [SL es]]:=by
 refine bL ht (aI:=[.var [SL es]]) Tryz.func157 rfl rfl (N:=8) rfl rfl (n:=1) rfl rfl ?_
 cbv
 have av:es.length=l.length:=by rw [aA,lgM]
 refine aZ trv (kS ht _ ‹_› ‹_›) trv rfl rfl (fun r0 cF=>?_)
 simp only [ht] at cF
 cbv
 refine ax trv trv rfl rfl rfl ?_
 (simp [*];done)
theorem Kr (ht:TT t) (ts:List (List D)) {l:List (aQ)} {es:List (List D)} (aA:es=l.map bg) (f:Nat) (p:aQ→Bool) (hl:l.length<9223372036854775807)
 (hf:∀x∈l,FC f [.d (.str x),.ptr 0 0] [.var [SL ts]] (.ret (BL (p x))) [.var [SL ts]]) {r:Int} (hr:r=idxOf p l):FC 199 [SL es,.fn f [.ptr 0 0]] [.var [SL ts]] (.ret (bG r)) [.var [SL ts]]:=by
 have hel:es.length=l.length:=by rw [aA,lgM]
 obtain ⟨J,hJ⟩:∃J:Nat→Nat→Prop,∀n v,J n v↔(v+n=l.length∧∀i<v,∀x,l[i]?=some x→p x=false):=⟨fun n v=>v+n=l.length∧∀i<v,∀x,l[i]?=some x→p x=false,fun _ _=>Iff.rfl⟩
 refine bL ht (aI:=[.var [SL ts]]) Tryz.func199 rfl rfl (N:=19) rfl rfl (n:=1) rfl rfl ?_
 cbv
 refine bI ⟨[0,1,7,8],[],[]⟩ (σ:=Nat) (fun k=>[(8,bG (t _ fun _=>(k:Int)))]) (fun _=>[]) J ?_
 cbv
 refine aC ⟨l.length,0,(hJ _ _).2 ⟨by omega,by intro i hi;simp at hi⟩,by simp only [ht];rfl,?_⟩
 rintro n k hj
 obtain ⟨h2,h3⟩:=(hJ _ _).1 hj
 clear hj
 cbv
 refine an (fun h=>?_) (fun h=>?_)
 ·simp only [ht,aa,decide_eq_true_eq] at h
  have hk:k<l.length:=by omega
  obtain ⟨x,hx⟩:∃x,l[k]?=some x:=⟨l[k],by simp⟩
  have oo:x∈l:=List.mem_of_getElem? hx
  have gG:=hf x oo
  obtain ⟨px,hpx⟩:∃b,b=p x:=⟨_,rfl⟩
  rw [←hpx] at gG
  skip
  cbv
  refine cI [.str x] ?_ ?_ ?_
  ·simp only [ht,aa];refine ⟨by omega,h,?_⟩;rw [aA];intro r hr;obtain ⟨y,_,rfl⟩:=List.mem_map.1 hr;rfl
  ·simp [ht,aa,aA,hx]
  cbv
  refine dV trv gG ?_
  cbv
  refine an (fun hb=>?_) (fun hb=>?_)
  ·cbv
   refine ax trv trv rfl rfl rfl ?_
   have e:=de hx (hpx▸hb) h3
   simp only [ht,aa,hr,idxOf,e]
  cbv
  refine aC ⟨n-1,k+1,⟨by omega,(hJ _ _).2 ⟨by omega,?_⟩⟩,?_⟩
  ·intro i hi y hy
   by_cases hik:i<k
   ·exact h3 i hik y hy
   have:i=k:=by omega
   subst this;rw [hx] at hy;cases hy;rw [←hpx];exact hb
  simp only [ht,aa,aD (show k<9223372036854775807 by omega)];rfl
 simp only [ht,aa,decide_eq_false_iff_not] at h
 have hk:¬k<l.length:=by omega
 clear h
 cbv
 refine ax trv trv rfl rfl rfl ?_
 rw [hr,idxOf,dA]
 intro i y hy
 have:i<l.length:=by
  rcases Nat.lt_or_ge i l.length with h'|h';· exact h'
  simp [List.getElem?_eq_none h'] at hy
 exact h3 i (by omega) y hy
theorem Kt (ht:TT t) (ts:List (List D)) {l:List (aQ)} {es:List (List D)} (aA:es=l.map bg) (f:Nat) (p:aQ→Bool) (hl:l.length<9223372036854775807)
 (hf:∀x∈l,FC f [.d (.str x),.ptr 0 0] [.var [SL ts]] (.ret (BL (p x))) [.var [SL ts]]) {r:Bool} (hr:r=l.any p):FC 156 [SL es,.fn f [.ptr 0 0]] [.var [SL ts]] (.ret (BL r)) [.var [SL ts]]:=by
 obtain ⟨k,hk⟩:∃k,k=idxOf p l:=⟨_,rfl⟩
 refine bL ht (aI:=[.var [SL ts]]) Tryz.func156 rfl rfl (N:=9) rfl rfl (n:=1) rfl rfl ?_
 cbv
 refine dV trv (Kr ht ts aA f p hl hf hk) ?_
 cbv
 refine ax trv trv rfl rfl rfl ?_
 simp only [ht,hr,iu,hk]
theorem Ku (ht:TT t) {l:List bu} {qs:List aQ} {es ss:List (List D)} (aA:es=l.map bu.cells) (W9:ss=qs.map bg) (hl:l.length<1000000000) (hq:qs.length<1000000000) {r:Bool} (hr:r=qs.any (fun q=>decide (bV l q<0))):
 FC 156 [SL ss,.fn 157 [.ptr 0 0]] [.var [SL es]] (.ret (BL r)) [.var [SL es]]:=
 Kt ht es W9 157 (fun q=>decide (bV l q<0)) (by omega) (fun x _=>PY ht x aA hl rfl) hr
theorem E9 (ht:TT t) {es:List (List D)} (aA:∀r∈es,r.length=9) (hs:es.length*80≤140737488355328) {m:Nat} (hm:m=es.length):
 FC 158 [SL es] [] (.ret (.ow 0 9 m)) [.row 9 es]:=by
 refine bL ht (aI:=[]) Tryz.func158 rfl rfl (N:=8) rfl rfl (n:=0) rfl rfl ?_
 cbv
 refine ⟨fun b hb=>?_⟩
 simp only [ht] at hb
 cbv
 refine an (fun h=>?_) (fun h=>?_)
 ·have he:=hb h
  subst he
  cbv
  exact Er trv rfl rfl (by rw [hm];rfl) rfl
 clear hb h
 cbv
 refine ⟨?_,?_⟩
 ·simp only [ht];simp;exact ⟨hs,aA⟩
 refine Ad trv rfl rfl rfl rfl ?_ ?_
 ·simp only [ht];rw [hm];simp
 simp only [ht];rfl
theorem CE (ht:TT t) {l:List bu} {es:List (List D)} (aA:es=l.map bu.cells) (hs:l.length<1000000000):
 FC 158 [SL es] [] (.ret (.ow 0 9 (t _ fun _=>(l.map bu.cells).length))) [.row 9 (t _ fun _=>l.map bu.cells)]:=by
 simp only [ht];subst aA
 refine E9 ht ?_ ?_ (by simp)
 ·intro r hr;obtain ⟨y,_,rfl⟩:=List.mem_map.1 hr;rfl
 simp;omega
theorem Kv (q:aQ):(above q).length≤4:=by
 have h1:=gF q
 have h2:=jE q
 simp only [above,List.length_cons];omega
theorem Sl {l:List bu} {qs:List aQ} {k:Nat} {x:aQ} (h:qs.any (fun q=>decide (bV l q<0))=false) (hx:qs[k]?=some x):∃(i:Nat) (y:bu),bV l x=i∧l[i]?=some y∧i<l.length:=by
 have h1:¬bV l x<0:=by
  intro h2
  have:qs.any (fun q=>decide (bV l q<0))=true:=List.any_eq_true.2 ⟨x,List.mem_of_getElem? hx,by simpa using h2⟩
  rw [h] at this;cases this
 rcases pH (q:=x) (r:=bV l x) rfl with ⟨e1,_,_⟩|⟨i,y,e1,_,e2,e3,_⟩
 ·omega
 exact ⟨i,y,e1,e3,e2⟩
theorem IW (ht:TT t) (f:Nat) (g:bu→bu×Int) (v1 v2 v3 v4:Int) (q:aQ) {l:List bu} {es:List (List D)} (aA:es=l.map bu.cells) (hl:l.length<100000) (hq:q.length<1000000000000)
 (hf:∀(p:aQ) (a b c d e z g0 h:Int),FC f [V4 v1 v2 v3 v4,.agg [ST p,az a,az b,az c,az d,az e,az z,az g0,az h]] [] (.ret (Np (t _ fun _=>g ⟨p,⟨a,b,c,d⟩,⟨e,z,g0,h⟩⟩))) []):
 FC 104 [SL es,ST q,.fn f [.dL [V4 v1 v2 v3 v4]]] [] (.ret (yX t (t _ fun _=>oh g l q))) []:=by
 have hal:=Kv q
 obtain ⟨nq,CZ⟩:∃p,p=named q:=⟨_,rfl⟩
 obtain ⟨aq,U0⟩:∃p,p=above q:=⟨_,rfl⟩
 rw [←U0] at hal
 refine bL ht (aI:=[]) Tryz.func104 rfl rfl (N:=55) rfl rfl (n:=0) rfl rfl ?_
 cbv
 have av:es.length=l.length:=by rw [aA,lgM]
 refine aZ trv (yW ht _ ‹_›) trv rfl rfl (fun r0 cF=>?_)
 simp only [ht] at cF
 rw [←CZ] at cF
 subst r0
 cbv
 refine an (fun h1=>?_) (fun h1=>?_)
 ·simp [ht] at h1
  cbv
  refine ax trv trv rfl rfl rfl ?_
  (simp only [ht,oh,←CZ,←U0];simp_all;done)
 simp [ht] at h1
 cbv
 refine aB trv (E7 ht _ ‹_›) trv rfl rfl rfl (fun r2 fh=>?_)
 simp only [ht] at fh
 rw [←U0] at fh
 subst r2
 cbv
 (obtain ⟨r9,j8⟩:∃r,r=aq.any (fun q=>decide (bV l q<0)):=⟨_,rfl⟩;refine dx [0] trv rfl rfl (Ku ht aA (qs:=aq) (by simp only [ht]) (by omega) (by omega) j8) (cj ?_))
 cbv
 refine an (fun h3=>?_) (fun h3=>?_)
 ·cbv
  refine ax trv trv rfl rfl rfl ?_
  (simp only [ht,oh,←CZ,←U0];simp_all;done)
 cbv
 refine jg trv (CE ht ‹_› (by omega)) trv rfl (.inr rfl) ?_
 cbv
 obtain ⟨J4,FM⟩:∃J4:Nat→Int×List (List D)→Prop,∀n i u,J4 n (i,u)↔(∃(k:Nat) (o:List bu),i=k∧k+n=aq.length∧u=o.map bu.cells∧o.length=l.length∧oh g l q=jF g l (aq.drop k) o):=⟨fun n v=>match v with|(i,u)=>(∃(k:Nat) (o:List bu),i=k∧k+n=aq.length∧u=o.map bu.cells∧o.length=l.length∧oh g l q=jF g l (aq.drop k) o),fun _ _ _=>Iff.rfl⟩
 refine bI ⟨[2,3,9,27,28,29],[],[]⟩ (σ:=Int×List (List D)) (fun v=>[(29,.d (.int .i64 (t _ fun _=>v.1)))]) (fun v=>[(1,.row 9 (t _ fun _=>v.2))]) J4 ?_
 cbv
 refine aC ⟨aq.length,(_,_),(FM _ _ _).2 ?_,by simp only [ht];rfl,?_⟩
 ·exact ⟨0,l,rfl,by simp,rfl,rfl,by rw [oh,←CZ,←U0,←j8];simp_all⟩
 rintro n ⟨i,u⟩ hj
 replace hj:=(FM _ _ _).1 hj
 obtain ⟨k,o,rfl,j1,j2,j3,j4⟩:=hj
 have v8:u.length=o.length:=by rw [j2,lgM]
 cbv
 refine an (fun h5=>?_) (fun h5=>?_)
 ·simp [ht,aa] at h5
  cbv
  (refine jZ ht (l:=aq) (cells:=bg) (cT:=dN t) (by simp only [ht];done) (by simp only [ht,aa];omega) (by simp only [ht,aa];omega) (fun _=>rfl) (fun _=>rfl) (fun xn Nq=>?_);simp only [ht] at Nq;replace Nq:aq[k]?=some xn:=Nq;rw [gu Nq,jF] at j4;obtain ⟨zz,y,e1,e2,e3⟩:=Sl (j8.symm.trans ‹_›) Nq;rw [e1] at j4;simp only [Int.toNat_natCast,List.getD_eq_getElem?_getD,e2,Option.getD_some] at j4)
  cbv
  refine aZ trv (kS ht _ ‹_› (by omega)) trv rfl rfl (fun r6 mG=>?_)
  simp only [ht] at mG
  rw [e1] at mG
  cbv
  refine yC ht aA (cT:=bu.bC t) e2 ‹_› (fun _=>rfl) (fun _=>rfl) ?_
  cbv
  (refine aZ trv (hf _ _ _ _ _ _ _ _ _) trv rfl rfl (fun rg VM=>?_);simp only [ht] at VM;obtain ⟨⟨gp,⟨ga,gb,gc,gd⟩,⟨ge,gf,gg,gh⟩⟩,ge0⟩:=rg;replace VM:_=g y:=VM;rw [←VM] at j4;simp only at j4)
  cbv
  refine an (fun h8=>?_) (fun h8=>?_)
  ·simp [ht] at h8
   cbv
   refine ax trv trv rfl rfl rfl ?_
   (simp [*];done)
  simp [ht] at h8
  cbv
  refine ⟨?_,?_⟩
  ·(simp only [ht];simp_all;done)
  refine ⟨?_,?_⟩
  ·(simp only [ht];simp_all;done)
  cbv
  refine cL (_,_) (by simp only [ht];rfl) (n-1) ?_ ((FM _ _ _).2 ?_)
  ·omega
  simp only [aa]
  (refine ⟨k+1,o.set zz ⟨gp,⟨ga,gb,gc,gd⟩,⟨ge,gf,gg,gh⟩⟩,aD (by omega),by omega,?_,by simp [j3],?_⟩<;>simp_all [be,List.map_set])
 simp [ht,aa] at h5
 cbv
 (refine ax trv (by simp only [ht];simp [v8,j3]) rfl rfl rfl ?_;rw [List.drop_eq_nil_of_le (by omega),jF] at j4;simp only [ht,j4,j2];done)
theorem rV (ht:TT t) (q:aQ) (v1 v2 v3 v4:Int) {l:List bu} {es:List (List D)} (aA:es=l.map bu.cells) (hl:l.length<100000) (hq:q.length<1000000000000):
 FC 58 [SL es,ST q,V4 v1 v2 v3 v4] [] (.ret (yX t (t _ fun _=>dg l q ⟨v1,v2,v3,v4⟩))) []:=by
 have hc:=IW ht 105 (fe ⟨v1,v2,v3,v4⟩) v1 v2 v3 v4 q aA hl hq (fun p a b c d e z g0 h=>G5 ht v1 v2 v3 v4 p a b c d e z g0 h)
 refine bL ht (aI:=[]) Tryz.func58 rfl rfl (N:=16) rfl rfl (n:=0) rfl rfl ?_
 cbv
 have av:es.length=l.length:=by rw [aA,lgM]
 (refine aB trv hc trv rfl rfl rfl (fun r9 j8=>?_);simp only [ht] at j8)
 cbv
 refine ax trv trv rfl rfl rfl ?_
 (simp [dg, *];done)
theorem G7 (ht:TT t) (q:aQ) (v1 v2 v3 v4:Int) {l:List bu} {es:List (List D)} (aA:es=l.map bu.cells) (hl:l.length<100000) (hq:q.length<1000000000000):
 FC 107 [SL es,ST q,V4 v1 v2 v3 v4] [] (.ret (yX t (t _ fun _=>qj l q ⟨v1,v2,v3,v4⟩))) []:=by
 have hc:=IW ht 159 (dY ⟨v1,v2,v3,v4⟩) v1 v2 v3 v4 q aA hl hq (fun p a b c d e z g0 h=>G6 ht v1 v2 v3 v4 p a b c d e z g0 h)
 refine bL ht (aI:=[]) Tryz.func107 rfl rfl (N:=16) rfl rfl (n:=0) rfl rfl ?_
 cbv
 have av:es.length=l.length:=by rw [aA,lgM]
 (refine aB trv hc trv rfl rfl rfl (fun r9 j8=>?_);simp only [ht] at j8)
 cbv
 refine ax trv trv rfl rfl rfl ?_
 (simp [qj, *];done)
def cR.bC (_:Th) (q:cR):List D:=[.int .u64 q.id,.int .i64 q.prio]
def U1 (t:Th) (r:List cR×Int):AV:=.dL [SL (t _ fun _=>r.1.map cR.cells),bG r.2]
def U2 (t:Th) (r:List cR×Bool):AV:=.dL [SL (t _ fun _=>r.1.map cR.cells),BL r.2]
theorem Nr (ht:TT t) (id:Int) {l:List (cR)} {es:List (List D)} (aA:es=l.map cR.cells) (f:Nat) (p:cR→Bool) (hl:l.length<9223372036854775807)
 (hf:∀x∈l,FC f [.agg [az x.id,bG x.prio],.ptr 0 0] [.var [az id]] (.ret (BL (p x))) [.var [az id]]) {r:Int} (hr:r=idxOf p l):FC 162 [SL es,.fn f [.ptr 0 0]] [.var [az id]] (.ret (bG r)) [.var [az id]]:=by
 have hel:es.length=l.length:=by rw [aA,lgM]
 obtain ⟨J,hJ⟩:∃J:Nat→Nat→Prop,∀n v,J n v↔(v+n=l.length∧∀i<v,∀x,l[i]?=some x→p x=false):=⟨fun n v=>v+n=l.length∧∀i<v,∀x,l[i]?=some x→p x=false,fun _ _=>Iff.rfl⟩
 refine bL ht (aI:=[.var [az id]]) Tryz.func162 rfl rfl (N:=19) rfl rfl (n:=1) rfl rfl ?_
 cbv
 refine bI ⟨[0,1,7,8],[],[]⟩ (σ:=Nat) (fun k=>[(8,bG (t _ fun _=>(k:Int)))]) (fun _=>[]) J ?_
 cbv
 refine aC ⟨l.length,0,(hJ _ _).2 ⟨by omega,by intro i hi;simp at hi⟩,by simp only [ht];rfl,?_⟩
 rintro n k hj
 obtain ⟨h2,h3⟩:=(hJ _ _).1 hj
 clear hj
 cbv
 refine an (fun h=>?_) (fun h=>?_)
 ·simp only [ht,aa,decide_eq_true_eq] at h
  have hk:k<l.length:=by omega
  obtain ⟨x,hx⟩:∃x,l[k]?=some x:=⟨l[k],by simp⟩
  have oo:x∈l:=List.mem_of_getElem? hx
  have gG:=hf x oo
  obtain ⟨px,hpx⟩:∃b,b=p x:=⟨_,rfl⟩
  rw [←hpx] at gG
  obtain ⟨a,b⟩:=x
  cbv
  refine cI [.int .u64 a,.int .i64 b] ?_ ?_ ?_
  ·simp only [ht,aa];refine ⟨by omega,h,?_⟩;rw [aA];intro r hr;obtain ⟨y,_,rfl⟩:=List.mem_map.1 hr;rfl
  ·simp [ht,aa,aA,hx,cR.cells]
  cbv
  refine dV trv gG ?_
  cbv
  refine an (fun hb=>?_) (fun hb=>?_)
  ·cbv
   refine ax trv trv rfl rfl rfl ?_
   have e:=de hx (hpx▸hb) h3
   simp only [ht,aa,hr,idxOf,e]
  cbv
  refine aC ⟨n-1,k+1,⟨by omega,(hJ _ _).2 ⟨by omega,?_⟩⟩,?_⟩
  ·intro i hi y hy
   by_cases hik:i<k
   ·exact h3 i hik y hy
   have:i=k:=by omega
   subst this;rw [hx] at hy;cases hy;rw [←hpx];exact hb
  simp only [ht,aa,aD (show k<9223372036854775807 by omega)];rfl
 simp only [ht,aa,decide_eq_false_iff_not] at h
 have hk:¬k<l.length:=by omega
 clear h
 cbv
 refine ax trv trv rfl rfl rfl ?_
 rw [hr,idxOf,dA]
 intro i y hy
 have:i<l.length:=by
  rcases Nat.lt_or_ge i l.length with h'|h';· exact h'
  simp [List.getElem?_eq_none h'] at hy
 exact h3 i (by omega) y hy
theorem Kw (ht:TT t) (id:Int) (x:cR):FC 163 [.agg [az x.id,bG x.prio],.ptr 0 0] [.var [az id]] (.ret (BL (decide (x.id=id)))) [.var [az id]]:=by
 obtain ⟨a,b⟩:=x
 refine bL ht (aI:=[.var [az id]]) Tryz.func163 rfl rfl (N:=8) rfl rfl (n:=1) rfl rfl ?_
 cbv
 refine ax trv trv rfl rfl rfl ?_
 simp [ht]
theorem Bf (ht:TT t) (id:Int) {l:List cR} {es:List (List D)} (aA:es=l.map cR.cells) (hl:l.length<1000000000):
 FC 109 [SL es,az id] [] (.ret (fQ (t _ fun _=>rL l id))) []:=by
 obtain ⟨r,hr⟩:∃r,r=rL l id:=⟨_,rfl⟩
 refine bL ht (aI:=[]) Tryz.func109 rfl rfl (N:=8) rfl rfl (n:=0) rfl rfl ?_
 cbv
 refine dV trv (Nr ht id aA 163 (fun x=>decide (x.id=id)) (by omega) (fun x _=>Kw ht id x) (r:=r) hr) ?_
 cbv
 exact ax trv trv rfl rfl rfl (by simp [ht,hr])
theorem Kx (ht:TT t) (a b:Int):FC 130 [.agg [az a,bG b]] [] (.ret (cP (t _ fun _=>pe ⟨a,b⟩))) []:=by
 refine bL ht (aI:=[]) Tryz.func130 rfl rfl (N:=11) rfl rfl (n:=0) rfl rfl ?_
 cbv
 iterate 3 refine gI (by simp [ht]) ?_
 refine pI (by simp [ht]) ?_
 refine ax trv trv rfl rfl rfl ?_
 (simp [ht,pe];done)
theorem Ky (ht:TT t) (a b c d:Int):FC 131 [.agg [az a,bG b],.agg [az c,bG d]] [] (.ret (cP (t _ fun _=>dQ ⟨a,b⟩ ⟨c,d⟩))) []:=by
 refine bL ht (aI:=[]) Tryz.func131 rfl rfl (N:=24) rfl rfl (n:=0) rfl rfl ?_
 cbv
 iterate 11 refine gI (by simp [ht]) ?_
 refine gI (by simp [ht,ah];intros;simp_all) ?_
 refine pI (by simp [ht]) ?_
 refine ax trv trv rfl rfl rfl ?_
 (simp [ht,dQ];done)
theorem Sm {l:List cR} {e x:cR} {k:Nat} (hx:l[k]?=some x) (h:dQ e x=true) (h3:∀i<k,∀y,l[i]?=some y→dQ e y=false):tD l e=k:=by
 simp only [tD];rw [de hx h h3]
theorem Sn {l:List cR} {e:cR} {k:Nat} (hk:l.length≤k) (h3:∀i<k,∀y,l[i]?=some y→dQ e y=false):tD l e=l.length:=by
 simp only [tD]
 rw [dA]
 intro i y hy
 have:i<l.length:=(List.getElem?_eq_some_iff.1 hy).1
 exact h3 i (by omega) y hy
theorem Ns {l:List cR} {e x:cR} {k:Nat} (h3:∀i<k,∀y,l[i]?=some y→dQ e y=false) (hx:l[k]?=some x) (h:dQ e x=false):∀i<k+1,∀y,l[i]?=some y→dQ e y=false:=by
 intro i hi y hy
 rcases Nat.lt_or_ge i k with h1|h1
 ·exact h3 i h1 y hy
 have:i=k:=by omega
 subst this;rw [hx] at hy;cases hy;exact h
theorem So (ht:TT t) (a b:Int) {l:List cR} {es:List (List D)} (aA:es=l.map cR.cells) (hl:l.length<1000000000):
 FC 141 [.agg [.fn 131 []],SL es,.agg [az a,bG b]] [] (.ret (fQ (t _ fun _=>(tD l ⟨a,b⟩:Int)))) []:=by
 refine bL ht (aI:=[]) Tryz.func141 rfl rfl (N:=25) rfl rfl (n:=0) rfl rfl ?_
 cbv
 have av:es.length=l.length:=by rw [aA,lgM]
 obtain ⟨J0,fI⟩:∃J0:Nat→Int→Prop,∀n i,J0 n i↔(∃k:Nat,i=k∧k+n=l.length∧∀i<k,∀y,l[i]?=some y→dQ ⟨a,b⟩ y=false):=⟨fun n v=>match v with|i=>(∃k:Nat,i=k∧k+n=l.length∧∀i<k,∀y,l[i]?=some y→dQ ⟨a,b⟩ y=false),fun _ _=>Iff.rfl⟩
 refine bI ⟨[1,3,5,9,10,11],[],[]⟩ (σ:=Int) (fun v=>[(11,.d (.int .i64 (t _ fun _=>v)))]) (fun v=>[]) J0 ?_
 cbv
 refine aC ⟨l.length,_,(fI _ _).2 ?_,by simp only [ht];rfl,?_⟩
 ·exact ⟨0,rfl,by simp,fun i hi=>by omega⟩
 rintro n i hj
 replace hj:=(fI _ _).1 hj
 obtain ⟨k,rfl,j1,j4⟩:=hj
 cbv
 refine an (fun h1=>?_) (fun h1=>?_)
 ·simp [ht,aa,av] at h1
  cbv
  refine jZ ht aA (cT:=cR.bC t) (by (simp only [ht,aa];omega)) (by (simp only [ht,aa];omega)) (fun _=>rfl) (fun _=>rfl) (fun x2 nj=>?_)
  simp [ht,aa] at nj
  cbv
  refine aZ trv (Ky ht _ _ _ _) trv rfl rfl (fun r3 ku=>?_)
  simp only [ht] at ku
  cbv
  refine an (fun h4=>?_) (fun h4=>?_)
  ·cbv
   refine ax trv trv rfl rfl rfl ?_
   (simp only [ht];rw [Sm nj (by rw [h4] at ku;exact ku.symm) j4])
  cbv
  refine cL _ (by simp only [ht];rfl) (n-1) ?_ ((fI _ _).2 ?_)
  ·omega
  simp only [aa]
  exact ⟨k+1,aD (by omega),by omega,Ns j4 ‹_› (by simp_all)⟩
 simp [ht,aa,av] at h1
 cbv
 refine ax trv trv rfl rfl rfl ?_
 (simp only [ht];rw [Sn (by omega) j4];simp [aA];done)
theorem G8 (ht:TT t) {es:List (List D)} (aA:∀r∈es,r.length=2) (hs:es.length*16≤140737488355328) {m:Nat} (hm:m=es.length):
 FC 140 [SL es] [] (.ret (.ow 0 2 m)) [.row 2 es]:=by
 refine bL ht (aI:=[]) Tryz.func140 rfl rfl (N:=8) rfl rfl (n:=0) rfl rfl ?_
 cbv
 refine ⟨fun b hb=>?_⟩
 simp only [ht] at hb
 cbv
 refine an (fun h=>?_) (fun h=>?_)
 ·have he:=hb h
  subst he
  cbv
  exact Er trv rfl rfl (by rw [hm];rfl) rfl
 clear hb h
 cbv
 refine ⟨?_,?_⟩
 ·simp only [ht];simp;exact ⟨hs,aA⟩
 refine Ad trv rfl rfl rfl rfl ?_ ?_
 ·simp only [ht];rw [hm];simp
 simp only [ht];rfl
theorem CF (ht:TT t) {es:List (List D)} {x:D} {row:List D} {i n c:Nat} (hn:n=es.length) (hi:i≤n) (hc:n≤c) (hc0:n=0→c=0) (aA:∀r∈es,r.length=2) (hrow:(x::row).length=2) (hs:n<1000000) {r:List (List D)} (hr:r=es.take i++(x::row)::es.drop i):
 FC 139 [.vw 0 2 0 n c true,bG (i:Int),SL [x::row]] [.row 2 es] (.ret (SL r)) [.dead]:=by
 obtain ⟨n1,DE⟩:∃n1,n1=n+1:=⟨_,rfl⟩
 obtain ⟨i1,hi1⟩:∃i1,i1=i+1:=⟨_,rfl⟩
 obtain ⟨ni,hni⟩:∃ni,ni=n-i:=⟨_,rfl⟩
 obtain ⟨ci,ot⟩:∃ci,ci=c-i:=⟨_,rfl⟩
 obtain ⟨uN,GV⟩:∃uN,uN=c-i1:=⟨_,rfl⟩
 obtain ⟨nU,rT⟩:∃nU,nU=n1-i:=⟨_,rfl⟩
 have hW:∀P:Prop,((IntKind.i64.wrap ((n:Int)+1)=(n1:Int))→(IntKind.i64.wrap ((n1:Int)-(i:Int))=(nU:Int))→(IntKind.i64.wrap ((i:Int)+1)=(i1:Int))→P)→P:=
  fun P h=>h (by rw [wrap64 (by omega) (by omega)];omega) (by rw [wrap64 (by omega) (by omega)];omega) (by rw [wrap64 (by omega) (by omega)];omega)
 have hrl:r.length=n1:=by rw [hr,List.length_append,List.length_cons,List.length_take,List.length_drop];omega
 have R8:n≠0→FC 184 [SL [x::row],.vw 0 2 i1 ni uN true] [.row 2 es] (.ret (BL false)) [.row 2 es]:=fun h0=>
  gQ Q3 Tryz.func184 rfl rfl rfl rfl (tS:=31) (tR:=4) rfl rfl (by intro h;rw [h] at hn;exact h0 hn)
 refine bL ht (aI:=[.row 2 es]) Tryz.func139 rfl rfl (N:=95) rfl rfl (n:=1) rfl rfl ?_
 cbv
 refine bE (.vw 0 2 i ni ci true) [.row 2 es] ?_ ?_ rfl ?_
 ·simp [ht,dF,bJ];omega
 ·simp [ht,aS,aM,hni,ot]
 cbv
 refine mU (by simp [ht]) ?_
 cbv
 refine an (fun h=>?_) (fun h=>?_)
 ·have hin:i=n:=by simp [ht,aa] at h;omega
  clear h
  cbv
  refine bE (.ow 1 2 n1) [.dead,.row 2 r] ?_ ?_ ?_ ?_
  ·simp only [ht]
   refine ⟨⟨hn,by simp;omega,?_⟩,rfl,hn,fun h=>⟨hc0 (by rw [hn,h];rfl),rfl⟩⟩
   intro r hr
   rcases List.mem_append.1 hr with hr|hr
   ·exact aA r hr
   simp at hr;subst hr;exact hrow
  ·simp [ht,DE,hn]
  ·simp only [ht];rw [hr]
   have:i=es.length:=by omega
   subst this;simp
  cbv
  refine ax trv ?_ rfl rfl rfl rfl
  simp only [ht];exact hrl.symm
 have hin:i<n:=by simp [ht,aa] at h;omega
 clear h
 have yS:r=(r.drop 0).take n1:=by rw [List.drop_zero,List.take_of_length_le (by omega)]
 cbv
 refine an (fun h2=>?_) (fun h2=>?_)
 ·have R9:c=n:=by
   refine hW _ fun e1 e2 e3=>?_
   simp [ht,aa,e1] at h2;omega
  clear h2
  obtain ⟨L,hL⟩:∃L:List (List D),L=es.take i++List.replicate (es.length+1-i) [D.int IntKind.u64 0,D.int IntKind.i64 0]:=⟨_,rfl⟩
  have FL:L.length=n1:=by rw [hL];simp;omega
  obtain ⟨L1,rU⟩:∃L1,L1=wrote L i [x::row]:=⟨_,rfl⟩
  have lH:L1.length=n1:=by rw [rU];simp [wrote,FL];omega
  have oI:r=wrote L1 i1 (es.drop i):=by rw [hi1,rU,hL,tM (by omega),hr]
  cbv
  refine bE (.vw 0 2 0 i c true) [.row 2 es] ?_ ?_ rfl ?_
  ·simp [ht,dF,bJ];omega
  ·simp [ht,aS,aM]
  cbv
  refine bE (.vw 1 2 0 n1 n1 false) [.row 2 es,.row 2 L] ?_ ?_ ?_ ?_
  ·refine hW _ fun e1 e2 e3=>?_
   simp [ht,aa,e1,e2];omega
  ·refine hW _ fun e1 e2 e3=>?_
   simp [ht,aa,e1,e2];omega
  ·refine hW _ fun e1 e2 e3=>?_
   simp [ht,aa,e1,e2,hL];omega
  cbv
  refine bE (.vw 1 2 i nU nU false) [.row 2 es,.row 2 L] ?_ ?_ rfl ?_
  ·simp [ht,dF,bJ];omega
  ·simp [ht,aS,aM,rT]
  cbv
  refine bE (bG 1) [.row 2 es,.row 2 L1] ?_ ?_ ?_ ?_
  ·simp only [ht,eB]
   refine ⟨⟨by omega,?_⟩,?_⟩
   ·intro h;rw [h] at FL;simp at FL;omega
   intro r hr;have:=List.mem_of_mem_take hr;simp at this;rw [this];exact hrow
  ·simp [ht,aa];omega
  ·simp [ht,rU,show min 1 nU=1 by omega]
  cbv
  refine c7 [false,false,false,false,false,false,false,false,true] (by kernel_rfl) (by kernel_rfl) ?_
  cbv
  repeat (refine gI (by (simp;done)) ?_)
  refine gE (.vw 1 2 i1 ni ni false) (fun _=>⟨?_,?_⟩) ?_
  ·refine hW _ fun e1 e2 e3=>?_
   simp [ht,aa,e3,dF,bJ];omega
  ·refine hW _ fun e1 e2 e3=>?_
   simp [ht,aa,e3,aS,aM];omega
  cbv
  repeat (refine gI (by (simp;done)) ?_)
  refine gE (.vw 0 2 i ni ci true) (fun _=>⟨?_,?_⟩) ?_
  ·simp [ht,dF,bJ];omega
  ·simp [ht,aS,aM,hni,ot]
  cbv
  refine bE (bG (ni:Nat)) [.row 2 es,.row 2 r,.bt] ?_ ?_ ?_ ?_
  ·simp only [ht,eB]
   refine ⟨by omega,⟨by omega,?_⟩,?_⟩
   ·intro h;rw [h] at lH;simp at lH;omega
   intro r hr;exact aA r (List.mem_of_mem_drop (List.mem_of_mem_take hr))
  ·simp [ht,aa]
  ·simp only [ht,oI]
   rw [List.take_of_length_le (by simp;omega)]
  cbv
  refine wG [true] trv ?_ rfl rfl rfl ?_
  ·simp only [ht];omega
  simp only [ht];rw [←yS]
 have R9:n<c:=by
  refine hW _ fun e1 e2 e3=>?_
  simp [ht,aa,e1] at h2;omega
 clear h2
 obtain ⟨L1,rU⟩:∃L1,L1=wrote es i1 (es.drop i):=⟨_,rfl⟩
 have oI:r=wrote L1 i [x::row]:=by rw [rU,hi1,Ct (by omega),hr]
 have lH:L1.length=n1:=by rw [rU];simp [wrote];omega
 cbv
 refine bE (.vw 0 2 0 n1 c true) [.row 2 es] ?_ ?_ rfl ?_
 ·refine hW _ fun e1 e2 e3=>?_
  simp [ht,aa,e1,dF,bJ];omega
 ·refine hW _ fun e1 e2 e3=>?_
  simp [ht,aa,e1,aS,aM]
 cbv
 refine bE (.vw 0 2 i1 ni uN true) [.row 2 es] ?_ ?_ rfl ?_
 ·refine hW _ fun e1 e2 e3=>?_
  simp [ht,aa,e3,dF,bJ];omega
 ·refine hW _ fun e1 e2 e3=>?_
  simp [ht,aa,e3,aS,aM];omega
 cbv
 refine dV trv (R8 (by omega)) ?_
 cbv
 refine jX (by simp [ht]) ?_
 cbv
 refine c7 [false,false,false,false,false,false,false,false,true] (by kernel_rfl) (by kernel_rfl) ?_
 cbv
 repeat (refine gI (by (simp;done)) ?_)
 refine gE (.vw 0 2 i1 ni uN true) (fun _=>⟨?_,?_⟩) ?_
 ·refine hW _ fun e1 e2 e3=>?_
  simp [ht,aa,e3,dF,bJ];omega
 ·refine hW _ fun e1 e2 e3=>?_
  simp [ht,aa,e3,aS,aM];omega
 cbv
 repeat (refine gI (by (simp;done)) ?_)
 refine gE (.vw 0 2 i nU ci true) (fun _=>⟨?_,?_⟩) ?_
 ·simp [ht,dF,bJ];omega
 ·simp [ht,aS,aM,rT,ot]
 cbv
 refine bE (bG (ni:Nat)) [.row 2 L1,.bt] ?_ ?_ ?_ ?_
 ·simp only [ht,eB]
  refine ⟨by omega,⟨by omega,?_⟩,?_⟩
  ·intro h;rw [h] at hn;simp at hn;omega
  intro r hr;exact aA r (List.mem_of_mem_drop (List.mem_of_mem_take hr))
 ·simp [ht,aa];omega
 ·simp only [ht,rU]
  rw [List.take_of_length_le (by simp;omega)]
 cbv
 refine bE (.vw 0 2 i nU ci true) [.row 2 L1,.bt] ?_ ?_ rfl ?_
 ·simp [ht,dF,bJ];omega
 ·simp [ht,aS,aM,rT,ot]
 cbv
 refine bE (bG 1) [.row 2 r,.bt] ?_ ?_ ?_ ?_
 ·simp only [ht,eB]
  refine ⟨⟨by omega,?_⟩,?_⟩
  ·intro h;rw [h] at lH;simp at lH;omega
  intro r hr;have:=List.mem_of_mem_take hr;simp at this;rw [this];exact hrow
 ·simp [ht,aa];omega
 ·simp [ht,oI,show min 1 nU=1 by omega]
 cbv
 refine wG [true] trv ?_ rfl rfl rfl ?_
 ·simp only [ht];omega
 simp only [ht];rw [←yS]
theorem Fa (ht:TT t) {es:List (List D)} {x:D} {row:List D} {i n:Nat} (hn:n=es.length) (hi:i≤n) (aA:∀r∈es,r.length=2) (hrow:(x::row).length=2) (hs:n<1000000) {r:List (List D)} (hr:r=es.take i++(x::row)::es.drop i):
 FC 139 [.ow 0 2 n,bG (i:Int),SL [x::row]] [.row 2 es] (.ret (SL r)) [.dead]:=
 dK fun c hc hc0=>CF ht hn hi hc hc0 aA hrow hs hr
theorem Fb (ht:TT t) {l:List cR} {es:List (List D)} (aA:es=l.map cR.cells) (hs:l.length<1000000000):
 FC 140 [SL es] [] (.ret (.ow 0 2 (t _ fun _=>(l.map cR.cells).length))) [.row 2 (t _ fun _=>l.map cR.cells)]:=by
 simp only [ht];subst aA
 refine G8 ht ?_ ?_ (by simp)
 ·intro r hr;obtain ⟨y,_,rfl⟩:=List.mem_map.1 hr;rfl
 simp;omega
theorem CG (ht:TT t) {l:List cR} {x:cR} {k:Nat} {i:Int} (hi:i=k) (hk:k≤l.length) (hl:l.length<1000000):
 FC 139 [.ow 0 2 (t _ fun _=>(l.map cR.cells).length),bG i,.cl [cR.cells x]] [.row 2 (t _ fun _=>l.map cR.cells)] (.ret (SL (t _ fun _=>(l.take k++x::l.drop k).map cR.cells))) [.dead]:=by
 simp only [ht];subst hi
 refine nO (args':=[.ow 0 2 (l.map cR.cells).length,bG k,SL [cR.cells x]]) ?_ (Fa ht (by simp) (by simpa using hk) ?_ rfl (by simpa using hl) (by simp [cR.cells]))
 ·intro β w ok vs h
  simp only [ak] at h ⊢
  obtain ⟨u1,VH,rfl,h1,u2,LC,rfl,h2,u3,Sf,rfl,h3,h4⟩:=h
  exact ⟨u1,_,rfl,h1,u2,_,rfl,h2,u3,Sf,rfl,IB h3,h4⟩
 intro r hr;obtain ⟨y,_,rfl⟩:=List.mem_map.1 hr;rfl
theorem Sp (l:List cR) (e:cR):tD l e≤l.length:=by
 unfold tD
 cases h:l.findIdx? (fun x=>dQ e x) with
 |none=>exact Nat.le_refl _
 |some k=>exact Nat.le_of_lt (List.findIdx?_eq_some_iff_getElem.1 h).1
theorem yZ (ht:TT t) (a b:Int) {l:List cR} {es:List (List D)} (aA:es=l.map cR.cells) (hl:l.length<1000000):
 FC 91 [SL es,.agg [az a,bG b]] [] (.ret (U1 t (t _ fun _=>jh l ⟨a,b⟩))) []:=by
 have hq:=Sp l ⟨a,b⟩
 obtain ⟨qa,ZA⟩:∃n,n=tD l ⟨a,b⟩:=⟨_,rfl⟩
 refine bL ht (aI:=[]) Tryz.func91 rfl rfl (N:=31) rfl rfl (n:=0) rfl rfl ?_
 cbv
 have av:es.length=l.length:=by rw [aA,lgM]
 refine aZ trv (Kx ht _ _) trv rfl rfl (fun r0 cF=>?_)
 simp only [ht] at cF
 cbv
 refine an (fun h1=>?_) (fun h1=>?_)
 ·cbv
  refine ax trv trv rfl rfl rfl ?_
  (simp only [ht];simp_all [jh];done)
 cbv
 refine aZ trv (Bf ht _ ‹_› (by omega)) trv rfl rfl (fun r2 fh=>?_)
 simp only [ht] at fh
 cbv
 refine an (fun h3=>?_) (fun h3=>?_)
 ·simp [ht] at h3
  cbv
  refine ax trv trv rfl rfl rfl ?_
  (simp only [ht];simp_all [jh];done)
 simp [ht] at h3
 cbv
 refine an (fun h4=>?_) (fun h4=>?_)
 ·simp [ht,aa,av] at h4
  cbv
  refine ax trv trv rfl rfl rfl ?_
  (simp only [ht,jh];grind)
 simp [ht,aa,av] at h4
 cbv
 refine c7 [false,false,false,false,false,false,false,false,true,true,true] (by kernel_rfl) (by kernel_rfl) ?_
 cbv
 refine gI (by simp) ?_
 refine .inr (Ep trv (Fb ht ‹_› (by omega)) trv rfl (.inr rfl) rfl ?_)
 cbv
 iterate 3 refine gI (by simp) ?_
 refine .inl ?_
 refine cY (fun g5=>⟨trv,trv,So ht _ _ ‹_› (by omega)⟩) rfl rfl (fun r6 mG=>?_)
 simp only [ht] at mG
 rw [←ZA] at mG
 cbv
 iterate 2 refine gI (by simp) ?_
 refine dx [1] trv rfl rfl (CG ht (l:=l) (x:=⟨a,b⟩) (k:=qa) ‹_› (by omega) (by omega)) (cj ?_)
 cbv
 refine ax trv trv rfl rfl rfl ?_
 (simp only [ht,jh];grind)
end Dem
end
