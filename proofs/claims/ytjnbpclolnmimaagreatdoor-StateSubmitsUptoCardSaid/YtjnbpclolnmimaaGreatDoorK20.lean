/- Parts of a proof, joined. -/
import Derived.Test.YtjnbpclolnmimaaGreatDoorK19
set_option linter.all false
set_option maxRecDepth 100000
set_option maxHeartbeats 4000000
section
open Go Dem Go.Proofs
namespace Dem
variable {t:Th}
theorem KI (ht:TT t) {es:List (List D)} (aD:∀r∈es,r.length=9) (hs:es.length*80≤140737488355328) {m:Nat} (hm:m=es.length):
 FC 89 [SL es] [] (.ret (.ow 0 9 m)) [.row 9 es]:=by
 refine bA ht (aB:=[]) Tryz.func89 rfl rfl (N:=8) rfl rfl (n:=0) rfl rfl ?_
 cbv
 refine ⟨fun b hb=>?_⟩
 simp only [ht] at hb
 cbv
 refine ai (fun h=>?_) (fun h=>?_)
 ·have he:=hb h
  subst he
  cbv
  exact JE trv rfl rfl (by rw [hm];rfl) rfl
 clear hb h
 cbv
 refine ⟨?_,?_⟩
 ·simp only [ht];simp;exact ⟨hs,aD⟩
 refine EB trv rfl rfl rfl rfl ?_ ?_
 ·simp only [ht];rw [hm];simp
 simp only [ht];rfl
theorem Fa (ht:TT t) {es:List (List D)} {x:D} {row:List D} {i n c:Nat} (hn:n=es.length) (hi:i≤n) (hc:n≤c) (hc0:n=0→c=0) (aD:∀r∈es,r.length=9) (hrow:(x::row).length=9) (hs:n<1000000) {r:List (List D)} (hr:r=es.take i++(x::row)::es.drop i):
 FC 92 [.vw 0 9 0 n c true,bc (i:Int),SL [x::row]] [.row 9 es] (.ret (SL r)) [.dead]:=by
 obtain ⟨n1,Jh⟩:∃n1,n1=n+1:=⟨_,rfl⟩
 obtain ⟨i1,hi1⟩:∃i1,i1=i+1:=⟨_,rfl⟩
 obtain ⟨ni,hni⟩:∃ni,ni=n-i:=⟨_,rfl⟩
 obtain ⟨ci,uo⟩:∃ci,ci=c-i:=⟨_,rfl⟩
 obtain ⟨ze,Qo⟩:∃ze,ze=c-i1:=⟨_,rfl⟩
 obtain ⟨pE,uq⟩:∃pE,pE=n1-i:=⟨_,rfl⟩
 have hW:∀P:Prop,((IntKind.i64.wrap ((n:Int)+1)=(n1:Int))→(IntKind.i64.wrap ((n1:Int)-(i:Int))=(pE:Int))→(IntKind.i64.wrap ((i:Int)+1)=(i1:Int))→P)→P:=
  fun P h=>h (by rw [wrap64 (by omega) (by omega)];omega) (by rw [wrap64 (by omega) (by omega)];omega) (by rw [wrap64 (by omega) (by omega)];omega)
 have hrl:r.length=n1:=by rw [hr,List.length_append,List.length_cons,List.length_take,List.length_drop];omega
 have VT:n≠0→FC 148 [SL [x::row],.vw 0 9 i1 ni ze true] [.row 9 es] (.ret (BL false)) [.row 9 es]:=fun h0=>
  ia JF Tryz.func148 rfl rfl rfl rfl (tS:=38) (tR:=4) rfl rfl (by intro h;rw [h] at hn;exact h0 hn)
 refine bA ht (aB:=[.row 9 es]) Tryz.func92 rfl rfl (N:=95) rfl rfl (n:=1) rfl rfl ?_
 cbv
 refine bP (.vw 0 9 i ni ci true) [.row 9 es] ?_ ?_ rfl ?_
 ·simp [ht,dX,bQ];omega
 ·simp [ht,aT,aS,hni,uo]
 cbv
 refine pP (by simp [ht]) ?_
 cbv
 refine ai (fun h=>?_) (fun h=>?_)
 ·have hin:i=n:=by simp [ht,aa] at h;omega
  clear h
  cbv
  refine bP (.ow 1 9 n1) [.dead,.row 9 r] ?_ ?_ ?_ ?_
  ·simp only [ht]
   refine ⟨⟨hn,by simp;omega,?_⟩,rfl,hn,fun h=>⟨hc0 (by rw [hn,h];rfl),rfl⟩⟩
   intro r hr
   rcases List.mem_append.1 hr with hr|hr
   ·exact aD r hr
   simp at hr;subst hr;exact hrow
  ·simp [ht,Jh,hn]
  ·simp only [ht];rw [hr]
   have:i=es.length:=by omega
   subst this;simp
  cbv
  refine ak trv ?_ rfl rfl rfl rfl
  simp only [ht];exact hrl.symm
 have hin:i<n:=by simp [ht,aa] at h;omega
 clear h
 have wY:r=(r.drop 0).take n1:=by rw [List.drop_zero,List.take_of_length_le (by omega)]
 cbv
 refine ai (fun h2=>?_) (fun h2=>?_)
 ·have VU:c=n:=by
   refine hW _ fun e1 e2 e3=>?_
   simp [ht,aa,e1] at h2;omega
  clear h2
  obtain ⟨L,hL⟩:∃L:List (List D),L=es.take i++List.replicate (es.length+1-i) [D.str [],D.int IntKind.u64 0,D.int IntKind.u64 0,D.int IntKind.u64 0,D.int IntKind.u64 0,D.int IntKind.u64 0,D.int IntKind.u64 0,D.int IntKind.u64 0,D.int IntKind.u64 0]:=⟨_,rfl⟩
  have IU:L.length=n1:=by rw [hL];simp;omega
  obtain ⟨L1,ur⟩:∃L1,L1=wrote L i [x::row]:=⟨_,rfl⟩
  have mQ:L1.length=n1:=by rw [ur];simp [wrote,IU];omega
  have pY:r=wrote L1 i1 (es.drop i):=by rw [hi1,ur,hL,vN (by omega),hr]
  cbv
  refine bP (.vw 0 9 0 i c true) [.row 9 es] ?_ ?_ rfl ?_
  ·simp [ht,dX,bQ];omega
  ·simp [ht,aT,aS]
  cbv
  refine bP (.vw 1 9 0 n1 n1 false) [.row 9 es,.row 9 L] ?_ ?_ ?_ ?_
  ·refine hW _ fun e1 e2 e3=>?_
   simp [ht,aa,e1,e2];omega
  ·refine hW _ fun e1 e2 e3=>?_
   simp [ht,aa,e1,e2];omega
  ·refine hW _ fun e1 e2 e3=>?_
   simp [ht,aa,e1,e2,hL];omega
  cbv
  refine bP (.vw 1 9 i pE pE false) [.row 9 es,.row 9 L] ?_ ?_ rfl ?_
  ·simp [ht,dX,bQ];omega
  ·simp [ht,aT,aS,uq]
  cbv
  refine bP (bc 1) [.row 9 es,.row 9 L1] ?_ ?_ ?_ ?_
  ·simp only [ht,fe]
   refine ⟨⟨by omega,?_⟩,?_⟩
   ·intro h;rw [h] at IU;simp at IU;omega
   intro r hr;have:=List.mem_of_mem_take hr;simp at this;rw [this];exact hrow
  ·simp [ht,aa];omega
  ·simp [ht,ur,show min 1 pE=1 by omega]
  cbv
  refine bS [false,false,false,false,false,false,false,false,true] (by kernel_rfl) (by kernel_rfl) ?_
  cbv
  repeat (refine gI (by (simp;done)) ?_)
  refine iR (.vw 1 9 i1 ni ni false) (fun _=>⟨?_,?_⟩) ?_
  ·refine hW _ fun e1 e2 e3=>?_
   simp [ht,aa,e3,dX,bQ];omega
  ·refine hW _ fun e1 e2 e3=>?_
   simp [ht,aa,e3,aT,aS];omega
  cbv
  repeat (refine gI (by (simp;done)) ?_)
  refine iR (.vw 0 9 i ni ci true) (fun _=>⟨?_,?_⟩) ?_
  ·simp [ht,dX,bQ];omega
  ·simp [ht,aT,aS,hni,uo]
  cbv
  refine bP (bc (ni:Nat)) [.row 9 es,.row 9 r,.bt] ?_ ?_ ?_ ?_
  ·simp only [ht,fe]
   refine ⟨by omega,⟨by omega,?_⟩,?_⟩
   ·intro h;rw [h] at mQ;simp at mQ;omega
   intro r hr;exact aD r (List.mem_of_mem_drop (List.mem_of_mem_take hr))
  ·simp [ht,aa]
  ·simp only [ht,pY]
   rw [List.take_of_length_le (by simp;omega)]
  cbv
  refine AQ [true] trv ?_ rfl rfl rfl ?_
  ·simp only [ht];omega
  simp only [ht];rw [←wY]
 have VU:n<c:=by
  refine hW _ fun e1 e2 e3=>?_
  simp [ht,aa,e1] at h2;omega
 clear h2
 obtain ⟨L1,ur⟩:∃L1,L1=wrote es i1 (es.drop i):=⟨_,rfl⟩
 have pY:r=wrote L1 i [x::row]:=by rw [ur,hi1,EU (by omega),hr]
 have mQ:L1.length=n1:=by rw [ur];simp [wrote];omega
 cbv
 refine bP (.vw 0 9 0 n1 c true) [.row 9 es] ?_ ?_ rfl ?_
 ·refine hW _ fun e1 e2 e3=>?_
  simp [ht,aa,e1,dX,bQ];omega
 ·refine hW _ fun e1 e2 e3=>?_
  simp [ht,aa,e1,aT,aS]
 cbv
 refine bP (.vw 0 9 i1 ni ze true) [.row 9 es] ?_ ?_ rfl ?_
 ·refine hW _ fun e1 e2 e3=>?_
  simp [ht,aa,e3,dX,bQ];omega
 ·refine hW _ fun e1 e2 e3=>?_
  simp [ht,aa,e3,aT,aS];omega
 cbv
 refine de trv (VT (by omega)) ?_
 cbv
 refine mJ (by simp [ht]) ?_
 cbv
 refine bS [false,false,false,false,false,false,false,false,true] (by kernel_rfl) (by kernel_rfl) ?_
 cbv
 repeat (refine gI (by (simp;done)) ?_)
 refine iR (.vw 0 9 i1 ni ze true) (fun _=>⟨?_,?_⟩) ?_
 ·refine hW _ fun e1 e2 e3=>?_
  simp [ht,aa,e3,dX,bQ];omega
 ·refine hW _ fun e1 e2 e3=>?_
  simp [ht,aa,e3,aT,aS];omega
 cbv
 repeat (refine gI (by (simp;done)) ?_)
 refine iR (.vw 0 9 i pE ci true) (fun _=>⟨?_,?_⟩) ?_
 ·simp [ht,dX,bQ];omega
 ·simp [ht,aT,aS,uq,uo]
 cbv
 refine bP (bc (ni:Nat)) [.row 9 L1,.bt] ?_ ?_ ?_ ?_
 ·simp only [ht,fe]
  refine ⟨by omega,⟨by omega,?_⟩,?_⟩
  ·intro h;rw [h] at hn;simp at hn;omega
  intro r hr;exact aD r (List.mem_of_mem_drop (List.mem_of_mem_take hr))
 ·simp [ht,aa];omega
 ·simp only [ht,ur]
  rw [List.take_of_length_le (by simp;omega)]
 cbv
 refine bP (.vw 0 9 i pE ci true) [.row 9 L1,.bt] ?_ ?_ rfl ?_
 ·simp [ht,dX,bQ];omega
 ·simp [ht,aT,aS,uq,uo]
 cbv
 refine bP (bc 1) [.row 9 r,.bt] ?_ ?_ ?_ ?_
 ·simp only [ht,fe]
  refine ⟨⟨by omega,?_⟩,?_⟩
  ·intro h;rw [h] at mQ;simp at mQ;omega
  intro r hr;have:=List.mem_of_mem_take hr;simp at this;rw [this];exact hrow
 ·simp [ht,aa];omega
 ·simp [ht,pY,show min 1 pE=1 by omega]
 cbv
 refine AQ [true] trv ?_ rfl rfl rfl ?_
 ·simp only [ht];omega
 simp only [ht];rw [←wY]
theorem Ij (ht:TT t) {es:List (List D)} {x:D} {row:List D} {i n:Nat} (hn:n=es.length) (hi:i≤n) (aD:∀r∈es,r.length=9) (hrow:(x::row).length=9) (hs:n<1000000) {r:List (List D)} (hr:r=es.take i++(x::row)::es.drop i):
 FC 92 [.ow 0 9 n,bc (i:Int),SL [x::row]] [.row 9 es] (.ret (SL r)) [.dead]:=
 fF fun c hc hc0=>Fa ht hn hi hc hc0 aD hrow hs hr
theorem QJ (ht:TT t) (q:aA) {l:List (aQ)} {es:List (List D)} (aD:es=l.map aQ.cells) (f:Nat) (p:aQ→Bool) (hl:l.length<9223372036854775807)
 (hf:∀x∈l,FC f [.agg [ST x.path,ax x.c6.a,ax x.c6.b,ax x.c6.c,ax x.c6.d,ax x.used.a,ax x.used.b,ax x.used.c,ax x.used.d],.ptr 0 0] [.var [ST q]] (.ret (BL (p x))) [.var [ST q]]) {r:Int} (hr:r=idxOf p l):FC 90 [SL es,.fn f [.ptr 0 0]] [.var [ST q]] (.ret (bc r)) [.var [ST q]]:=by
 have hel:es.length=l.length:=by rw [aD,lgM]
 obtain ⟨J,hJ⟩:∃J:Nat→Nat→Prop,∀n v,J n v↔(v+n=l.length∧∀i<v,∀x,l[i]?=some x→p x=false):=⟨fun n v=>v+n=l.length∧∀i<v,∀x,l[i]?=some x→p x=false,fun _ _=>Iff.rfl⟩
 refine bA ht (aB:=[.var [ST q]]) Tryz.func90 rfl rfl (N:=19) rfl rfl (n:=1) rfl rfl ?_
 cbv
 refine bg ⟨[0,1,7,8],[],[]⟩ (σ:=Nat) (fun k=>[(8,bc (t _ fun _=>(k:Int)))]) (fun _=>[]) J ?_
 cbv
 refine aC ⟨l.length,0,(hJ _ _).2 ⟨by omega,by intro i hi;simp at hi⟩,by simp only [ht];rfl,?_⟩
 rintro n k hj
 obtain ⟨h2,h3⟩:=(hJ _ _).1 hj
 clear hj
 cbv
 refine ai (fun h=>?_) (fun h=>?_)
 ·simp only [ht,aa,decide_eq_true_eq] at h
  have hk:k<l.length:=by omega
  obtain ⟨x,hx⟩:∃x,l[k]?=some x:=⟨l[k],by simp⟩
  have nO:x∈l:=List.mem_of_getElem? hx
  have gS:=hf x nO
  obtain ⟨px,hpx⟩:∃b,b=p x:=⟨_,rfl⟩
  rw [←hpx] at gS
  obtain ⟨nm,⟨a,b,c,d⟩,⟨e,g,u,v⟩⟩:=x
  cbv
  refine iq [.str nm,.int .u64 a,.int .u64 b,.int .u64 c,.int .u64 d,.int .u64 e,.int .u64 g,.int .u64 u,.int .u64 v] ?_ ?_ ?_
  ·simp only [ht,aa];refine ⟨by omega,h,?_⟩;rw [aD];intro r hr;obtain ⟨y,_,rfl⟩:=List.mem_map.1 hr;rfl
  ·simp [ht,aa,aD,hx]
  cbv
  refine de trv gS ?_
  cbv
  refine ai (fun hb=>?_) (fun hb=>?_)
  ·cbv
   refine ak trv trv rfl rfl rfl ?_
   have e:=cO hx (hpx▸hb) h3
   simp only [ht,aa,hr,idxOf,e]
  cbv
  refine aC ⟨n-1,k+1,⟨by omega,(hJ _ _).2 ⟨by omega,?_⟩⟩,?_⟩
  ·intro i hi y hy
   by_cases hik:i<k
   ·exact h3 i hik y hy
   have:i=k:=by omega
   subst this;rw [hx] at hy;cases hy;rw [←hpx];exact hb
  simp only [ht,aa,aE (show k<9223372036854775807 by omega)];rfl
 simp only [ht,aa,decide_eq_false_iff_not] at h
 have hk:¬k<l.length:=by omega
 clear h
 cbv
 refine ak trv trv rfl rfl rfl ?_
 rw [hr,idxOf,cR]
 intro i y hy
 have:i<l.length:=by
  rcases Nat.lt_or_ge i l.length with h'|h';· exact h'
  simp [List.getElem?_eq_none h'] at hy
 exact h3 i (by omega) y hy
theorem V8 (ht:TT t) (q:aA) (x:aQ) {r:Bool} (hr:r=!Op.bytesLess x.path q):FC 91 [.agg [ST x.path,ax x.c6.a,ax x.c6.b,ax x.c6.c,ax x.c6.d,ax x.used.a,ax x.used.b,ax x.used.c,ax x.used.d],.ptr 0 0] [.var [ST q]] (.ret (BL r)) [.var [ST q]]:=by
 obtain ⟨nm,⟨a,b,c,d⟩,⟨e,g,u,v⟩⟩:=x
 refine bA ht (aB:=[.var [ST q]]) Tryz.func91 rfl rfl (N:=8) rfl rfl (n:=1) rfl rfl ?_
 cbv
 refine ak trv trv rfl rfl rfl ?_
 simp only [ht,hr]
theorem yM (ht:TT t) {l:List aQ} {es:List (List D)} (aD:es=l.map aQ.cells) (hs:l.length<1000000000):
 FC 89 [SL es] [] (.ret (.ow 0 9 (t _ fun _=>(l.map aQ.cells).length))) [.row 9 (t _ fun _=>l.map aQ.cells)]:=by
 simp only [ht];subst aD
 refine KI ht ?_ ?_ (by simp)
 ·intro r hr;obtain ⟨y,_,rfl⟩:=List.mem_map.1 hr;rfl
 simp;omega
theorem vT (ht:TT t) {l:List aQ} {x:aQ} {k:Nat} {i:Int} (hi:i=k) (hk:k≤l.length) (hl:l.length<1000000):
 FC 92 [.ow 0 9 (t _ fun _=>(l.map aQ.cells).length),bc i,.cl [aQ.cells x]] [.row 9 (t _ fun _=>l.map aQ.cells)] (.ret (SL (t _ fun _=>(l.take k++x::l.drop k).map aQ.cells))) [.dead]:=by
 simp only [ht];subst hi
 refine oZ (args':=[.ow 0 9 (l.map aQ.cells).length,bc k,SL [aQ.cells x]]) ?_ (Ij ht (by simp) (by simpa using hk) ?_ rfl (by simpa using hl) (by simp))
 ·intro β w ok vs h
  simp only [aj] at h ⊢
  obtain ⟨u1,Zg,rfl,h1,u2,OR,rfl,h2,u3,V1,rfl,h3,h4⟩:=h
  exact ⟨u1,_,rfl,h1,u2,_,rfl,h2,u3,V1,rfl,LU h3,h4⟩
 intro r hr;obtain ⟨y,_,rfl⟩:=List.mem_map.1 hr;rfl
theorem elemAt {α:Type} [Inhabited α] (l:List α) (k:Nat):∃x,k<l.length→l[k]?=some x:=by
 by_cases h:k<l.length
 ·exact ⟨l[k],fun _=>List.getElem?_eq_getElem h⟩
 exact ⟨default,fun h'=>absurd h' h⟩
theorem QK {t:Th} (ht:TT t) {α:Type} {l:List α} {cells cT:α→List D} {es:List (List D)} {g:Bool} {c:Prop} (aD:es=l.map cells) {z:Int} {n:Nat} (i:Nat) (x:α) {K:List D→Prop} (hi:g=true→z=i∧l[i]?=some x) (hn:∀x,(cells x).length=n) (hT:∀x,cells x=cT x)
 (hc:g=true→c) (hK:K (cT x)):nQ g (c∧(t Prop fun _=>0≤z∧z<es.length∧∀r∈es,r.length=n)) (t _ fun _=>es.getD z.toNat []) K:=by
 refine PM (cT x) (fun hg=>?_) hK
 obtain ⟨h1,h2⟩:=hi hg
 obtain ⟨ds,h,hk⟩:=Cs (K:=fun ds=>ds=cT x) ht aD h2 h1 hn hT rfl
 obtain ⟨h3,h4⟩:=h rfl
 exact ⟨⟨hc hg,h3⟩,h4.trans hk⟩
theorem rA {l:List aQ} {q:aA} {r:Int} (h:r=bM l q):(r=-1∧bM l q=-1∧l.findIdx? (fun e=>decide (e.path=q))=none)∨∃(k:Nat) (x:aQ),r=k∧bM l q=k∧k<l.length∧l[k]?=some x∧l.findIdx? (fun e=>decide (e.path=q))=some k:=by
 rcases cS (p:=fun e:aQ=>decide (e.path=q)) (l:=l) (r:=r) h with ⟨e1,e2,e3⟩|⟨i,x,hi,hil,e1,e2,e3,e4⟩
 ·exact .inl ⟨e1,by rw [←h,e1],e2⟩
 exact .inr ⟨i,x,hi,by rw [←h,hi],hil,e1,e3⟩
def Tu (l:List aQ) (q:aA):Nat:=match l.findIdx? (fun e=>!Op.bytesLess e.path q) with
 |some k=>k
 |none=>l.length
theorem DH {l:List aQ} {q:aA} {v:bz} (h:l.findIdx? (fun e=>decide (e.path=q))=none) (h1:named q=true) (h2:¬q=[]→0≤bM l (parent q)) (h3:bM l q<0→(l.length:Int)<16):
 vD l q v=(l.take (Tu l q)++⟨q,v,bz.zero⟩::l.drop (Tu l q),0):=by
 have e0:bM l q=-1:=by unfold bM idxOf;rw [h]
 have h3:=h3 (by omega)
 unfold vD Tu
 rw [if_neg (by simp [h1]),if_neg (by simp;exact fun g=>by have:=h2 g;omega),if_neg (by simp;omega)]
 simp only [h]
 cases l.findIdx? (fun e=>!Op.bytesLess e.path q)<;>simp
theorem NE {l:List aQ} {q:aA} {v:bz} (h1:named q=true) (h2:¬q=[]→0≤bM l (parent q)) (h3:bM l q<0) (h4:(16:Int)≤l.length):vD l q v=(l,9):=by
 unfold vD
 rw [if_neg (by simp [h1]),if_neg (by simp;exact fun g=>by have:=h2 g;omega),if_pos (by simp;omega)]
theorem DI {l:List aQ} {q:aA} {v:bz} {k:Nat} {x:aQ} (h:l.findIdx? (fun e=>decide (e.path=q))=some k) (hx:l[k]?=some x) (h1:named q=true) (h2:¬q=[]→0≤bM l (parent q)):
 vD l q v=if mK x.used v then (l.set k {x with c6:=v},0) else (l,10):=by
 have e0:bM l q=k:=by unfold bM idxOf;rw [h]
 unfold vD
 rw [if_neg (by simp [h1]),if_neg (by simp;exact fun g=>by have:=h2 g;omega),if_neg (by simp;omega)]
 simp only [h,List.getD_eq_getElem?_getD,hx,Option.getD_some]
 cases mK x.used v<;>simp
theorem zx (ht:TT t) (q:aA) (a b c d:Int) {l:List aQ} {es:List (List D)} (aD:es=l.map aQ.cells) (hl:l.length<100000) (hq:q.length<1000000000000) (hpq:(parent q).length<1000000000000):
 FC 34 [SL es,ST q,V4 a b c d] [] (.ret (E8 t (t _ fun _=>vD l q ⟨a,b,c,d⟩))) []:=by
 obtain ⟨pq,IW⟩:∃p,p=parent q:=⟨_,rfl⟩
 obtain ⟨nq,FE⟩:∃p,p=named q:=⟨_,rfl⟩
 refine bA ht (aB:=[]) Tryz.func34 rfl rfl (N:=77) rfl rfl (n:=0) rfl rfl ?_
 cbv
 have av:es.length=l.length:=by rw [aD,lgM]
 refine ay trv (jZ ht _ ‹_› (by omega)) trv rfl rfl (fun r0 bF=>?_)
 simp only [ht] at bF
 (rcases rA (q:=q) bF with ⟨e1,e0,e2⟩|⟨i,x,e1,e0,hil,e3,e2⟩)
 ·cbv
  refine ay trv (vS ht _ ‹_›) trv rfl rfl (fun r1 eb=>?_)
  simp only [ht] at eb
  rw [←FE] at eb
  subst r1
  cbv
  refine ai (fun h2=>?_) (fun h2=>?_)
  ·simp [ht] at h2
   cbv
   refine ak trv trv rfl rfl rfl ?_
   (subst IW FE;simp_all [vD];done)
  simp [ht] at h2
  cbv
  iterate 2 refine gI (by simp [ht]) ?_
  refine aJ (fun g3=>⟨by simp [ht] at g3 ⊢;exact g3,trv,sA ht _ ‹_›⟩) rfl rfl (fun r4 dV=>?_)
  simp only [ht] at dV
  rw [←IW] at dV
  subst r4
  cbv
  refine aJ (fun g5=>⟨by simp [ht] at g5 ⊢;exact g5,trv,jZ ht _ ‹_› (by omega)⟩) rfl rfl (fun r6 gk=>?_)
  simp only [ht] at gk
  skip
  cbv
  refine gI (by simp [ht]) ?_
  refine pI (by simp [ht]) ?_
  refine ai (fun h7=>?_) (fun h7=>?_)
  ·simp [ht] at h7
   cbv
   refine ak trv trv rfl rfl rfl ?_
   (subst IW FE;simp_all [vD];done)
  simp [ht] at h7
  cbv
  iterate 3 refine gI (by simp [ht]) ?_
  refine pI (by simp [ht]) ?_
  refine ai (fun h8=>?_) (fun h8=>?_)
  ·simp [ht,aa,av] at h8
   cbv
   refine ak trv trv rfl rfl rfl ?_
   (simp only [ht];rw [NE (by rw [←FE];assumption) (fun g=>by rw [←IW,←gk];exact h7 g) (by omega) h8.2];simp [aD];done)
  simp [ht,aa,av] at h8
  cbv
  refine bS [true,true,true,false,false,false,false,false,false,true,true,true,true] (by kernel_rfl) (by kernel_rfl) ?_
  cbv
  iterate 2 refine gI (by simp [ht]) ?_
  (refine QK ht aD (cT:=aQ.aK t) 0 default (fun g=>absurd g (by simp [ht,e1])) (fun _=>rfl) (fun _=>by simp only [aQ.aK]) (fun g=>by exact ⟨g,g,trv⟩) ?_)
  cbv
  iterate 3 refine gI (by simp [ht]) ?_
  refine aJ (fun g9=>⟨by simp [ht] at g9 ⊢;exact g9,trv,ot ht _ _ _ _ _ _ _ _⟩) rfl rfl (fun Zo BG=>?_)
  simp only [ht] at BG
  cbv
  refine gI (by simp [ht]) ?_
  refine pI (by simp [ht]) ?_
  refine ai (fun h11=>?_) (fun h11=>?_)
  ·simp [ht] at h11
   omega
  simp [ht] at h11
  cbv
  refine pQ trv (yM ht ‹_› (by omega)) trv rfl (.inr rfl) ?_
  cbv
  refine ai (fun h12=>?_) (fun h12=>?_)
  ·simp [ht] at h12
   omega
  simp [ht] at h12
  cbv
  (obtain ⟨r9,dz⟩:∃r,r=idxOf (fun o:aQ=>!Op.bytesLess o.path q) l:=⟨_,rfl⟩;refine cD [0] trv rfl rfl (QJ ht q aD 91 (fun o:aQ=>!Op.bytesLess o.path q) (by omega) (fun x _=>V8 ht q x rfl) dz) (bK ?_);have ec:=cS dz;clear dz;rcases ec with ⟨f1,f2,f3⟩|⟨z,y,f0,fz,f1,f2,f3,f4⟩)
  ·cbv
   refine ai (fun KJ=>?_) (fun KJ=>?_)
   ·simp [ht] at KJ
    cbv
    refine cD [3] trv rfl rfl (vT ht (l:=l) (x:=⟨q,⟨a,b,c,d⟩,bz.zero⟩) (k:=Tu l q) (by (simp [ht,Tu,f2,av];done)) (by (simp [Tu,f2];done)) (by simp only [aa] at*;omega)) (bK ?_)
    cbv
    refine ak trv trv rfl rfl rfl ?_
    (simp only [ht];rw [DH e2 (by rw [←FE];assumption) (fun g=>by rw [←IW,←gk];exact h7 g) (fun g=>h8 (by omega))])
   simp [ht] at KJ
   omega
  cbv
  refine ai (fun QL=>?_) (fun QL=>?_)
  ·simp [ht] at QL
   (simp only [aa] at*;omega)
  simp [ht] at QL
  cbv
  refine cD [3] trv rfl rfl (vT ht (l:=l) (x:=⟨q,⟨a,b,c,d⟩,bz.zero⟩) (k:=Tu l q) (by (simp only [Tu,f3];exact f0)) (by (simp only [Tu,f3];omega)) (by simp only [aa] at*;omega)) (bK ?_)
  cbv
  refine ak trv trv rfl rfl rfl ?_
  (simp only [ht];rw [DH e2 (by rw [←FE];assumption) (fun g=>by rw [←IW,←gk];exact h7 g) (fun g=>h8 (by omega))])
 cbv
 refine ay trv (vS ht _ ‹_›) trv rfl rfl (fun r15 KL=>?_)
 simp only [ht] at KL
 rw [←FE] at KL
 subst r15
 cbv
 refine ai (fun V9=>?_) (fun V9=>?_)
 ·simp [ht] at V9
  cbv
  refine ak trv trv rfl rfl rfl ?_
  (subst IW FE;simp_all [vD];done)
 simp [ht] at V9
 cbv
 iterate 2 refine gI (by simp [ht]) ?_
 refine aJ (fun g17=>⟨by simp [ht] at g17 ⊢;exact g17,trv,sA ht _ ‹_›⟩) rfl rfl (fun r18 NF=>?_)
 simp only [ht] at NF
 rw [←IW] at NF
 subst r18
 cbv
 refine aJ (fun g19=>⟨by simp [ht] at g19 ⊢;exact g19,trv,jZ ht _ ‹_› (by omega)⟩) rfl rfl (fun r20 NG=>?_)
 simp only [ht] at NG
 skip
 cbv
 refine gI (by simp [ht]) ?_
 refine pI (by simp [ht]) ?_
 refine ai (fun Yy=>?_) (fun Yy=>?_)
 ·simp [ht] at Yy
  cbv
  refine ak trv trv rfl rfl rfl ?_
  (subst IW FE;simp_all [vD];done)
 simp [ht] at Yy
 cbv
 iterate 3 refine gI (by simp [ht]) ?_
 refine pI (by simp [ht]) ?_
 refine ai (fun h22=>?_) (fun h22=>?_)
 ·simp [ht,aa,av] at h22
  (simp only [aa] at*;omega)
 simp [ht,aa,av] at h22
 cbv
 refine bS [true,true,true,false,false,false,false,false,false,true,true,true,true] (by kernel_rfl) (by kernel_rfl) ?_
 cbv
 iterate 2 refine gI (by simp [ht]) ?_
 (refine QK ht aD (cT:=aQ.aK t) i x (fun g=>⟨e1,e3⟩) (fun _=>rfl) (fun _=>by simp only [aQ.aK]) (fun g=>by exact ⟨g,g,trv⟩) ?_)
 cbv
 iterate 3 refine gI (by simp [ht]) ?_
 refine aJ (fun g23=>⟨by simp [ht] at g23 ⊢;exact g23,trv,ot ht _ _ _ _ _ _ _ _⟩) rfl rfl (fun r24 aaM=>?_)
 simp only [ht] at aaM
 cbv
 refine gI (by simp [ht]) ?_
 refine pI (by simp [ht]) ?_
 refine ai (fun h25=>?_) (fun h25=>?_)
 ·simp [ht] at h25
  cbv
  refine ak trv trv rfl rfl rfl ?_
  (have ts:=DI (v:=⟨a,b,c,d⟩) e2 e3 (by rw [←FE];assumption) (fun g=>by rw [←IW,←NG];exact Yy g);simp only [ht];rw [ts];simp_all;done)
 simp [ht] at h25
 cbv
 refine pQ trv (yM ht ‹_› (by omega)) trv rfl (.inr rfl) ?_
 cbv
 refine ai (fun h26=>?_) (fun h26=>?_)
 ·simp [ht] at h26
  cbv
  refine ⟨?_,?_⟩
  ·(subst IW FE;simp_all;done)
  refine ⟨?_,?_⟩
  ·(subst IW FE;simp_all;done)
  cbv
  refine ak trv (by simp [ht]) rfl rfl rfl ?_
  (have ts:=DI (v:=⟨a,b,c,d⟩) e2 e3 (by rw [←FE];assumption) (fun g=>by rw [←IW,←NG];exact Yy g);simp only [ht];rw [ts];simp_all [List.map_set,bG];done)
 simp [ht] at h26
 (simp only [aa] at*;omega)
def QM (r:aQ×Int):AV:=.dA [V7 r.1,bc r.2]
theorem Mh (ht:TT t) (a0 a1 a2 a3 b0 b1 b2 b3:Int):FC 26 [V4 a0 a1 a2 a3,V4 b0 b1 b2 b3] [] (.ret (Yp (t _ fun _=>iA ⟨a0,a1,a2,a3⟩ ⟨b0,b1,b2,b3⟩))) []:=by
 simp only [ht];exact Qt ht _ _ _ _ _ _ _ _ rfl
theorem Tv (ht:TT t) (a0 a1 a2 a3 b0 b1 b2 b3:Int):FC 147 [V4 a0 a1 a2 a3,V4 b0 b1 b2 b3] [] (.ret (Yp (t _ fun _=>fY ⟨a0,a1,a2,a3⟩ ⟨b0,b1,b2,b3⟩))) []:=by
 simp only [ht];exact EW ht _ _ _ _ _ _ _ _ rfl
theorem KM (ht:TT t) (v1 v2 v3 v4:Int) (p:aA) (a b c d e f g h:Int):
 FC 143 [V4 v1 v2 v3 v4,.agg [ST p,ax a,ax b,ax c,ax d,ax e,ax f,ax g,ax h]] [] (.ret (QM (t _ fun _=>fW ⟨v1,v2,v3,v4⟩ ⟨p,⟨a,b,c,d⟩,⟨e,f,g,h⟩⟩))) []:=by
 obtain ⟨⟨⟨s1,s2,s3,s4⟩,k⟩,hS⟩:∃r,r=iA ⟨e,f,g,h⟩ ⟨v1,v2,v3,v4⟩:=⟨_,rfl⟩
 refine bA ht (aB:=[]) Tryz.func143 rfl rfl (N:=28) rfl rfl (n:=0) rfl rfl ?_
 cbv
 refine gV trv (Qt ht _ _ _ _ _ _ _ _ ‹_›) trv rfl rfl ?_
 cbv
 refine ai (fun h0=>?_) (fun h0=>?_)
 ·simp [ht] at h0
  cbv
  refine ak trv trv rfl rfl rfl ?_
  (simp only [ht,fW,←hS];simp_all;done)
 simp [ht] at h0
 cbv
 refine ay trv (ot ht _ _ _ _ _ _ _ _) trv rfl rfl (fun r1 eb=>?_)
 simp only [ht] at eb
 cbv
 refine ai (fun h2=>?_) (fun h2=>?_)
 ·simp [ht] at h2
  cbv
  refine ak trv trv rfl rfl rfl ?_
  (simp only [ht,fW,←hS];simp_all;done)
 simp [ht] at h2
 cbv
 refine ak trv trv rfl rfl rfl ?_
 (simp only [ht,fW,←hS];simp_all;done)
theorem KN (ht:TT t) (v1 v2 v3 v4:Int) (p:aA) (a b c d e f g h:Int):
 FC 173 [V4 v1 v2 v3 v4,.agg [ST p,ax a,ax b,ax c,ax d,ax e,ax f,ax g,ax h]] [] (.ret (QM (t _ fun _=>ej ⟨v1,v2,v3,v4⟩ ⟨p,⟨a,b,c,d⟩,⟨e,f,g,h⟩⟩))) []:=by
 obtain ⟨⟨⟨s1,s2,s3,s4⟩,k⟩,hS⟩:∃r,r=fY ⟨e,f,g,h⟩ ⟨v1,v2,v3,v4⟩:=⟨_,rfl⟩
 refine bA ht (aB:=[]) Tryz.func173 rfl rfl (N:=22) rfl rfl (n:=0) rfl rfl ?_
 cbv
 refine gV trv (EW ht _ _ _ _ _ _ _ _ ‹_›) trv rfl rfl ?_
 cbv
 refine ai (fun h0=>?_) (fun h0=>?_)
 ·simp [ht] at h0
  cbv
  refine ak trv trv rfl rfl rfl ?_
  (simp only [ht,ej,←hS];simp_all;done)
 simp [ht] at h0
 cbv
 refine ak trv trv rfl rfl rfl ?_
 (simp only [ht,ej,←hS];simp_all;done)
theorem Tw (ht:TT t) (q:aA) {l:List aQ} {es:List (List D)} (aD:es=l.map aQ.cells) (hl:l.length<1000000000) {r:Bool} (hr:r=decide (bM l q<0)):
 FC 185 [ST q,.ptr 0 0] [.var [SL es]] (.ret (BL r)) [.var [SL es]]:=by
 refine bA ht (aB:=[.var [SL es]]) Tryz.func185 rfl rfl (N:=8) rfl rfl (n:=1) rfl rfl ?_
 cbv
 have av:es.length=l.length:=by rw [aD,lgM]
 refine ay trv (jZ ht _ ‹_› ‹_›) trv rfl rfl (fun r0 bF=>?_)
 simp only [ht] at bF
 cbv
 refine ak trv trv rfl rfl rfl ?_
 (simp [*];done)
theorem NH (ht:TT t) (ts:List (List D)) {l:List (aA)} {es:List (List D)} (aD:es=l.map aV) (f:Nat) (p:aA→Bool) (hl:l.length<9223372036854775807)
 (hf:∀x∈l,FC f [.d (.str x),.ptr 0 0] [.var [SL ts]] (.ret (BL (p x))) [.var [SL ts]]) {r:Int} (hr:r=idxOf p l):FC 163 [SL es,.fn f [.ptr 0 0]] [.var [SL ts]] (.ret (bc r)) [.var [SL ts]]:=by
 have hel:es.length=l.length:=by rw [aD,lgM]
 obtain ⟨J,hJ⟩:∃J:Nat→Nat→Prop,∀n v,J n v↔(v+n=l.length∧∀i<v,∀x,l[i]?=some x→p x=false):=⟨fun n v=>v+n=l.length∧∀i<v,∀x,l[i]?=some x→p x=false,fun _ _=>Iff.rfl⟩
 refine bA ht (aB:=[.var [SL ts]]) Tryz.func163 rfl rfl (N:=19) rfl rfl (n:=1) rfl rfl ?_
 cbv
 refine bg ⟨[0,1,7,8],[],[]⟩ (σ:=Nat) (fun k=>[(8,bc (t _ fun _=>(k:Int)))]) (fun _=>[]) J ?_
 cbv
 refine aC ⟨l.length,0,(hJ _ _).2 ⟨by omega,by intro i hi;simp at hi⟩,by simp only [ht];rfl,?_⟩
 rintro n k hj
 obtain ⟨h2,h3⟩:=(hJ _ _).1 hj
 clear hj
 cbv
 refine ai (fun h=>?_) (fun h=>?_)
 ·simp only [ht,aa,decide_eq_true_eq] at h
  have hk:k<l.length:=by omega
  obtain ⟨x,hx⟩:∃x,l[k]?=some x:=⟨l[k],by simp⟩
  have nO:x∈l:=List.mem_of_getElem? hx
  have gS:=hf x nO
  obtain ⟨px,hpx⟩:∃b,b=p x:=⟨_,rfl⟩
  rw [←hpx] at gS
  skip
  cbv
  refine iq [.str x] ?_ ?_ ?_
  ·simp only [ht,aa];refine ⟨by omega,h,?_⟩;rw [aD];intro r hr;obtain ⟨y,_,rfl⟩:=List.mem_map.1 hr;rfl
  ·simp [ht,aa,aD,hx]
  cbv
  refine de trv gS ?_
  cbv
  refine ai (fun hb=>?_) (fun hb=>?_)
  ·cbv
   refine ak trv trv rfl rfl rfl ?_
   have e:=cO hx (hpx▸hb) h3
   simp only [ht,aa,hr,idxOf,e]
  cbv
  refine aC ⟨n-1,k+1,⟨by omega,(hJ _ _).2 ⟨by omega,?_⟩⟩,?_⟩
  ·intro i hi y hy
   by_cases hik:i<k
   ·exact h3 i hik y hy
   have:i=k:=by omega
   subst this;rw [hx] at hy;cases hy;rw [←hpx];exact hb
  simp only [ht,aa,aE (show k<9223372036854775807 by omega)];rfl
 simp only [ht,aa,decide_eq_false_iff_not] at h
 have hk:¬k<l.length:=by omega
 clear h
 cbv
 refine ak trv trv rfl rfl rfl ?_
 rw [hr,idxOf,cR]
 intro i y hy
 have:i<l.length:=by
  rcases Nat.lt_or_ge i l.length with h'|h';· exact h'
  simp [List.getElem?_eq_none h'] at hy
 exact h3 i (by omega) y hy
theorem NI (ht:TT t) (ts:List (List D)) {l:List (aA)} {es:List (List D)} (aD:es=l.map aV) (f:Nat) (p:aA→Bool) (hl:l.length<9223372036854775807)
 (hf:∀x∈l,FC f [.d (.str x),.ptr 0 0] [.var [SL ts]] (.ret (BL (p x))) [.var [SL ts]]) {r:Bool} (hr:r=l.any p):FC 110 [SL es,.fn f [.ptr 0 0]] [.var [SL ts]] (.ret (BL r)) [.var [SL ts]]:=by
 obtain ⟨k,hk⟩:∃k,k=idxOf p l:=⟨_,rfl⟩
 refine bA ht (aB:=[.var [SL ts]]) Tryz.func110 rfl rfl (N:=9) rfl rfl (n:=1) rfl rfl ?_
 cbv
 refine de trv (NH ht ts aD f p hl hf hk) ?_
 cbv
 refine ak trv trv rfl rfl rfl ?_
 simp only [ht,hr,eP,hk]
theorem NJ (ht:TT t) {l:List aQ} {qs:List aA} {es ss:List (List D)} (aD:es=l.map aQ.cells) (hss:ss=qs.map aV) (hl:l.length<1000000000) (hq:qs.length<1000000000) {r:Bool} (hr:r=qs.any (fun q=>decide (bM l q<0))):
 FC 110 [SL ss,.fn 185 [.ptr 0 0]] [.var [SL es]] (.ret (BL r)) [.var [SL es]]:=
 NI ht es hss 185 (fun q=>decide (bM l q<0)) (by omega) (fun x _=>Tw ht x aD hl rfl) hr
theorem Ik (ht:TT t) {es:List (List D)} (aD:∀r∈es,r.length=9) (hs:es.length*80≤140737488355328) {m:Nat} (hm:m=es.length):
 FC 186 [SL es] [] (.ret (.ow 0 9 m)) [.row 9 es]:=by
 refine bA ht (aB:=[]) Tryz.func186 rfl rfl (N:=8) rfl rfl (n:=0) rfl rfl ?_
 cbv
 refine ⟨fun b hb=>?_⟩
 simp only [ht] at hb
 cbv
 refine ai (fun h=>?_) (fun h=>?_)
 ·have he:=hb h
  subst he
  cbv
  exact JE trv rfl rfl (by rw [hm];rfl) rfl
 clear hb h
 cbv
 refine ⟨?_,?_⟩
 ·simp only [ht];simp;exact ⟨hs,aD⟩
 refine EB trv rfl rfl rfl rfl ?_ ?_
 ·simp only [ht];rw [hm];simp
 simp only [ht];rfl
theorem Fb (ht:TT t) {l:List aQ} {es:List (List D)} (aD:es=l.map aQ.cells) (hs:l.length<1000000000):
 FC 186 [SL es] [] (.ret (.ow 0 9 (t _ fun _=>(l.map aQ.cells).length))) [.row 9 (t _ fun _=>l.map aQ.cells)]:=by
 simp only [ht];subst aD
 refine Ik ht ?_ ?_ (by simp)
 ·intro r hr;obtain ⟨y,_,rfl⟩:=List.mem_map.1 hr;rfl
 simp;omega
def Int.cells (x:Int):List D:=[.int .u64 x]
def Int.aK (_:Th) (x:Int):List D:=[.int .u64 x]
theorem QN (ht:TT t) (x:Int):FC 233 [ax x] [] (.ret (cu (t _ fun _=>false))) []:=by
 refine bA ht (aB:=[]) Tryz.func233 rfl rfl (N:=6) rfl rfl (n:=0) rfl rfl ?_
 cbv
 refine ak trv trv rfl rfl rfl ?_
 (simp [ht];done)
theorem Wa (ht:TT t) (x y:Int):FC 220 [ax x,ax y] [] (.ret (mR (t _ fun _=>ol x y))) []:=by
 refine bA ht (aB:=[]) Tryz.func220 rfl rfl (N:=20) rfl rfl (n:=0) rfl rfl ?_
 cbv
 refine ay trv (QN ht _) trv rfl rfl (fun r0 bF=>?_)
 simp only [ht] at bF
 cbv
 refine ay trv (QN ht _) trv rfl rfl (fun r1 eb=>?_)
 simp only [ht] at eb
 cbv
 refine ai (fun h2=>?_) (fun h2=>?_)
 ·cbv
  refine ai (fun h3=>?_) (fun h3=>?_)
  ·cbv
   refine ak trv trv rfl rfl rfl ?_
   (simp only [ht,ol];grind)
  cbv
  refine ak trv trv rfl rfl rfl ?_
  (simp only [ht,ol];grind)
 cbv
 refine ai (fun h4=>?_) (fun h4=>?_)
 ·cbv
  refine ak trv trv rfl rfl rfl ?_
  (simp only [ht,ol];grind)
 cbv
 refine ai (fun h5=>?_) (fun h5=>?_)
 ·simp [ht] at h5
  cbv
  refine ak trv trv rfl rfl rfl ?_
  (simp [ol, *];done)
 simp [ht] at h5
 cbv
 refine ai (fun h6=>?_) (fun h6=>?_)
 ·simp [ht] at h6
  cbv
  refine ak trv trv rfl rfl rfl ?_
  (simp [ol, *];done)
 simp [ht] at h6
 cbv
 refine ak trv trv rfl rfl rfl ?_
 (simp only [ht,ol];grind)
def cmpL:List Int→List Int→Int
 |x::r,y::s=>if ol x y≠0 then ol x y else cmpL r s
 |_,_=>0
theorem KO (ht:TT t) {l m:List Int} {es fs:List (List D)} (aD:es=l.map Int.cells) (sN:fs=m.map Int.cells) (hlm:l.length=m.length) (hl:l.length<1000000000):
 FC 197 [SL es,SL fs] [] (.ret (mR (t _ fun _=>cmpL l m))) []:=by
 refine bA ht (aB:=[]) Tryz.func197 rfl rfl (N:=36) rfl rfl (n:=0) rfl rfl ?_
 cbv
 have av:es.length=l.length:=by rw [aD,lgM]
 have cK:fs.length=m.length:=by rw [sN,lgM]
 obtain ⟨J0,ee⟩:∃J0:Nat→Int→Prop,∀n i,J0 n i↔(∃k:Nat,i=k∧k+n=l.length∧l.length=m.length∧cmpL l m=cmpL (l.drop k) (m.drop k)):=⟨fun n v=>match v with|i=>(∃k:Nat,i=k∧k+n=l.length∧l.length=m.length∧cmpL l m=cmpL (l.drop k) (m.drop k)),fun _ _=>Iff.rfl⟩
 refine bg ⟨[0,1,9,10,11],[],[]⟩ (σ:=Int) (fun v=>[(11,.d (.int .i64 (t _ fun _=>v)))]) (fun v=>[]) J0 ?_
 cbv
 refine aC ⟨l.length,_,(ee _ _).2 ?_,by simp only [ht];rfl,?_⟩
 ·exact ⟨0,rfl,by simp,by omega,by simp⟩
 rintro n i hj
 replace hj:=(ee _ _).1 hj
 obtain ⟨k,rfl,j1,j2,j4⟩:=hj
 cbv
 refine ai (fun h1=>?_) (fun h1=>?_)
 ·simp [ht,aa,av] at h1
  cbv
  refine dS ht aD (cT:=Int.aK t) (by (simp only [ht,aa];omega)) (by (simp only [ht,aa];omega)) (fun _=>rfl) (fun _=>rfl) (fun x2 iC=>?_)
  simp [ht,aa] at iC
  rw [bV iC] at j4
  cbv
  refine ai (fun h3=>?_) (fun h3=>?_)
  ·simp [ht,aa,cK] at h3
   omega
  simp [ht,aa,cK] at h3
  cbv
  refine dS ht sN (cT:=Int.aK t) (by (simp only [ht,aa];omega)) (by (simp only [ht,aa];omega)) (fun _=>rfl) (fun _=>rfl) (fun x4 tg=>?_)
  simp [ht,aa] at tg
  rw [bV tg] at j4
  cbv
  refine ay trv (Wa ht _ _) trv rfl rfl (fun r5 jh=>?_)
  simp only [ht] at jh
  cbv
  refine ai (fun h6=>?_) (fun h6=>?_)
  ·simp [ht] at h6
   cbv
   refine ak trv trv rfl rfl rfl ?_
   (simp only [ht];rw [j4,cmpL,←jh,if_pos ‹_›];done)
  simp [ht] at h6
  cbv
  refine bu _ (by simp only [ht];rfl) (n-1) ?_ ((ee _ _).2 ?_)
  ·omega
  simp only [aa]
  exact ⟨k+1,aE (by omega),by omega,by omega,by rw [j4,cmpL,←jh,if_neg (by omega)]⟩
 simp [ht,aa,av] at h1
 cbv
 refine ai (fun h7=>?_) (fun h7=>?_)
 ·simp [ht,aa,av,cK] at h7
  omega
 simp [ht,aa,av,cK] at h7
 cbv
 refine ak trv trv rfl rfl rfl ?_
 (simp [ht,j4,List.drop_eq_nil_of_le (show l.length≤k by omega),cmpL];done)
theorem QO (a0 a1 a2 a3 b0 b1 b2 b3:Int):cmpL [a0,a1,a2,a3] [b0,b1,b2,b3]=tY ⟨a0,a1,a2,a3⟩ ⟨b0,b1,b2,b3⟩:=by
 simp only [cmpL,tY]
 by_cases h0:ol a0 b0=0<;>by_cases h1:ol a1 b1=0<;>by_cases h2:ol a2 b2=0<;>by_cases h3:ol a3 b3=0<;>simp [h0,h1,h2,h3]
theorem NK (ht:TT t) (a0 a1 a2 a3 b0 b1 b2 b3:Int):FC 159 [V4 a0 a1 a2 a3,V4 b0 b1 b2 b3] [] (.ret (mR (t _ fun _=>tY ⟨a0,a1,a2,a3⟩ ⟨b0,b1,b2,b3⟩))) []:=by
 obtain ⟨o,ho⟩:∃o,o=tY ⟨a0,a1,a2,a3⟩ ⟨b0,b1,b2,b3⟩:=⟨_,rfl⟩
 rw [←ho]
 refine bA ht (aB:=[]) Tryz.func159 rfl rfl (N:=8) rfl rfl (n:=0) rfl rfl ?_
 cbv
 (apply C4 [] (.more 0 (.one 1 (.one 2 (.one 3 .done))) (.one 1 (.one 0 (.one 2 (.one 3 .done)))));kernel_rfl;kernel_rfl;kernel_rfl;kernel_rfl;(next=>cbv;repeat (first|(refine aU trv (KO ht (l:=[a0,a1,a2,a3]) (m:=[b0,b1,b2,b3]) rfl rfl rfl (by simp)) trv rfl rfl rfl (fun r0 bF=>?_);simp only [ht,QO,←ho] at bF;subst r0;cbv)|refine And.intro ?_ ?_)))
 cbv
 refine ak trv trv rfl rfl rfl ?_
 (simp [ht];done)
theorem BH (ht:TT t) {l:List cw} {es:List (List D)} (aD:es=l.map cw.cells) (hl:l.length<1000000) (hlb:∀s∈l,s.labels.length<1000000000) {x:List Term} {xr:List (List D)} (E5:xr=x.map Term.cells) (hx:x.length<1000000000) (Fz:∀m∈x,m.fw.length<1000000000)
 {m c k:Nat} (hm:m=l.length) (hc:m≤c) {r:List (List D)} (hr:r=(fitting l x).map cw.cells) (hk:k=r.length) {rz:List (List D)} (UQ:rz=r++List.replicate (m-k) [.str [],.int .u64 0,.int .u64 0,.int .u64 0,.int .u64 0,.sl []]):
 FC 155 [.vw 0 6 0 m c true,.fn 157 [.ep [.sl xr]]] [.row 6 es] (.ret (.vw 0 6 0 k c true)) [.row 6 rz]:=
 KG ht xr aD hm hc 157 (fun s=>!wR x s.labels) (by omega) (fun s hs=>KH ht _ _ _ _ _ rfl (hlb s hs) E5 hx Fz rfl) (by rw [hr,fitting];simp) hk UQ
theorem Tx {r z:List (List D)} {k:Nat} (hk:k=r.length):r=(r++z).take k:=by rw [hk,List.take_left]
theorem KP (ht:TT t) {l:List cw} {es:List (List D)} (aD:es=l.map cw.cells) (hl:l.length<1000000) (hlb:∀s∈l,s.labels.length<1000000000) {x:List Term} {xr:List (List D)} (E5:xr=x.map Term.cells) (hx:x.length<1000000000) (Fz:∀m∈x,m.fw.length<1000000000)
 (h0:fitting l x=[]):FC 100 [SL es,SL xr] [] (.ret (SL [])) []:=by
 obtain ⟨m,hm⟩:∃m,m=l.length:=⟨_,rfl⟩
 have hel:m=es.length:=by rw [aD,lgM,hm]
 have hrows:∀r∈es,r.length=6:=by rw [aD];intro r hr;obtain ⟨y,_,rfl⟩:=List.mem_map.1 hr;rfl
 have hD:FC 155 [.ow 1 6 m,.fn 157 [.ptr 0 0]] [.var [SL xr],.row 6 es] (.ret (SL [])) [.dead,.dead]:=
  BF rfl rfl rfl<|fE [1] rfl rfl rfl rfl<|fF fun c hc _=>KF rfl (by simp) (by simp) rfl (BH ht aD hl hlb E5 hx Fz hm hc (r:=[]) (by rw [h0];rfl) (k:=0) rfl rfl)
 refine bA ht (aB:=[]) Tryz.func100 rfl rfl (N:=9) rfl rfl (n:=0) rfl rfl ?_
 cbv
 refine pQ trv (yL ht hrows (by omega) hel) trv rfl (.inr rfl) ?_
 cbv
 refine de trv hD ?_
 cbv
 refine ak trv trv rfl rfl rfl ?_
 simp
theorem NL (ht:TT t) {l:List cw} {es:List (List D)} (aD:es=l.map cw.cells) (hl:l.length<1000000) (hlb:∀s∈l,s.labels.length<1000000000) {x:List Term} {xr:List (List D)} (E5:xr=x.map Term.cells) (hx:x.length<1000000000) (Fz:∀m∈x,m.fw.length<1000000000)
 {r:List (List D)} (hr:r=(fitting l x).map cw.cells) {k:Nat} (hk:k=r.length) (h0:0<k):FC 100 [SL es,SL xr] [] (.ret (.ow 0 6 k)) [.row 6 r]:=by
 obtain ⟨m,hm⟩:∃m,m=l.length:=⟨_,rfl⟩
 have hel:m=es.length:=by rw [aD,lgM,hm]
 have hrows:∀r∈es,r.length=6:=by rw [aD];intro r hr;obtain ⟨y,_,rfl⟩:=List.mem_map.1 hr;rfl
 obtain ⟨rz,UQ⟩:∃rz,rz=r++List.replicate (m-k) [.str [],.int .u64 0,.int .u64 0,.int .u64 0,.int .u64 0,.sl []]:=⟨_,rfl⟩
 have hD:FC 155 [.ow 1 6 m,.fn 157 [.ptr 0 0]] [.var [SL xr],.row 6 es] (.ret (.ow 1 6 k)) [.dead,.row 6 r]:=
  BF rfl rfl rfl<|fE [1] rfl rfl rfl rfl<|fF fun c hc _=>KE h0 rfl (by rw [UQ,hk];simp) (by rw [UQ];exact Tx hk) rfl (BH ht aD hl hlb E5 hx Fz hm hc hr hk UQ)
 refine bA ht (aB:=[]) Tryz.func100 rfl rfl (N:=9) rfl rfl (n:=0) rfl rfl ?_
 cbv
 refine pQ trv (yL ht hrows (by omega) hel) trv rfl (.inr rfl) ?_
 cbv
 refine de trv hD ?_
 cbv
 exact EB trv rfl rfl rfl rfl rfl rfl
theorem Mi {x:cw} {v:bz} {B C:Hu} {r:bz×Bool} {o:Int} (er:r=fY x.free v) (eo:o=tY r.1 B.left) (h:r.2=true→B.ok=true∧0≤o):
 (if (fY x.free v).2&&(!B.ok||decide (tY (fY x.free v).1 B.left<0)) then C else B)=B:=by
 rw [←er,←eo,if_neg]
 intro g
 simp only [Bool.and_eq_true,Bool.or_eq_true,Bool.not_eq_true',decide_eq_true_eq] at g
 obtain ⟨g1,g2⟩:=g
 obtain ⟨g3,g4⟩:=h g1
 rcases g2 with g2|g2
 ·rw [g3] at g2;cases g2
 omega
def Yz (r:Hu):AV:=.dA [bc r.at_,V4 r.left.a r.left.b r.left.c r.left.d,BL r.ok]
theorem Mj (ht:TT t) (d1 d2 d3 d4:Int) {l:List cw} {es:List (List D)} (aD:es=l.map cw.cells) (hl:l.length<1000000):
 FC 101 [SL es,V4 d1 d2 d3 d4] [] (.ret (Yz (t _ fun _=>best l ⟨d1,d2,d3,d4⟩))) []:=by
 refine bA ht (aB:=[]) Tryz.func101 rfl rfl (N:=42) rfl rfl (n:=0) rfl rfl ?_
 cbv
 have av:es.length=l.length:=by rw [aD,lgM]
 obtain ⟨J0,ee⟩:∃J0:Nat→Int×Bool×Int×Int×Int×Int×Int→Prop,∀n A K i a b c d,J0 n (A,K,i,a,b,c,d)↔(∃(k:Nat) (B:Hu),i=k∧k+n=l.length∧A=B.at_∧K=B.ok∧a=B.left.a∧b=B.left.b∧c=B.left.c∧d=B.left.d∧best l ⟨d1,d2,d3,d4⟩=vC ⟨d1,d2,d3,d4⟩ (l.drop k) k B):=⟨fun n v=>match v with|(A,K,i,a,b,c,d)=>(∃(k:Nat) (B:Hu),i=k∧k+n=l.length∧A=B.at_∧K=B.ok∧a=B.left.a∧b=B.left.b∧c=B.left.c∧d=B.left.d∧best l ⟨d1,d2,d3,d4⟩=vC ⟨d1,d2,d3,d4⟩ (l.drop k) k B),fun _ _ _ _ _ _ _ _=>Iff.rfl⟩
 refine bg ⟨[0,3,4,5,6,11,12],[],[]⟩ (σ:=Int×Bool×Int×Int×Int×Int×Int) (fun v=>[(4,.d (.int .i64 (t _ fun _=>v.1))),(6,.d (.bool (t _ fun _=>v.2.1))),(12,.d (.int .i64 (t _ fun _=>v.2.2.1)))]) (fun v=>[(1,.var [.d (.int .u64 (t _ fun _=>v.2.2.2.1)),.d (.int .u64 (t _ fun _=>v.2.2.2.2.1)),.d (.int .u64 (t _ fun _=>v.2.2.2.2.2.1)),.d (.int .u64 (t _ fun _=>v.2.2.2.2.2.2))])]) J0 ?_
 cbv
 refine aC ⟨l.length,(_,_,_,_,_,_,_),(ee _ _ _ _ _ _ _ _).2 ?_,by simp only [ht];rfl,?_⟩
 ·exact ⟨0,⟨0,bz.zero,false⟩,rfl,by simp,rfl,rfl,rfl,rfl,rfl,rfl,rfl⟩
 rintro n ⟨A,K,i,a,b,c,d⟩ hj
 replace hj:=(ee _ _ _ _ _ _ _ _).1 hj
 obtain ⟨k,⟨q1,⟨q2,q3,q4,q5⟩,q6⟩,rfl,j1,rfl,rfl,rfl,rfl,rfl,rfl,j4⟩:=hj
 cbv
 refine ai (fun h1=>?_) (fun h1=>?_)
 ·simp [ht,aa,av] at h1
  cbv
  refine yh [0,1] [0,1,7,8,9] [false,false,false,false,false,false,false,false,false,false,false,true,true] (by kernel_rfl) (by kernel_rfl) (by kernel_rfl) (by kernel_rfl) (by kernel_rfl) (by kernel_rfl) ?_
  cbv
  iterate 2 refine gI (by simp) ?_
  refine dS ht aD (cT:=cw.aK t) (by (simp only [ht,aa];omega)) (by (simp only [ht,aa];omega)) (fun _=>rfl) (fun _=>(by (simp only [ht,cw.aK];rfl))) (fun x2 iC=>?_)
  simp [ht,aa] at iC
  rw [bV iC,vC] at j4
  cbv
  iterate 3 refine gI (by simp) ?_
  refine .inl ?_
  refine aJ (fun g3=>⟨trv,trv,Tv ht _ _ _ _ _ _ _ _⟩) rfl rfl (fun r4 dV=>?_)
  simp only [ht] at dV
  cbv
  iterate 6 refine gI (by simp) ?_
  iterate 2 refine gI (by simp [ht]) ?_
  refine aJ (fun g5=>⟨by simp [ht] at g5 ⊢;exact g5,trv,NK ht _ _ _ _ _ _ _ _⟩) rfl rfl (fun r6 gk=>?_)
  simp only [ht] at gk
  cbv
  refine gI (by simp [ht]) ?_
  refine gI (by simp [ht,bq];intros;simp_all) ?_
  refine pI (by simp) ?_
  refine ai (fun h7=>?_) (fun h7=>?_)
  ·simp [ht] at h7
   cbv
   refine bS [false,false,false,true,true] (by kernel_rfl) (by kernel_rfl) ?_
   cbv
   iterate 3 refine gI (by simp) ?_
   refine bu (_,_,_,_,_,_,_) (by simp only [ht];rfl) (n-1) ?_ ((ee _ _ _ _ _ _ _ _).2 ?_)
   ·omega
   simp only [aa]
   first|exact ⟨k+1,⟨k,_,true⟩,aE (by omega),by omega,rfl,rfl,rfl,rfl,rfl,rfl,by rw [j4];congr 1;simp_all⟩|exact ⟨k+1,⟨q1,⟨a,b,c,d⟩,K⟩,aE (by ((try simp only [aa] at*);omega)),by ((try simp only [aa] at*);omega),rfl,rfl,rfl,rfl,rfl,rfl,by rw [j4,Mi (B:=⟨q1,⟨a,b,c,d⟩,K⟩) dV gk h7]⟩
  simp [ht] at h7
  cbv
  refine bu (_,_,_,_,_,_,_) (by simp only [ht];rfl) (n-1) ?_ ((ee _ _ _ _ _ _ _ _).2 ?_)
  ·omega
  simp only [aa]
  first|exact ⟨k+1,⟨k,_,true⟩,aE (by omega),by omega,rfl,rfl,rfl,rfl,rfl,rfl,by rw [j4];congr 1;simp_all⟩|exact ⟨k+1,⟨q1,⟨a,b,c,d⟩,K⟩,aE (by omega),by omega,rfl,rfl,rfl,rfl,rfl,rfl,by rw [j4,Mi (B:=⟨q1,⟨a,b,c,d⟩,K⟩) dV gk h7]⟩
 simp [ht,aa,av] at h1
 cbv
 refine Py [0,2] [false,false,false,false,true,true] (by kernel_rfl) (by kernel_rfl) (by kernel_rfl) (by kernel_rfl) (by kernel_rfl) ?_
 cbv
 iterate 4 refine gI (by simp) ?_
 refine ak trv trv rfl rfl rfl ?_
 (rw [List.drop_eq_nil_of_le (by omega),vC] at j4;simp only [ht,j4];rfl)
theorem Il {v:bz} {n:Nat} {l:List cw} {out:List aA} (h:0<n):wS v n l out=if !(best l v).ok then ([],false) else
 wS v (n-1) (l.set (best l v).at_ {l.getD (best l v).at_ default with free:=(best l v).left}) (out++[(l.getD (best l v).at_ default).node]):=by
 obtain ⟨n',rfl⟩:∃n',n=n'+1:=⟨n-1,by omega⟩
 rfl
theorem Im {v:bz}:∀(l:List cw) (k:Nat) (b:Hu),(b.ok=true→b.at_<k)→(vC v l k b).ok=true→(vC v l k b).at_<k+l.length
 |[],k,b,h,g=>h g
 |s::r,k,b,h,g=>by
  rw [vC] at g ⊢
  have:=Im r (k+1) _ (by
   intro g2
   split
   ·show k<k+1;omega
   rename_i hh;rw [if_neg hh] at g2;have:=h g2;omega) g
  simp only [List.length_cons];omega
theorem Ty {v:bz} {l:List cw} (h:(best l v).ok=true):(best l v).at_<l.length:=by
 have:=Im l 0 _ (by simp) h
 simpa [best] using this
theorem Mk {l:List cw} {x:List Term} {v:bz} {c:Int} (h:8<c):fit l x v c=([],false):=by rw [fit,if_pos h]
theorem Fc {l L:List cw} {x:List Term} {v:bz} {c:Int} {m:Nat} (h:c≤8) (hm:(m:Int)=max c 0) (hL:L=fitting l x):fit l x v c=wS v m L []:=by
 rw [fit,if_neg (by omega),hL];congr 1;omega
theorem QR {cur:List cw} {y:cw} {i:Nat} {u:List (List D)} (ju:u=cur.map cw.cells) (hy:cur[i]?=some y) (v:bz):
 u.set i (bG (u.getD i []) 1 [.int .u64 v.a,.int .u64 v.b,.int .u64 v.c,.int .u64 v.d])=(cur.set i {y with free:=v}).map cw.cells:=by
 rw [List.map_set,ju];congr 1
 simp [List.getD_eq_getElem?_getD,hy,cw.cells,bG]
def Wb (t:Th) (r:List aA×Bool):AV:=.dA [SL (t _ fun _=>r.1.map aV),BL r.2]
theorem Tz (ht:TT t) (d1 d2 d3 d4 c:Int) {l:List cw} {es:List (List D)} (aD:es=l.map cw.cells) (hl:l.length<1000000) (hlb:∀s∈l,s.labels.length<1000000000) {x:List Term} {xr:List (List D)} (E5:xr=x.map Term.cells) (hx:x.length<1000000000) (Fz:∀m∈x,m.fw.length<1000000000)
 (h0:fitting l x≠[]):FC 37 [SL es,SL xr,V4 d1 d2 d3 d4,bc c] [] (.ret (Wb t (t _ fun _=>fit l x ⟨d1,d2,d3,d4⟩ c))) []:=by
 obtain ⟨L,hL⟩:∃L,L=fitting l x:=⟨_,rfl⟩
 have IU:L.length<1000000:=by rw [hL];exact Nat.lt_of_le_of_lt (List.length_filter_le _ _) hl
 obtain ⟨r,hr⟩:∃r,r=L.map cw.cells:=⟨_,rfl⟩
 obtain ⟨k,hk⟩:∃k,k=r.length:=⟨_,rfl⟩
 have hkL:k=L.length:=by rw [hk,hr,lgM]
 have hk0:0<k:=by rw [hkL,hL];exact List.length_pos_iff.2 h0
 obtain ⟨m,hm⟩:∃m:Nat,(m:Int)=max c 0:=⟨(max c 0).toNat,by omega⟩
 refine bA ht (aB:=[]) Tryz.func37 rfl rfl (N:=47) rfl rfl (n:=0) rfl rfl ?_
 cbv
 have av:es.length=l.length:=by rw [aD,lgM]
 have KB:xr.length=x.length:=by rw [E5,lgM]
 have aci:r.length=L.length:=by rw [hr,lgM]
 refine ai (fun h0=>?_) (fun h0=>?_)
 ·simp [ht] at h0
  cbv
  refine ak trv trv rfl rfl rfl ?_
  (simp only [ht];rw [Mk ‹_›];rfl)
 simp [ht] at h0
 cbv
 (refine pQ trv (NL ht aD hl hlb E5 hx Fz (hL▸hr) hk hk0) trv rfl (.inr rfl) ?_)
 cbv
 obtain ⟨J1,gj⟩:∃J1:Nat→List (List D)×Int×List (List D)→Prop,∀n o i u,J1 n (o,i,u)↔(∃(q:Nat) (cur:List cw) (out:List aA),i=q∧q+n=m∧u=cur.map cw.cells∧o=out.map aV∧cur.length=k∧out.length=q∧wS ⟨d1,d2,d3,d4⟩ m L []=wS ⟨d1,d2,d3,d4⟩ n cur out):=⟨fun n v=>match v with|(o,i,u)=>(∃(q:Nat) (cur:List cw) (out:List aA),i=q∧q+n=m∧u=cur.map cw.cells∧o=out.map aV∧cur.length=k∧out.length=q∧wS ⟨d1,d2,d3,d4⟩ m L []=wS ⟨d1,d2,d3,d4⟩ n cur out),fun _ _ _ _=>Iff.rfl⟩
 refine bg ⟨[0,6,10,20,21],[(10,1)],[]⟩ (σ:=List (List D)×Int×List (List D)) (fun v=>[(10,.ow 2 1 (t _ fun _=>(v.1).length)),(21,.d (.int .i64 (t _ fun _=>v.2.1)))]) (fun v=>[(2,.row 1 (t _ fun _=>v.1)),(0,.row 6 (t _ fun _=>v.2.2))]) J1 ?_
 cbv
 refine aC ⟨m,([],_,_),(gj _ _ _ _).2 ?_,by simp only [ht];rfl,?_⟩
 ·exact ⟨0,L,[],rfl,by simp,hr,rfl,hkL.symm,rfl,rfl⟩
 rintro n ⟨o,i,u⟩ hj
 replace hj:=(gj _ _ _ _).1 hj
 obtain ⟨q,cur,out,rfl,j1,ju,jo,j2,j3,j4⟩:=hj
 have Mb:u.length=cur.length:=by rw [ju,lgM]
 have tj:o.length=out.length:=by rw [jo,lgM]
 cbv
 refine ai (fun h2=>?_) (fun h2=>?_)
 ·simp [ht,aa] at h2
  cbv
  (refine ay trv (Mj ht _ _ _ _ (l:=cur) (by simp only [ht];exact ju) (by omega)) (by simp only [ht];exact ⟨by rw [ju,lgM];exact j2.symm,trv⟩) rfl rfl (fun rb UR=>?_);simp only [ht] at UR;rw [Il (show 0<n by ((try simp only [aa] at*);omega)),←UR] at j4;have hlt:rb.ok=true→rb.at_<cur.length:=fun g=>by rw [UR] at g ⊢;exact Ty g)
  cbv
  refine ai (fun h3=>?_) (fun h3=>?_)
  ·simp [ht] at h3
   cbv
   refine ak trv trv rfl rfl rfl ?_
   (simp only [ht];rw [Fc ‹_› hm hL,j4,h3];rfl)
  simp [ht] at h3
  cbv
  refine ⟨?_,?_⟩
  ·(simp only [ht];have YA:rb.at_<cur.length:=hlt ‹_›;exact ⟨Int.natCast_nonneg _,by rw [←j2];exact Int.ofNat_lt.2 YA⟩)
  cbv
  (have G5:=hlt ‹_›;obtain ⟨y,hy⟩:∃y,cur[rb.at_]?=some y:=⟨_,List.getElem?_eq_getElem G5⟩;have hyd:cur.getD rb.at_ default=y:=(by simp [List.getD_eq_getElem?_getD,hy]);rw [hyd] at j4;refine Vx (cw.aK t y) (by simp only [ht];rw [ju,lgM];exact G5) (by simp only [ht];rw [ju];simp [List.getD_eq_getElem?_getD,hy,cw.cells,cw.aK,ht]) ?_)
  cbv
  refine ⟨?_,?_⟩
  ·(simp only [ht];grind)
  refine ⟨?_,?_⟩
  ·(simp only [ht];have YA:rb.at_<cur.length:=hlt ‹_›;exact ⟨Int.natCast_nonneg _,by rw [←j2];exact Int.ofNat_lt.2 YA⟩)
  refine ⟨?_,?_⟩
  ·(simp only [ht];rw [ju,lgM];refine ⟨G5,?_⟩;simp [List.getD_eq_getElem?_getD,hy,cw.cells];done)
  cbv
  refine bu (_,_,_) (by simp only [ht,←List.length_append];rfl) (n-1) ?_ ((gj _ _ _ _).2 ?_)
  ·((try simp only [aa] at*);omega)
  simp only [aa]
  (exact ⟨q+1,cur.set rb.at_ {y with free:=rb.left},out++[y.node],aE (by ((try simp only [aa] at*);omega)),by ((try simp only [aa] at*);omega),QR ju hy _,by simp [jo],by simp [j2],by simp [j3],by rw [j4,h3];rfl⟩)
 simp [ht,aa] at h2
 cbv
 refine ak trv (by simp [ht]) rfl rfl rfl ?_
 (simp only [ht];rw [Fc ‹_› hm hL,j4,show n=0 by ((try simp only [aa] at*);omega)];simp [wS,jo];done)
theorem TA (ht:TT t) (d1 d2 d3 d4 c:Int) {l:List cw} {es:List (List D)} (aD:es=l.map cw.cells) (hl:l.length<1000000) (hlb:∀s∈l,s.labels.length<1000000000) {x:List Term} {xr:List (List D)} (E5:xr=x.map Term.cells) (hx:x.length<1000000000) (Fz:∀m∈x,m.fw.length<1000000000)
 (h9:fitting l x=[]):FC 37 [SL es,SL xr,V4 d1 d2 d3 d4,bc c] [] (.ret (Wb t (t _ fun _=>fit l x ⟨d1,d2,d3,d4⟩ c))) []:=by
 obtain ⟨m,hm⟩:∃m:Nat,(m:Int)=max c 0:=⟨(max c 0).toNat,by omega⟩
 refine bA ht (aB:=[]) Tryz.func37 rfl rfl (N:=47) rfl rfl (n:=0) rfl rfl ?_
 cbv
 have av:es.length=l.length:=by rw [aD,lgM]
 have KB:xr.length=x.length:=by rw [E5,lgM]
 refine ai (fun h0=>?_) (fun h0=>?_)
 ·simp [ht] at h0
  cbv
  refine ak trv trv rfl rfl rfl ?_
  (simp only [ht];rw [Mk ‹_›];rfl)
 simp [ht] at h0
 cbv
 (refine GZ trv (KP ht aD hl hlb E5 hx Fz h9) trv rfl rfl rfl ?_)
 cbv
 obtain ⟨J1,gj⟩:∃J1:Nat→List (List D)×Int→Prop,∀n o i,J1 n (o,i)↔(i=0∧n=m∧o=[]):=⟨fun n v=>match v with|(o,i)=>(i=0∧n=m∧o=[]),fun _ _ _=>Iff.rfl⟩
 refine bg ⟨[0,6,10,20,21],[(10,1)],[]⟩ (σ:=List (List D)×Int) (fun v=>[(10,.ow 1 1 (t _ fun _=>(v.1).length)),(21,.d (.int .i64 (t _ fun _=>v.2)))]) (fun v=>[(1,.row 1 (t _ fun _=>v.1))]) J1 ?_
 cbv
 refine aC ⟨m,([],_),(gj _ _ _).2 ?_,by simp only [ht];rfl,?_⟩
 ·exact ⟨rfl,rfl,rfl⟩
 rintro n ⟨o,i⟩ hj
 replace hj:=(gj _ _ _).1 hj
 obtain ⟨rfl,j1,rfl⟩:=hj
 cbv
 refine ai (fun h2=>?_) (fun h2=>?_)
 ·simp [ht] at h2
  cbv
  (refine ay trv (Mj ht _ _ _ _ (l:=[]) rfl (by simp)) (by simp) rfl rfl (fun rb UR=>?_);simp only [ht] at UR;replace UR:rb=⟨0,bz.zero,false⟩:=UR;subst UR)
  cbv
  refine ai (fun h3=>?_) (fun h3=>?_)
  ·simp [ht] at h3
   cbv
   refine ak trv trv rfl rfl rfl ?_
   (simp only [ht];rw [Fc ‹_› hm h9.symm,Il (show 0<m by ((try simp only [aa] at*);omega))];rfl)
  simp [ht] at h3
 simp [ht] at h2
 cbv
 refine ak trv (by simp [ht]) rfl rfl rfl ?_
 (simp only [ht];rw [Fc ‹_› hm h9.symm,show m=0 by ((try simp only [aa] at*);omega)];rfl)
theorem Fe (ht:TT t) (d1 d2 d3 d4 c:Int) {l:List cw} {es:List (List D)} (aD:es=l.map cw.cells) (hl:l.length<1000000) (hlb:∀s∈l,s.labels.length<1000000000) {x:List Term} {xr:List (List D)} (E5:xr=x.map Term.cells) (hx:x.length<1000000000) (Fz:∀m∈x,m.fw.length<1000000000):
 FC 37 [SL es,SL xr,V4 d1 d2 d3 d4,bc c] [] (.ret (Wb t (t _ fun _=>fit l x ⟨d1,d2,d3,d4⟩ c))) []:=by
 by_cases h9:fitting l x=[]
 ·exact TA ht d1 d2 d3 d4 c aD hl hlb E5 hx Fz h9
 exact Tz ht d1 d2 d3 d4 c aD hl hlb E5 hx Fz h9
theorem tm8 (a:Nat):(a:Int).tmod 8=((a%8:Nat):Int):=by rw [Int.tmod_eq_emod_of_nonneg (by omega)];rfl
theorem aaP (a:Nat):(a:Int).tmod 12=((a%12:Nat):Int):=by rw [Int.tmod_eq_emod_of_nonneg (by omega)];rfl
theorem Xd (a:Nat):(a:Int).tmod 5=((a%5:Nat):Int):=by rw [Int.tmod_eq_emod_of_nonneg (by omega)];rfl
theorem Zp (a:Nat):(a:Int).tmod 4=((a%4:Nat):Int):=by rw [Int.tmod_eq_emod_of_nonneg (by omega)];rfl
theorem tm3 (a:Nat):(a:Int).tmod 3=((a%3:Nat):Int):=by rw [Int.tmod_eq_emod_of_nonneg (by omega)];rfl
theorem tm2 (a:Nat):(a:Int).tmod 2=((a%2:Nat):Int):=by rw [Int.tmod_eq_emod_of_nonneg (by omega)];rfl
theorem td5 (a:Nat):(a:Int).tdiv 5=((a / 5:Nat):Int):=by rw [Int.tdiv_eq_ediv_of_nonneg (by omega)];rfl
theorem aaQ (a:Nat):(a:Int).tdiv 25=((a / 25:Nat):Int):=by rw [Int.tdiv_eq_ediv_of_nonneg (by omega)];rfl
theorem td3 (a:Nat):(a:Int).tdiv 3=((a / 3:Nat):Int):=by rw [Int.tdiv_eq_ediv_of_nonneg (by omega)];rfl
theorem wu8 (a:Nat) (h:a<256):IntKind.u8.wrap (a:Int)=(a:Int):=by simp only [IntKind.wrap];simp [IntKind.bits,IntKind.signed];omega
theorem TB (a:Nat) (h:a<256):IntKind.u64.wrap (a:Int)=(a:Int):=by simp only [IntKind.wrap];simp [IntKind.bits,IntKind.signed];omega
theorem QS (a:Nat) (h:a<1000000000):IntKind.i64.wrap (a:Int)=(a:Int):=wrap64 (by omega) (by omega)
def aaS (t:Th) (x:Ask):AV:=.agg [ST x.path,ax x.fZ.a,ax x.fZ.b,ax x.fZ.c,ax x.fZ.d,bc x.count,bc x.prio,bc x.dO,SL (t _ fun _=>x.bX.map Term.cells)]
abbrev U8 (x:Int):AV:=.d (.int .u8 x)
def Ff:List (List D):=[[D.str [97]],[D.str [97,47,98]],[D.str [98]],[D.str [206,177,206,178]]]
theorem QT (k:Nat):(0≤((k%4:Nat):Int))∧((k%4:Nat):Int)<Ff.length∧∀r,r∈Ff→r.length=1:=by
 refine ⟨by omega,?_,by decide+revert⟩
 show ((k%4:Nat):Int)<(4:Nat)
 omega
theorem QU (k:Nat):Ff.getD ((k%4:Nat):Int).toNat []=[D.str (Bs.getD (k%4) [])]:=by
 have:∀k<4,Ff.getD ((k:Nat):Int).toNat []=[D.str (Bs.getD k [])]
  |0,_=>rfl
  |1,_=>rfl
  |2,_=>rfl
  |3,_=>rfl
  |k+4,h=>by omega
 exact this _ (Nat.mod_lt _ (by decide))
theorem Fg (ht:TT t) (k a b c d:Int) (x:iu) (hx:x.u) (hk:k=x.kind) (ha:a=x.a) (hb:b=x.b) (hc:c=x.c) (hd:d=x.d):
 FC 36 [.agg [U8 k,U8 a,U8 b,U8 c,U8 d]] [] (.ret (aaS t (t _ fun _=>Bt x))) []:=by
 obtain ⟨u1,u2,u3,u4,u5⟩:=hx
 obtain ⟨nm,hnm⟩:∃nm,nm=Bs.getD (x.a%4) []:=⟨_,rfl⟩
 have w1:IntKind.u64.wrap (b.tmod 5)=((x.b%5:Nat):Int):=by rw [hb,Xd,TB _ (by omega)]
 have w2:IntKind.u64.wrap ((IntKind.u8.wrap (b.tdiv 5)).tmod 5)=((x.b / 5%5:Nat):Int):=by rw [hb,td5,wu8 _ (by omega),Xd,TB _ (by omega)]
 have w3:IntKind.u64.wrap ((IntKind.u8.wrap (b.tdiv 25)).tmod 3)=((x.b / 25%3:Nat):Int):=by rw [hb,aaQ,wu8 _ (by omega),tm3,TB _ (by omega)]
 have w4:IntKind.i64.wrap (1+IntKind.i64.wrap (c.tmod 3))=((1+x.c%3:Nat):Int):=by rw [hc,tm3,QS _ (by omega),show (1:Int)+((x.c%3:Nat):Int)=((1+x.c%3:Nat):Int) by omega,QS _ (by omega)]
 have w5:IntKind.i64.wrap ((IntKind.u8.wrap (c.tdiv 3)).tmod 4)=((x.c / 3%4:Nat):Int):=by rw [hc,td3,wu8 _ (by omega),Zp,QS _ (by omega)]
 have w6:IntKind.i64.wrap (1+IntKind.i64.wrap (d.tmod 5))=((1+x.d%5:Nat):Int):=by rw [hd,Xd,QS _ (by omega),show (1:Int)+((x.d%5:Nat):Int)=((1+x.d%5:Nat):Int) by omega,QS _ (by omega)]
 have w7:decide (d.tmod 2=1)=decide (x.d%2=1):=by rw [decide_eq_decide,hd,tm2];omega
 refine bA ht (aB:=[]) Tryz.func36 rfl rfl (N:=53) rfl rfl (n:=0) rfl rfl ?_
 cbv
 refine bS [false,false,false,false,false,false,false,false,false,false,false,false,false,false,false,false,false,false,false,false,false,false,false,false,false,false,false,false,false,false,false,false,false,false,false,false,false,false,true] (by kernel_rfl) (by kernel_rfl) ?_
 cbv
 iterate 3 refine gI (by simp) ?_
 refine gI (by simp [ht]) ?_
 (refine iq [.str nm] (by simp only [ht,ha,Zp];exact QT x.a) (by simp only [ht,ha,Zp];rw [hnm];exact QU x.a) ?_)
 cbv
 iterate 3 refine gI (by simp) ?_
 refine gI (by simp [ht]) ?_
 iterate 3 refine gI (by simp) ?_
 iterate 2 refine gI (by simp [ht]) ?_
 iterate 3 refine gI (by simp) ?_
 iterate 2 refine gI (by simp [ht]) ?_
 iterate 4 refine gI (by simp) ?_
 refine gI (by simp [ht]) ?_
 iterate 4 refine gI (by simp) ?_
 iterate 2 refine gI (by simp [ht]) ?_
 iterate 3 refine gI (by simp) ?_
 refine gI (by simp [ht]) ?_
 iterate 3 refine gI (by simp) ?_
 refine ai (fun h0=>?_) (fun h0=>?_)
 ·simp [ht] at h0
  cbv
  refine ⟨?_,?_⟩
  ·(simp only [ht,aa] at*;omega)
  cbv
  refine ak trv trv rfl rfl rfl ?_
  (simp only [ht,w1,w2,w3,w4,w5,w6,w7,hnm,Bt];rw [if_pos (show 200<x.d by ((try simp only [aa] at*);omega))];rfl)
 simp [ht] at h0
 cbv
 refine ak trv trv rfl rfl rfl ?_
 (simp only [ht,w1,w2,w3,w4,w5,w6,hnm,Bt];rw [if_neg (show ¬200<x.d by ((try simp only [aa] at*);omega))];rfl)
def cF.aK (_:Th) (n:cF):List D:=[.int .u64 n.round,.int .u64 n.id,.int .i64 n.kind]
theorem Wc {x y:cF}:x=y↔x.round=y.round∧x.id=y.id∧x.kind=y.kind:=by cases x;cases y;simp
def QV (t:Th) (x:sL):AV:=.agg [ax x.first,SL (t _ fun _=>x.l.map cF.cells)]
def YC (t:Th) (r:List cF×Int):AV:=.dA [SL (t _ fun _=>r.1.map cF.cells),ax r.2]
theorem BI (ht:TT t) {es:List (List D)} (hr:∀r∈es,r.length=3):FC 33 [SL es] [] (.ret (.cl es)) []:=by
 refine bA ht (aB:=[]) Tryz.func33 rfl rfl (N:=9) rfl rfl (n:=0) rfl rfl ?_
 cbv
 refine ⟨?_,PO trv rfl ?_⟩
 ·simp only [ht,aa,bQ];exact ⟨⟨⟨by omega,Int.le_refl _⟩,trv⟩,hr⟩
 simp [ht,aa,fX]
theorem TC (ht:TT t) (first f:Int) {l:List cF} {es:List (List D)} (aD:es=l.map cF.cells) (hl:l.length<1000000000):
 FC 11 [.agg [ax first,SL es],ax f] [] (.ret (YC t (t _ fun _=>Hy ⟨first,l⟩ f))) []:=by
 refine bA ht (aB:=[]) Tryz.func11 rfl rfl (N:=43) rfl rfl (n:=0) rfl rfl ?_
 cbv
 have av:es.length=l.length:=by rw [aD,lgM]
 obtain ⟨J0,ee⟩:∃J0:Nat→List (List D)×Int×Int→Prop,∀n o nx i,J0 n (o,nx,i)↔(∃(k:Nat) (rs:List cF),i=k∧k+n=l.length∧o=rs.map cF.cells∧rs.length≤k∧Hy ⟨first,l⟩ f=Dq first f (l.drop k) k (rs,nx)):=⟨fun n v=>match v with|(o,nx,i)=>(∃(k:Nat) (rs:List cF),i=k∧k+n=l.length∧o=rs.map cF.cells∧rs.length≤k∧Hy ⟨first,l⟩ f=Dq first f (l.drop k) k (rs,nx)),fun _ _ _ _=>Iff.rfl⟩
 refine bg ⟨[1,2,4,5,14,15,16],[(4,3)],[]⟩ (σ:=List (List D)×Int×Int) (fun v=>[(4,.ow 1 3 (t _ fun _=>(v.1).length)),(5,.d (.int .u64 (t _ fun _=>v.2.1))),(16,.d (.int .i64 (t _ fun _=>v.2.2)))]) (fun v=>[(1,.row 3 (t _ fun _=>v.1))]) J0 ?_
 cbv
 refine aC ⟨l.length,([],_,_),(ee _ _ _ _).2 ?_,by simp only [ht];rfl,?_⟩
 ·exact ⟨0,[],rfl,by simp,rfl,by simp,rfl⟩
 rintro n ⟨o,nx,i⟩ hj
 replace hj:=(ee _ _ _ _).1 hj
 obtain ⟨k,rs,rfl,j1,j2,j3,j4⟩:=hj
 have tj:o.length=rs.length:=by rw [j2,lgM]
 have Zq:IntKind.u64.wrap (k:Int)=(k:Int):=by rw [bI];omega
 cbv
 refine ai (fun h1=>?_) (fun h1=>?_)
 ·simp [ht,aa,av] at h1
  cbv
  refine dS ht aD (cT:=cF.aK t) (by (simp only [ht,aa];omega)) (by (simp only [ht,aa];omega)) (fun _=>rfl) (fun _=>rfl) (fun x2 iC=>?_)
  simp [ht,aa] at iC
  rw [bV iC,Dq] at j4
  simp only [u64,←bI] at j4
  cbv
  iterate 3 refine gI (by simp [ht]) ?_
  refine pI (by simp [ht]) ?_
  refine ai (fun h3=>?_) (fun h3=>?_)
  ·simp [ht,aa,tj] at h3
   cbv
   refine ⟨?_,?_⟩
   ·(simp only [ht,true_and];exact AY j2 (fun _=>rfl) rfl (by omega) (by decide))
   cbv
   refine bu (_,_,_) (by simp only [ht,←List.length_append];rfl) (n-1) ?_ ((ee _ _ _ _).2 ?_)
   ·omega
   simp only [aa]
   (simp only [aa] at h3 Zq j4 ⊢;rw [Zq] at h3 ⊢;rw [if_pos (by simp;omega)] at j4;exact ⟨k+1,rs++[x2],aE (by omega),by omega,by rw [j2];simp [cF.cells],by simp;omega,j4⟩)
  simp [ht,aa,tj] at h3
  cbv
  refine bu (_,_,_) (by simp only [ht];rfl) (n-1) ?_ ((ee _ _ _ _).2 ?_)
  ·omega
  simp only [aa]
  (simp only [aa] at h3 Zq j4 ⊢;rw [Zq] at h3;rw [if_neg (by simp;omega)] at j4;exact ⟨k+1,rs,aE (by omega),by omega,j2,by omega,j4⟩)
 simp [ht,aa,av] at h1
 cbv
 refine ak trv (by simp [ht]) rfl rfl rfl ?_
 (rw [List.drop_eq_nil_of_le (by omega),Dq] at j4;simp only [ht,j4,j2];done)
theorem TD (ht:TT t) (first rd id kd:Int):
 FC 10 [.agg [ax first,SL []],.agg [ax rd,ax id,bc kd]] [] (.ret (QV t (t _ fun _=>tell ⟨first,[]⟩ ⟨rd,id,kd⟩))) []:=by
 refine bA ht (aB:=[]) Tryz.func10 rfl rfl (N:=25) rfl rfl (n:=0) rfl rfl ?_
 cbv
 refine bS [false,false,false,false,false,true,true,true] (by kernel_rfl) (by kernel_rfl) ?_
 cbv
 iterate 2 refine gI (by simp) ?_
 refine .inl ?_
 (refine qT (fun g=>⟨trv,trv,BI ht (by simp)⟩) rfl rfl rfl ?_)
 cbv
 iterate 2 refine gI (by simp) ?_
 refine ⟨?_,?_⟩
 ·(simp [ht];done)
 refine ⟨?_,?_⟩
 ·(simp [ht];done)
 cbv
 refine ai (fun h0=>?_) (fun h0=>?_)
 ·simp [ht] at h0
 simp [ht] at h0
 cbv
 refine ak trv (by simp [ht]) rfl rfl rfl ?_
 (simp [ht,tell,cF.cells];done)
theorem TE (ht:TT t) (first rd id kd:Int) (e0:List D) (er:List (List D)) {l:List cF} (aD:e0::er=l.map cF.cells) (hl:l.length<1000000):
 FC 10 [.agg [ax first,SL (e0::er)],.agg [ax rd,ax id,bc kd]] [] (.ret (QV t (t _ fun _=>tell ⟨first,l⟩ ⟨rd,id,kd⟩))) []:=by
 have hr:∀r∈e0::er,r.length=3:=by rw [aD];intro r hr;obtain ⟨y,_,rfl⟩:=List.mem_map.1 hr;rfl
 have hle:(e0::er).length=l.length:=by rw [aD,lgM]
 refine bA ht (aB:=[]) Tryz.func10 rfl rfl (N:=25) rfl rfl (n:=0) rfl rfl ?_
 cbv
 refine bS [false,false,false,false,false,true,true,true] (by kernel_rfl) (by kernel_rfl) ?_
 cbv
 iterate 2 refine gI (by simp) ?_
 refine .inl ?_
 (refine qT (fun g=>⟨trv,trv,BI ht hr⟩) rfl rfl rfl ?_)
 cbv
 iterate 2 refine gI (by simp) ?_
 refine ⟨?_,?_⟩
 ·(simp only [ht];grind)
 refine ⟨?_,?_⟩
 ·(simp [ht];done)
 cbv
 refine ai (fun h0=>?_) (fun h0=>?_)
 ·simp [ht,aa] at h0
  cbv
  refine ⟨?_,?_⟩
  ·(simp only [ht,bQ];refine ⟨by simp,⟨by omega,by simp;omega⟩,?_⟩;intro r h;rcases List.mem_append.1 h with h|h;exact hr r h;simp at h;subst h;rfl)
  cbv
  refine ak trv trv rfl rfl rfl ?_
  (simp only [aa] at h0;simp only [List.length_cons] at hle;have tl:tell ⟨first,l⟩ ⟨rd,id,kd⟩=⟨u64 (first+1),(l++[(⟨rd,id,kd⟩:cF)]).drop 1⟩:=(by unfold tell;rw [if_pos (by simp only [List.length_append,List.length_cons,List.length_nil];omega)]);simp only [ht,tl,aD,fX,u64,bI];rw [List.map_drop,List.map_append];rfl)
 simp [ht,aa] at h0
 cbv
 refine ak trv (by simp [ht]) rfl rfl rfl ?_
 (simp only [aa] at h0;simp only [List.length_cons] at hle;have tl:tell ⟨first,l⟩ ⟨rd,id,kd⟩=⟨first,l++[(⟨rd,id,kd⟩:cF)]⟩:=(by unfold tell;rw [if_neg (by simp only [List.length_append,List.length_cons,List.length_nil];omega)]);simp only [ht,tl,aD];rw [List.map_append];rfl)
theorem TF (ht:TT t) (first rd id kd:Int) {l:List cF} {es:List (List D)} (aD:es=l.map cF.cells) (hl:l.length<1000000):
 FC 10 [.agg [ax first,SL es],.agg [ax rd,ax id,bc kd]] [] (.ret (QV t (t _ fun _=>tell ⟨first,l⟩ ⟨rd,id,kd⟩))) []:=by
 cases l with
 |nil=>subst aD;exact TD ht first rd id kd
 |cons x l=>subst aD;exact TE ht first rd id kd _ _ rfl hl
end Dem
end
