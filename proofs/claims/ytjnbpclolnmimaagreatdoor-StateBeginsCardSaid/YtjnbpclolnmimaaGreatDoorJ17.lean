/- Parts of a proof, joined. -/
import Derived.Test.YtjnbpclolnmimaaGreatDoorJ16
set_option linter.unusedSimpArgs false
set_option linter.unusedVariables false
set_option maxRecDepth 100000
set_option maxHeartbeats 4000000
section
open Go Dem Go.Proofs
namespace Dem
variable {t:Th}
theorem MT (ht:TT t) (s:aD) (hs:s.length<1000000000000):FC 111 [ST s] [] (.ret (.ow 0 1 (t _ fun _=>((mW s).map aT).length))) [.row 1 (t _ fun _=>(mW s).map aT)]:=by
 have hp:=jW s
 refine bC ht (aE:=[]) Tryz.func111 (c:=_) rfl rfl (N:=22) rfl (rs:=_) rfl (n:=0) rfl rfl ?_
 cbv
 refine aS trivial (wo ht _ (by assumption)) trivial rfl rfl rfl (fun r0 bE=>?_)
 simp only [ht] at bE
 have hrl:(r0).length=(parts s).length:=by rw [bE]
 cbv
 obtain ⟨J1,fe⟩:∃J1:Nat→List (List D)×Int→Prop,∀n u i,J1 n (u,i)↔(∃k:Nat,i=k∧k+n=(parts s).length∧u=((mW s).take k).map aT):=⟨fun n v=>match v with|(u,i)=>(∃k:Nat,i=k∧k+n=(parts s).length∧u=((mW s).take k).map aT),fun _ _ _=>Iff.rfl⟩
 refine aZ ⟨[0,3,7,8],[(3,1)],[]⟩ (σ:=List (List D)×Int) (fun v=>[(3,.ow 0 1 (t _ fun _=>(v.1).length)),(8,.d (.int .i64 (t _ fun _=>v.2)))]) (fun v=>[(0,.row 1 (t _ fun _=>v.1))]) J1 ?_
 cbv
 refine aA ⟨(parts s).length,([],_),(fe _ _ _).2 ?_,by simp only [ht];rfl,?_⟩
 ·exact ⟨0,rfl,by simp,rfl⟩
 rintro n ⟨u,i⟩ hj
 replace hj:=(fe _ _ _).1 hj
 obtain ⟨k,rfl,j1,j4⟩:=hj
 cbv
 refine ai (fun h2=>?_) (fun h2=>?_)
 ·simp [ht,aa] at h2
  cbv
  refine aS trivial (wo ht _ (by assumption)) trivial rfl rfl rfl (fun r3 gH=>?_)
  simp only [ht] at gH
  have hrl:(r3).length=(parts s).length:=by rw [gH]
  cbv
  refine ⟨?_,?_⟩
  ·(simp only [ht];refine ⟨?_,fun r hr=>by obtain ⟨y,_,rfl⟩:=List.mem_map.1 hr;rfl⟩;rw [aC (by omega)];simp only [bS];rw [lgM];omega)
  cbv
  (refine ay trivial (MS ht (l:=r3.take (k+1)) (by simp only [ht,gr];rw [aC (by omega),List.map_take];rfl) (by simp;omega) (by rw [gH];exact Nat.le_trans (DU s (k+1)) (by omega))) trivial rfl rfl (fun r4 dO=>?_);simp only [ht] at dO;rw [gH] at dO)
  cbv
  refine ⟨?_,?_⟩
  ·(simp only [ht];grind)
  cbv
  refine bf (_,_) (by simp only [ht,←List.length_append];rfl) (n-1) ?_ ((fe _ _ _).2 ?_)
  ·omega
  simp only [aa]
  exact ⟨k+1,aC (by omega),by omega,by rw [DV (by omega),j4,←dO];simp⟩
 simp [ht,aa] at h2
 cbv
 refine Fb trivial rfl rfl rfl rfl ?_ ?_
 ·(simp [ht,j4,List.take_of_length_le (show (mW s).length≤k by rw [ic];omega)];done)
 (simp [ht,j4,List.take_of_length_le (show (mW s).length≤k by rw [ic];omega)];done)
theorem FA (ht:TT t) {es:List (List D)} {x:D} {row:List D} {i n c:Nat} (hn:n=es.length) (hi:i≤n) (hc:n≤c) (hc0:n=0→c=0) (aF:∀r∈es,r.length=1) (hrow:(x::row).length=1) (hs:n<1000000) {r:List (List D)} (hr:r=es.take i++(x::row)::es.drop i):
 FC 187 [.vw 0 1 0 n c true,bq (i:Int),SL [x::row]] [.row 1 es] (.ret (SL r)) [.dead]:=by
 obtain ⟨n1,CR⟩:∃n1,n1=n+1:=⟨_,rfl⟩
 obtain ⟨i1,hi1⟩:∃i1,i1=i+1:=⟨_,rfl⟩
 obtain ⟨ni,hni⟩:∃ni,ni=n-i:=⟨_,rfl⟩
 obtain ⟨ci,uH⟩:∃ci,ci=c-i:=⟨_,rfl⟩
 obtain ⟨zQ,Q6⟩:∃zQ,zQ=c-i1:=⟨_,rfl⟩
 obtain ⟨pR,uI⟩:∃pR,pR=n1-i:=⟨_,rfl⟩
 have hW:∀P:Prop,((IntKind.i64.wrap ((n:Int)+1)=(n1:Int))→(IntKind.i64.wrap ((n1:Int)-(i:Int))=(pR:Int))→(IntKind.i64.wrap ((i:Int)+1)=(i1:Int))→P)→P:=
  fun P h=>h (by rw [wrap64 (by omega) (by omega)];omega) (by rw [wrap64 (by omega) (by omega)];omega) (by rw [wrap64 (by omega) (by omega)];omega)
 have hrl:r.length=n1:=by rw [hr,List.length_append,List.length_cons,List.length_take,List.length_drop];omega
 have W4:n≠0→FC 212 [SL [x::row],.vw 0 1 i1 ni zQ true] [.row 1 es] (.ret (BL false)) [.row 1 es]:=fun h0=>
  ir KA Tryz.func212 rfl rfl rfl rfl (tS:=79) (tR:=4) rfl rfl (by intro h;rw [h] at hn;exact h0 hn)
 refine bC ht (aE:=[.row 1 es]) Tryz.func187 (c:=_) rfl rfl (N:=95) rfl (rs:=_) rfl (n:=1) rfl rfl ?_
 cbv
 refine bR (.vw 0 1 i ni ci true) [.row 1 es] ?_ ?_ rfl ?_
 ·simp [ht,dZ,bS];omega
 ·simp [ht,aX,aV,hni,uH]
 cbv
 refine qj (by simp [ht]) ?_
 cbv
 refine ai (fun h=>?_) (fun h=>?_)
 ·have hin:i=n:=by simp [ht,aa] at h;omega
  clear h
  cbv
  refine bR (.ow 1 1 n1) [.dead,.row 1 r] ?_ ?_ ?_ ?_
  ·simp only [ht]
   refine ⟨⟨hn,by simp;omega,?_⟩,rfl,hn,fun h=>⟨hc0 (by rw [hn,h];rfl),rfl⟩⟩
   intro r hr
   rcases List.mem_append.1 hr with hr|hr
   ·exact aF r hr
   simp at hr;subst hr;exact hrow
  ·simp [ht,CR,hn]
  ·simp only [ht];rw [hr]
   have:i=es.length:=by omega
   subst this;simp
  cbv
  refine an trivial ?_ rfl rfl rfl rfl
  simp only [ht];exact hrl.symm
 have hin:i<n:=by simp [ht,aa] at h;omega
 clear h
 have ya:r=(r.drop 0).take n1:=by rw [List.drop_zero,List.take_of_length_le (by omega)]
 cbv
 refine ai (fun h2=>?_) (fun h2=>?_)
 ·have W5:c=n:=by
   refine hW _ fun e1 e2 e3=>?_
   simp [ht,aa,e1] at h2;omega
  clear h2
  obtain ⟨L,hL⟩:∃L:List (List D),L=es.take i++List.replicate (es.length+1-i) [D.str []]:=⟨_,rfl⟩
  have JG:L.length=n1:=by rw [hL];simp;omega
  obtain ⟨L1,uJ⟩:∃L1,L1=wrote L i [x::row]:=⟨_,rfl⟩
  have mY:L1.length=n1:=by rw [uJ];simp [wrote,JG];omega
  have qA:r=wrote L1 i1 (es.drop i):=by rw [hi1,uJ,hL,wh (by omega),hr]
  cbv
  refine bR (.vw 0 1 0 i c true) [.row 1 es] ?_ ?_ rfl ?_
  ·simp [ht,dZ,bS];omega
  ·simp [ht,aX,aV]
  cbv
  refine bR (.vw 1 1 0 n1 n1 false) [.row 1 es,.row 1 L] ?_ ?_ ?_ ?_
  ·refine hW _ fun e1 e2 e3=>?_
   simp [ht,aa,e1,e2];omega
  ·refine hW _ fun e1 e2 e3=>?_
   simp [ht,aa,e1,e2];omega
  ·refine hW _ fun e1 e2 e3=>?_
   simp [ht,aa,e1,e2,hL];omega
  cbv
  refine bR (.vw 1 1 i pR pR false) [.row 1 es,.row 1 L] ?_ ?_ rfl ?_
  ·simp [ht,dZ,bS];omega
  ·simp [ht,aX,aV,uI]
  cbv
  refine bR (bq 1) [.row 1 es,.row 1 L1] ?_ ?_ ?_ ?_
  ·simp only [ht,fo]
   refine ⟨⟨by omega,?_⟩,?_⟩
   ·intro h;rw [h] at JG;simp at JG;omega
   intro r hr;have:=List.mem_of_mem_take hr;simp at this;rw [this];exact hrow
  ·simp [ht,aa];omega
  ·simp [ht,uJ,show min 1 pR=1 by omega]
  cbv
  refine bJ [false,false,false,false,false,false,false,false,true] (by kernel_rfl) (by kernel_rfl) ?_
  cbv
  repeat (refine gI (by (simp;done)) ?_)
  refine iX (.vw 1 1 i1 ni ni false) (fun _=>⟨?_,?_⟩) ?_
  ·refine hW _ fun e1 e2 e3=>?_
   simp [ht,aa,e3,dZ,bS];omega
  ·refine hW _ fun e1 e2 e3=>?_
   simp [ht,aa,e3,aX,aV];omega
  cbv
  repeat (refine gI (by (simp;done)) ?_)
  refine iX (.vw 0 1 i ni ci true) (fun _=>⟨?_,?_⟩) ?_
  ·simp [ht,dZ,bS];omega
  ·simp [ht,aX,aV,hni,uH]
  cbv
  refine bR (bq (ni:Nat)) [.row 1 es,.row 1 r,.bA] ?_ ?_ ?_ ?_
  ·simp only [ht,fo]
   refine ⟨by omega,⟨by omega,?_⟩,?_⟩
   ·intro h;rw [h] at mY;simp at mY;omega
   intro r hr;exact aF r (List.mem_of_mem_drop (List.mem_of_mem_take hr))
  ·simp [ht,aa]
  ·simp only [ht,qA]
   rw [List.take_of_length_le (by simp;omega)]
  cbv
  refine Bt [true] trivial ?_ rfl rfl rfl ?_
  ·simp only [ht];omega
  simp only [ht];rw [←ya]
 have W5:n<c:=by
  refine hW _ fun e1 e2 e3=>?_
  simp [ht,aa,e1] at h2;omega
 clear h2
 obtain ⟨L1,uJ⟩:∃L1,L1=wrote es i1 (es.drop i):=⟨_,rfl⟩
 have qA:r=wrote L1 i [x::row]:=by rw [uJ,hi1,Fs (by omega),hr]
 have mY:L1.length=n1:=by rw [uJ];simp [wrote];omega
 cbv
 refine bR (.vw 0 1 0 n1 c true) [.row 1 es] ?_ ?_ rfl ?_
 ·refine hW _ fun e1 e2 e3=>?_
  simp [ht,aa,e1,dZ,bS];omega
 ·refine hW _ fun e1 e2 e3=>?_
  simp [ht,aa,e1,aX,aV]
 cbv
 refine bR (.vw 0 1 i1 ni zQ true) [.row 1 es] ?_ ?_ rfl ?_
 ·refine hW _ fun e1 e2 e3=>?_
  simp [ht,aa,e3,dZ,bS];omega
 ·refine hW _ fun e1 e2 e3=>?_
  simp [ht,aa,e3,aX,aV];omega
 cbv
 refine dn trivial (W4 (by omega)) ?_
 cbv
 refine mS (by simp [ht]) ?_
 cbv
 refine bJ [false,false,false,false,false,false,false,false,true] (by kernel_rfl) (by kernel_rfl) ?_
 cbv
 repeat (refine gI (by (simp;done)) ?_)
 refine iX (.vw 0 1 i1 ni zQ true) (fun _=>⟨?_,?_⟩) ?_
 ·refine hW _ fun e1 e2 e3=>?_
  simp [ht,aa,e3,dZ,bS];omega
 ·refine hW _ fun e1 e2 e3=>?_
  simp [ht,aa,e3,aX,aV];omega
 cbv
 repeat (refine gI (by (simp;done)) ?_)
 refine iX (.vw 0 1 i pR ci true) (fun _=>⟨?_,?_⟩) ?_
 ·simp [ht,dZ,bS];omega
 ·simp [ht,aX,aV,uI,uH]
 cbv
 refine bR (bq (ni:Nat)) [.row 1 L1,.bA] ?_ ?_ ?_ ?_
 ·simp only [ht,fo]
  refine ⟨by omega,⟨by omega,?_⟩,?_⟩
  ·intro h;rw [h] at hn;simp at hn;omega
  intro r hr;exact aF r (List.mem_of_mem_drop (List.mem_of_mem_take hr))
 ·simp [ht,aa];omega
 ·simp only [ht,uJ]
  rw [List.take_of_length_le (by simp;omega)]
 cbv
 refine bR (.vw 0 1 i pR ci true) [.row 1 L1,.bA] ?_ ?_ rfl ?_
 ·simp [ht,dZ,bS];omega
 ·simp [ht,aX,aV,uI,uH]
 cbv
 refine bR (bq 1) [.row 1 r,.bA] ?_ ?_ ?_ ?_
 ·simp only [ht,fo]
  refine ⟨⟨by omega,?_⟩,?_⟩
  ·intro h;rw [h] at mY;simp at mY;omega
  intro r hr;have:=List.mem_of_mem_take hr;simp at this;rw [this];exact hrow
 ·simp [ht,aa];omega
 ·simp [ht,qA,show min 1 pR=1 by omega]
 cbv
 refine Bt [true] trivial ?_ rfl rfl rfl ?_
 ·simp only [ht];omega
 simp only [ht];rw [←ya]
theorem Ix (ht:TT t) {es:List (List D)} {x:D} {row:List D} {i n:Nat} (hn:n=es.length) (hi:i≤n) (aF:∀r∈es,r.length=1) (hrow:(x::row).length=1) (hs:n<1000000) {r:List (List D)} (hr:r=es.take i++(x::row)::es.drop i):
 FC 187 [.ow 0 1 n,bq (i:Int),SL [x::row]] [.row 1 es] (.ret (SL r)) [.dead]:=
 fJ fun c hc hc0=>FA ht hn hi hc hc0 aF hrow hs hr
theorem FB (ht:TT t) {l:List aD} {x:aD} {k:Nat} {i:Int} (hi:i=k) (hk:k≤l.length) (hl:l.length<1000000):
 FC 187 [.ow 0 1 (t _ fun _=>(l.map aT).length),bq i,.cl [[.str x]]] [.row 1 (t _ fun _=>l.map aT)] (.ret (SL (t _ fun _=>(l.take k++x::l.drop k).map aT))) [.dead]:=by
 simp only [ht];subst hi
 refine pO (args':=[.ow 0 1 (l.map aT).length,bq k,SL [aT x]]) ?_ (Ix ht (by simp) (by simpa using hk) ?_ rfl (by simpa using hl) (by simp))
 ·intro β w ok vs h
  simp only [aj] at h ⊢
  obtain ⟨u1,us1,rfl,h1,u2,PS,rfl,h2,u3,Xd,rfl,h3,h4⟩:=h
  exact ⟨u1,_,rfl,h1,u2,_,rfl,h2,u3,Xd,rfl,MF h3,h4⟩
 intro r hr;obtain ⟨y,_,rfl⟩:=List.mem_map.1 hr;rfl
theorem Iy (ht:TT t) (s:aD) (hs:s.length<1000000000000):FC 146 [ST s] [] (.ret (HX t (t _ fun _=>above s))) []:=by
 have hp:=jW s
 have hl:=ic s
 refine bC ht (aE:=[]) Tryz.func146 (c:=_) rfl rfl (N:=7) rfl (rs:=_) rfl (n:=0) rfl rfl ?_
 cbv
 refine qn trivial (MT ht s (by assumption)) trivial rfl (.inr rfl) ?_
 cbv
 refine cE [0] trivial rfl rfl (FB ht (l:=mW s) (x:=[]) (k:=0) rfl (by omega) (by omega)) (bK ?_)
 cbv
 refine an trivial trivial rfl rfl rfl ?_
 (simp [ht,above];done)
theorem wq (ht:TT t) (s:aD) (hs:s.length<1000000000000):FC 86 [ST s] [] (.ret (bY (t _ fun _=>named s))) []:=by
 refine bC ht (aE:=[]) Tryz.func86 (c:=_) rfl rfl (N:=10) rfl (rs:=_) rfl (n:=0) rfl rfl ?_
 cbv
 iterate 2 refine gI (by simp [ht]) ?_
 refine aM (fun g0=>⟨by simp [ht] at g0 ⊢;exact g0,trivial,BP ht _ _ (by assumption)⟩) rfl rfl (fun r1 cX=>?_)
 simp only [ht] at cX
 cbv
 refine pI (by simp [ht]) ?_
 refine an trivial trivial rfl rfl rfl ?_
 (simp [named, *];done)
theorem sV (ht:TT t) (s:aD) (hs:s.length<1000000000000):FC 87 [ST s] [] (.ret (tG (t _ fun _=>parent s))) []:=by
 have hp:=jW s
 have hl:=ic s
 obtain ⟨ps,hps⟩:∃p,p=parent s:=⟨_,rfl⟩
 refine bC ht (aE:=[]) Tryz.func87 (c:=_) rfl rfl (N:=13) rfl (rs:=_) rfl (n:=0) rfl rfl ?_
 cbv
 refine aS trivial (Iy ht _ (by assumption)) trivial rfl rfl rfl (fun r0 bE=>?_)
 simp only [ht] at bE
 have hla:(r0).length=(parts s).length+1:=by rw [bE];simp [above,ic]
 have hpx:(r0)[(r0).length-2]?=some ps:=by rw [hps,bE,parent,List.getD_eq_getElem?_getD,List.getElem?_eq_getElem (by rw [bE] at hla;omega)];rfl
 cbv
 (refine Bz ht (l:=r0) (cells:=aT) (cT:=dR t) (i:=r0.length-2) (x:=ps) (by simp only [ht];done) hpx (by simp only [ht,aa,lgM];rw [wrap64 (by omega) (by omega)];omega) (fun _=>rfl) (fun _=>rfl) ?_)
 cbv
 refine an trivial trivial rfl rfl rfl ?_
 (simp [ht,hps];done)
def aR.aH (_:Th) (e:aR):List D:=[.str e.path,.int .u64 e.dc.a,.int .u64 e.dc.b,.int .u64 e.dc.c,.int .u64 e.dc.d,.int .u64 e.used.a,.int .u64 e.used.b,.int .u64 e.used.c,.int .u64 e.used.d]
def N6 (e:aR):AV:=.agg [ST e.path,az e.dc.a,az e.dc.b,az e.dc.c,az e.dc.d,az e.used.a,az e.used.b,az e.used.c,az e.used.d]
def MU (r:aR×Bool):AV:=.dF [N6 r.1,BL r.2]
def Ro (t:Th) (l:List aR):AV:=SL (t _ fun _=>l.map aR.cells)
def FE (t:Th) (r:List aR×Int):AV:=.dF [Ro t r.1,bq r.2]
theorem N7 (ht:TT t) (q:aD) {l:List (aR)} {es:List (List D)} (aF:es=l.map aR.cells) (f:Nat) (p:aR→Bool) (hl:l.length<9223372036854775807)
 (hf:∀x∈l,FC f [.agg [ST x.path,az x.dc.a,az x.dc.b,az x.dc.c,az x.dc.d,az x.used.a,az x.used.b,az x.used.c,az x.used.d],.ptr 0 0] [.var [ST q]] (.ret (BL (p x))) [.var [ST q]]) {r:Int} (hr:r=idxOf p l):FC 140 [SL es,.fn f [.ptr 0 0]] [.var [ST q]] (.ret (bq r)) [.var [ST q]]:=by
 have hel:es.length=l.length:=by rw [aF,lgM]
 obtain ⟨J,hJ⟩:∃J:Nat→Nat→Prop,∀n v,J n v↔(v+n=l.length∧∀i<v,∀x,l[i]?=some x→p x=false):=⟨fun n v=>v+n=l.length∧∀i<v,∀x,l[i]?=some x→p x=false,fun _ _=>Iff.rfl⟩
 refine bC ht (aE:=[.var [ST q]]) Tryz.func140 (c:=_) rfl rfl (N:=19) rfl (rs:=_) rfl (n:=1) rfl rfl ?_
 cbv
 refine aZ ⟨[0,1,7,8],[],[]⟩ (σ:=Nat) (fun k=>[(8,bq (t _ fun _=>(k:Int)))]) (fun _=>[]) J ?_
 cbv
 refine aA ⟨l.length,0,(hJ _ _).2 ⟨by omega,by intro i hi;simp at hi⟩,by simp only [ht];rfl,?_⟩
 rintro n k hj
 obtain ⟨h2,h3⟩:=(hJ _ _).1 hj
 clear hj
 cbv
 refine ai (fun h=>?_) (fun h=>?_)
 ·simp only [ht,aa,decide_eq_true_eq] at h
  have hk:k<l.length:=by omega
  obtain ⟨x,hx⟩:∃x,l[k]?=some x:=⟨l[k],by simp⟩
  have og:x∈l:=List.mem_of_getElem? hx
  have gY:=hf x og
  obtain ⟨px,hpx⟩:∃b,b=p x:=⟨_,rfl⟩
  rw [←hpx] at gY
  obtain ⟨nm,⟨a,b,c,d⟩,⟨e,g,u,v⟩⟩:=x
  cbv
  refine gS [.str nm,.int .u64 a,.int .u64 b,.int .u64 c,.int .u64 d,.int .u64 e,.int .u64 g,.int .u64 u,.int .u64 v] ?_ ?_ ?_
  ·simp only [ht,aa];refine ⟨by omega,h,?_⟩;rw [aF];intro r hr;obtain ⟨y,_,rfl⟩:=List.mem_map.1 hr;rfl
  ·simp [ht,aa,aF,hx]
  cbv
  refine dn trivial gY ?_
  cbv
  refine ai (fun hb=>?_) (fun hb=>?_)
  ·cbv
   refine an trivial trivial rfl rfl rfl ?_
   have e:=cN hx (hpx▸hb) h3
   simp only [ht,aa,hr,idxOf,e]
  cbv
  refine aA ⟨n-1,k+1,⟨by omega,(hJ _ _).2 ⟨by omega,?_⟩⟩,?_⟩
  ·intro i hi y hy
   by_cases hik:i<k
   ·exact h3 i hik y hy
   have:i=k:=by omega
   subst this;rw [hx] at hy;cases hy;rw [←hpx];exact hb
  simp only [ht,aa,aC (show k<9223372036854775807 by omega)];rfl
 simp only [ht,aa,decide_eq_false_iff_not] at h
 have hk:¬k<l.length:=by omega
 clear h
 cbv
 refine an trivial trivial rfl rfl rfl ?_
 rw [hr,idxOf,cS]
 intro i y hy
 have:i<l.length:=by
  rcases Nat.lt_or_ge i l.length with h'|h';· exact h'
  simp [List.getElem?_eq_none h'] at hy
 exact h3 i (by omega) y hy
theorem N8 (ht:TT t) (q:aD) (x:aR):FC 141 [.agg [ST x.path,az x.dc.a,az x.dc.b,az x.dc.c,az x.dc.d,az x.used.a,az x.used.b,az x.used.c,az x.used.d],.ptr 0 0] [.var [ST q]] (.ret (BL (decide (x.path=q)))) [.var [ST q]]:=by
 obtain ⟨nm,⟨a,b,c,d⟩,⟨e,g,u,v⟩⟩:=x
 refine bC ht (aE:=[.var [ST q]]) Tryz.func141 (c:=_) rfl rfl (N:=8) rfl (rs:=_) rfl (n:=1) rfl rfl ?_
 cbv
 refine an trivial trivial rfl rfl rfl ?_
 simp [ht]
theorem kj (ht:TT t) (q:aD) {l:List aR} {es:List (List D)} (aF:es=l.map aR.cells) (hl:l.length<1000000000):
 FC 81 [SL es,ST q] [] (.ret (kR (t _ fun _=>bM l q))) []:=by
 obtain ⟨r,hr⟩:∃r,r=bM l q:=⟨_,rfl⟩
 refine bC ht (aE:=[]) Tryz.func81 (c:=_) rfl rfl (N:=8) rfl (rs:=_) rfl (n:=0) rfl rfl ?_
 cbv
 refine dn trivial (N7 ht q aF 141 (fun x=>decide (x.path=q)) (by omega) (fun x _=>N8 ht q x) (r:=r) hr) ?_
 cbv
 exact an trivial trivial rfl rfl rfl (by simp [ht,hr])
theorem FF {l:List aR} {q:aD} {r:Int} (h:r=bM l q):(r=-1∧lA l q=(aR.zero,false))∨∃(k:Nat) (x:aR),r=k∧k<l.length∧l[k]?=some x∧lA l q=(x,true):=by
 rcases cU (p:=fun e:aR=>decide (e.path=q)) (l:=l) (r:=r) h with ⟨e1,e2,e3⟩|⟨i,x,hi,hil,e1,e2,e3,e4⟩
 ·exact .inl ⟨e1,by simp [lA,e3]⟩
 exact .inr ⟨i,x,hi,hil,e1,by simp [lA,e4]⟩
theorem BQ (ht:TT t) (q:aD) {l:List aR} {es:List (List D)} (aF:es=l.map aR.cells) (hl:l.length<1000000000):
 FC 28 [SL es,ST q] [] (.ret (MU (t _ fun _=>lA l q))) []:=by
 refine bC ht (aE:=[]) Tryz.func28 (c:=_) rfl rfl (N:=17) rfl (rs:=_) rfl (n:=0) rfl rfl ?_
 cbv
 have ar:es.length=l.length:=by rw [aF,lgM]
 refine ay trivial (kj ht _ (by assumption) (by assumption)) trivial rfl rfl (fun r0 bE=>?_)
 simp only [ht] at bE
 have ec:=FF bE
 clear bE
 rcases ec with ⟨e1,e2⟩|⟨i,x,hi,hil,e1,e2⟩
 ·cbv
  refine ai (fun h1=>?_) (fun h1=>?_)
  ·simp [ht] at h1
   cbv
   refine an trivial trivial rfl rfl rfl ?_
   (simp [ht,e2,aR.zero,bz.zero];done)
  simp [ht] at h1
  omega
 cbv
 refine ai (fun h2=>?_) (fun h2=>?_)
 ·simp [ht] at h2
  (simp only [aa] at*;omega)
 simp [ht] at h2
 cbv
 refine Bz ht aF (cT:=aR.aH t) e1 (by assumption) (fun _=>rfl) (fun _=>rfl) ?_
 cbv
 refine an trivial trivial rfl rfl rfl ?_
 (simp [ht,e2];done)
theorem Uq (ht:TT t) (a b c d:Int):FC 85 [V4 a b c d] [] (.ret (Ro t (t _ fun _=>[⟨[],⟨a,b,c,d⟩,bz.zero⟩]))) []:=by
 refine bC ht (aE:=[]) Tryz.func85 (c:=_) rfl rfl (N:=6) rfl (rs:=_) rfl (n:=0) rfl rfl ?_
 cbv
 refine an trivial trivial rfl rfl rfl ?_
 (simp [ht,bz.zero];done)
theorem K6 (ht:TT t) {es:List (List D)} (aF:∀r∈es,r.length=9) (hs:es.length*80≤140737488355328) {m:Nat} (hm:m=es.length):
 FC 89 [SL es] [] (.ret (.ow 0 9 m)) [.row 9 es]:=by
 refine bC ht (aE:=[]) Tryz.func89 (c:=_) rfl rfl (N:=8) rfl (rs:=_) rfl (n:=0) rfl rfl ?_
 cbv
 refine ⟨fun b hb=>?_⟩
 simp only [ht] at hb
 cbv
 refine ai (fun h=>?_) (fun h=>?_)
 ·have he:=hb h
  subst he
  cbv
  exact Kz trivial rfl rfl (by rw [hm];rfl) rfl
 clear hb h
 cbv
 refine ⟨?_,?_⟩
 ·simp only [ht];simp;exact ⟨hs,aF⟩
 refine Fb trivial rfl rfl rfl rfl ?_ ?_
 ·simp only [ht];rw [hm];simp
 simp only [ht];rfl
theorem FG (ht:TT t) {es:List (List D)} {x:D} {row:List D} {i n c:Nat} (hn:n=es.length) (hi:i≤n) (hc:n≤c) (hc0:n=0→c=0) (aF:∀r∈es,r.length=9) (hrow:(x::row).length=9) (hs:n<1000000) {r:List (List D)} (hr:r=es.take i++(x::row)::es.drop i):
 FC 92 [.vw 0 9 0 n c true,bq (i:Int),SL [x::row]] [.row 9 es] (.ret (SL r)) [.dead]:=by
 obtain ⟨n1,CR⟩:∃n1,n1=n+1:=⟨_,rfl⟩
 obtain ⟨i1,hi1⟩:∃i1,i1=i+1:=⟨_,rfl⟩
 obtain ⟨ni,hni⟩:∃ni,ni=n-i:=⟨_,rfl⟩
 obtain ⟨ci,uH⟩:∃ci,ci=c-i:=⟨_,rfl⟩
 obtain ⟨zQ,Q6⟩:∃zQ,zQ=c-i1:=⟨_,rfl⟩
 obtain ⟨pR,uI⟩:∃pR,pR=n1-i:=⟨_,rfl⟩
 have hW:∀P:Prop,((IntKind.i64.wrap ((n:Int)+1)=(n1:Int))→(IntKind.i64.wrap ((n1:Int)-(i:Int))=(pR:Int))→(IntKind.i64.wrap ((i:Int)+1)=(i1:Int))→P)→P:=
  fun P h=>h (by rw [wrap64 (by omega) (by omega)];omega) (by rw [wrap64 (by omega) (by omega)];omega) (by rw [wrap64 (by omega) (by omega)];omega)
 have hrl:r.length=n1:=by rw [hr,List.length_append,List.length_cons,List.length_take,List.length_drop];omega
 have W4:n≠0→FC 148 [SL [x::row],.vw 0 9 i1 ni zQ true] [.row 9 es] (.ret (BL false)) [.row 9 es]:=fun h0=>
  ir KA Tryz.func148 rfl rfl rfl rfl (tS:=38) (tR:=4) rfl rfl (by intro h;rw [h] at hn;exact h0 hn)
 refine bC ht (aE:=[.row 9 es]) Tryz.func92 (c:=_) rfl rfl (N:=95) rfl (rs:=_) rfl (n:=1) rfl rfl ?_
 cbv
 refine bR (.vw 0 9 i ni ci true) [.row 9 es] ?_ ?_ rfl ?_
 ·simp [ht,dZ,bS];omega
 ·simp [ht,aX,aV,hni,uH]
 cbv
 refine qj (by simp [ht]) ?_
 cbv
 refine ai (fun h=>?_) (fun h=>?_)
 ·have hin:i=n:=by simp [ht,aa] at h;omega
  clear h
  cbv
  refine bR (.ow 1 9 n1) [.dead,.row 9 r] ?_ ?_ ?_ ?_
  ·simp only [ht]
   refine ⟨⟨hn,by simp;omega,?_⟩,rfl,hn,fun h=>⟨hc0 (by rw [hn,h];rfl),rfl⟩⟩
   intro r hr
   rcases List.mem_append.1 hr with hr|hr
   ·exact aF r hr
   simp at hr;subst hr;exact hrow
  ·simp [ht,CR,hn]
  ·simp only [ht];rw [hr]
   have:i=es.length:=by omega
   subst this;simp
  cbv
  refine an trivial ?_ rfl rfl rfl rfl
  simp only [ht];exact hrl.symm
 have hin:i<n:=by simp [ht,aa] at h;omega
 clear h
 have ya:r=(r.drop 0).take n1:=by rw [List.drop_zero,List.take_of_length_le (by omega)]
 cbv
 refine ai (fun h2=>?_) (fun h2=>?_)
 ·have W5:c=n:=by
   refine hW _ fun e1 e2 e3=>?_
   simp [ht,aa,e1] at h2;omega
  clear h2
  obtain ⟨L,hL⟩:∃L:List (List D),L=es.take i++List.replicate (es.length+1-i) [D.str [],D.int IntKind.u64 0,D.int IntKind.u64 0,D.int IntKind.u64 0,D.int IntKind.u64 0,D.int IntKind.u64 0,D.int IntKind.u64 0,D.int IntKind.u64 0,D.int IntKind.u64 0]:=⟨_,rfl⟩
  have JG:L.length=n1:=by rw [hL];simp;omega
  obtain ⟨L1,uJ⟩:∃L1,L1=wrote L i [x::row]:=⟨_,rfl⟩
  have mY:L1.length=n1:=by rw [uJ];simp [wrote,JG];omega
  have qA:r=wrote L1 i1 (es.drop i):=by rw [hi1,uJ,hL,wh (by omega),hr]
  cbv
  refine bR (.vw 0 9 0 i c true) [.row 9 es] ?_ ?_ rfl ?_
  ·simp [ht,dZ,bS];omega
  ·simp [ht,aX,aV]
  cbv
  refine bR (.vw 1 9 0 n1 n1 false) [.row 9 es,.row 9 L] ?_ ?_ ?_ ?_
  ·refine hW _ fun e1 e2 e3=>?_
   simp [ht,aa,e1,e2];omega
  ·refine hW _ fun e1 e2 e3=>?_
   simp [ht,aa,e1,e2];omega
  ·refine hW _ fun e1 e2 e3=>?_
   simp [ht,aa,e1,e2,hL];omega
  cbv
  refine bR (.vw 1 9 i pR pR false) [.row 9 es,.row 9 L] ?_ ?_ rfl ?_
  ·simp [ht,dZ,bS];omega
  ·simp [ht,aX,aV,uI]
  cbv
  refine bR (bq 1) [.row 9 es,.row 9 L1] ?_ ?_ ?_ ?_
  ·simp only [ht,fo]
   refine ⟨⟨by omega,?_⟩,?_⟩
   ·intro h;rw [h] at JG;simp at JG;omega
   intro r hr;have:=List.mem_of_mem_take hr;simp at this;rw [this];exact hrow
  ·simp [ht,aa];omega
  ·simp [ht,uJ,show min 1 pR=1 by omega]
  cbv
  refine bJ [false,false,false,false,false,false,false,false,true] (by kernel_rfl) (by kernel_rfl) ?_
  cbv
  repeat (refine gI (by (simp;done)) ?_)
  refine iX (.vw 1 9 i1 ni ni false) (fun _=>⟨?_,?_⟩) ?_
  ·refine hW _ fun e1 e2 e3=>?_
   simp [ht,aa,e3,dZ,bS];omega
  ·refine hW _ fun e1 e2 e3=>?_
   simp [ht,aa,e3,aX,aV];omega
  cbv
  repeat (refine gI (by (simp;done)) ?_)
  refine iX (.vw 0 9 i ni ci true) (fun _=>⟨?_,?_⟩) ?_
  ·simp [ht,dZ,bS];omega
  ·simp [ht,aX,aV,hni,uH]
  cbv
  refine bR (bq (ni:Nat)) [.row 9 es,.row 9 r,.bA] ?_ ?_ ?_ ?_
  ·simp only [ht,fo]
   refine ⟨by omega,⟨by omega,?_⟩,?_⟩
   ·intro h;rw [h] at mY;simp at mY;omega
   intro r hr;exact aF r (List.mem_of_mem_drop (List.mem_of_mem_take hr))
  ·simp [ht,aa]
  ·simp only [ht,qA]
   rw [List.take_of_length_le (by simp;omega)]
  cbv
  refine Bt [true] trivial ?_ rfl rfl rfl ?_
  ·simp only [ht];omega
  simp only [ht];rw [←ya]
 have W5:n<c:=by
  refine hW _ fun e1 e2 e3=>?_
  simp [ht,aa,e1] at h2;omega
 clear h2
 obtain ⟨L1,uJ⟩:∃L1,L1=wrote es i1 (es.drop i):=⟨_,rfl⟩
 have qA:r=wrote L1 i [x::row]:=by rw [uJ,hi1,Fs (by omega),hr]
 have mY:L1.length=n1:=by rw [uJ];simp [wrote];omega
 cbv
 refine bR (.vw 0 9 0 n1 c true) [.row 9 es] ?_ ?_ rfl ?_
 ·refine hW _ fun e1 e2 e3=>?_
  simp [ht,aa,e1,dZ,bS];omega
 ·refine hW _ fun e1 e2 e3=>?_
  simp [ht,aa,e1,aX,aV]
 cbv
 refine bR (.vw 0 9 i1 ni zQ true) [.row 9 es] ?_ ?_ rfl ?_
 ·refine hW _ fun e1 e2 e3=>?_
  simp [ht,aa,e3,dZ,bS];omega
 ·refine hW _ fun e1 e2 e3=>?_
  simp [ht,aa,e3,aX,aV];omega
 cbv
 refine dn trivial (W4 (by omega)) ?_
 cbv
 refine mS (by simp [ht]) ?_
 cbv
 refine bJ [false,false,false,false,false,false,false,false,true] (by kernel_rfl) (by kernel_rfl) ?_
 cbv
 repeat (refine gI (by (simp;done)) ?_)
 refine iX (.vw 0 9 i1 ni zQ true) (fun _=>⟨?_,?_⟩) ?_
 ·refine hW _ fun e1 e2 e3=>?_
  simp [ht,aa,e3,dZ,bS];omega
 ·refine hW _ fun e1 e2 e3=>?_
  simp [ht,aa,e3,aX,aV];omega
 cbv
 repeat (refine gI (by (simp;done)) ?_)
 refine iX (.vw 0 9 i pR ci true) (fun _=>⟨?_,?_⟩) ?_
 ·simp [ht,dZ,bS];omega
 ·simp [ht,aX,aV,uI,uH]
 cbv
 refine bR (bq (ni:Nat)) [.row 9 L1,.bA] ?_ ?_ ?_ ?_
 ·simp only [ht,fo]
  refine ⟨by omega,⟨by omega,?_⟩,?_⟩
  ·intro h;rw [h] at hn;simp at hn;omega
  intro r hr;exact aF r (List.mem_of_mem_drop (List.mem_of_mem_take hr))
 ·simp [ht,aa];omega
 ·simp only [ht,uJ]
  rw [List.take_of_length_le (by simp;omega)]
 cbv
 refine bR (.vw 0 9 i pR ci true) [.row 9 L1,.bA] ?_ ?_ rfl ?_
 ·simp [ht,dZ,bS];omega
 ·simp [ht,aX,aV,uI,uH]
 cbv
 refine bR (bq 1) [.row 9 r,.bA] ?_ ?_ ?_ ?_
 ·simp only [ht,fo]
  refine ⟨⟨by omega,?_⟩,?_⟩
  ·intro h;rw [h] at mY;simp at mY;omega
  intro r hr;have:=List.mem_of_mem_take hr;simp at this;rw [this];exact hrow
 ·simp [ht,aa];omega
 ·simp [ht,qA,show min 1 pR=1 by omega]
 cbv
 refine Bt [true] trivial ?_ rfl rfl rfl ?_
 ·simp only [ht];omega
 simp only [ht];rw [←ya]
theorem Iz (ht:TT t) {es:List (List D)} {x:D} {row:List D} {i n:Nat} (hn:n=es.length) (hi:i≤n) (aF:∀r∈es,r.length=9) (hrow:(x::row).length=9) (hs:n<1000000) {r:List (List D)} (hr:r=es.take i++(x::row)::es.drop i):
 FC 92 [.ow 0 9 n,bq (i:Int),SL [x::row]] [.row 9 es] (.ret (SL r)) [.dead]:=
 fJ fun c hc hc0=>FG ht hn hi hc hc0 aF hrow hs hr
theorem Rp (ht:TT t) (q:aD) {l:List (aR)} {es:List (List D)} (aF:es=l.map aR.cells) (f:Nat) (p:aR→Bool) (hl:l.length<9223372036854775807)
 (hf:∀x∈l,FC f [.agg [ST x.path,az x.dc.a,az x.dc.b,az x.dc.c,az x.dc.d,az x.used.a,az x.used.b,az x.used.c,az x.used.d],.ptr 0 0] [.var [ST q]] (.ret (BL (p x))) [.var [ST q]]) {r:Int} (hr:r=idxOf p l):FC 90 [SL es,.fn f [.ptr 0 0]] [.var [ST q]] (.ret (bq r)) [.var [ST q]]:=by
 have hel:es.length=l.length:=by rw [aF,lgM]
 obtain ⟨J,hJ⟩:∃J:Nat→Nat→Prop,∀n v,J n v↔(v+n=l.length∧∀i<v,∀x,l[i]?=some x→p x=false):=⟨fun n v=>v+n=l.length∧∀i<v,∀x,l[i]?=some x→p x=false,fun _ _=>Iff.rfl⟩
 refine bC ht (aE:=[.var [ST q]]) Tryz.func90 (c:=_) rfl rfl (N:=19) rfl (rs:=_) rfl (n:=1) rfl rfl ?_
 cbv
 refine aZ ⟨[0,1,7,8],[],[]⟩ (σ:=Nat) (fun k=>[(8,bq (t _ fun _=>(k:Int)))]) (fun _=>[]) J ?_
 cbv
 refine aA ⟨l.length,0,(hJ _ _).2 ⟨by omega,by intro i hi;simp at hi⟩,by simp only [ht];rfl,?_⟩
 rintro n k hj
 obtain ⟨h2,h3⟩:=(hJ _ _).1 hj
 clear hj
 cbv
 refine ai (fun h=>?_) (fun h=>?_)
 ·simp only [ht,aa,decide_eq_true_eq] at h
  have hk:k<l.length:=by omega
  obtain ⟨x,hx⟩:∃x,l[k]?=some x:=⟨l[k],by simp⟩
  have og:x∈l:=List.mem_of_getElem? hx
  have gY:=hf x og
  obtain ⟨px,hpx⟩:∃b,b=p x:=⟨_,rfl⟩
  rw [←hpx] at gY
  obtain ⟨nm,⟨a,b,c,d⟩,⟨e,g,u,v⟩⟩:=x
  cbv
  refine gS [.str nm,.int .u64 a,.int .u64 b,.int .u64 c,.int .u64 d,.int .u64 e,.int .u64 g,.int .u64 u,.int .u64 v] ?_ ?_ ?_
  ·simp only [ht,aa];refine ⟨by omega,h,?_⟩;rw [aF];intro r hr;obtain ⟨y,_,rfl⟩:=List.mem_map.1 hr;rfl
  ·simp [ht,aa,aF,hx]
  cbv
  refine dn trivial gY ?_
  cbv
  refine ai (fun hb=>?_) (fun hb=>?_)
  ·cbv
   refine an trivial trivial rfl rfl rfl ?_
   have e:=cN hx (hpx▸hb) h3
   simp only [ht,aa,hr,idxOf,e]
  cbv
  refine aA ⟨n-1,k+1,⟨by omega,(hJ _ _).2 ⟨by omega,?_⟩⟩,?_⟩
  ·intro i hi y hy
   by_cases hik:i<k
   ·exact h3 i hik y hy
   have:i=k:=by omega
   subst this;rw [hx] at hy;cases hy;rw [←hpx];exact hb
  simp only [ht,aa,aC (show k<9223372036854775807 by omega)];rfl
 simp only [ht,aa,decide_eq_false_iff_not] at h
 have hk:¬k<l.length:=by omega
 clear h
 cbv
 refine an trivial trivial rfl rfl rfl ?_
 rw [hr,idxOf,cS]
 intro i y hy
 have:i<l.length:=by
  rcases Nat.lt_or_ge i l.length with h'|h';· exact h'
  simp [List.getElem?_eq_none h'] at hy
 exact h3 i (by omega) y hy
theorem Xi (ht:TT t) (q:aD) (x:aR) {r:Bool} (hr:r=!Op.bytesLess x.path q):FC 91 [.agg [ST x.path,az x.dc.a,az x.dc.b,az x.dc.c,az x.dc.d,az x.used.a,az x.used.b,az x.used.c,az x.used.d],.ptr 0 0] [.var [ST q]] (.ret (BL r)) [.var [ST q]]:=by
 obtain ⟨nm,⟨a,b,c,d⟩,⟨e,g,u,v⟩⟩:=x
 refine bC ht (aE:=[.var [ST q]]) Tryz.func91 (c:=_) rfl rfl (N:=8) rfl (rs:=_) rfl (n:=1) rfl rfl ?_
 cbv
 refine an trivial trivial rfl rfl rfl ?_
 simp only [ht,hr]
theorem zk (ht:TT t) {l:List aR} {es:List (List D)} (aF:es=l.map aR.cells) (hs:l.length<1000000000):
 FC 89 [SL es] [] (.ret (.ow 0 9 (t _ fun _=>(l.map aR.cells).length))) [.row 9 (t _ fun _=>l.map aR.cells)]:=by
 simp only [ht];subst aF
 refine K6 ht ?_ ?_ (by simp)
 ·intro r hr;obtain ⟨y,_,rfl⟩:=List.mem_map.1 hr;rfl
 simp;omega
theorem wu (ht:TT t) {l:List aR} {x:aR} {k:Nat} {i:Int} (hi:i=k) (hk:k≤l.length) (hl:l.length<1000000):
 FC 92 [.ow 0 9 (t _ fun _=>(l.map aR.cells).length),bq i,.cl [aR.cells x]] [.row 9 (t _ fun _=>l.map aR.cells)] (.ret (SL (t _ fun _=>(l.take k++x::l.drop k).map aR.cells))) [.dead]:=by
 simp only [ht];subst hi
 refine pO (args':=[.ow 0 9 (l.map aR.cells).length,bq k,SL [aR.cells x]]) ?_ (Iz ht (by simp) (by simpa using hk) ?_ rfl (by simpa using hl) (by simp))
 ·intro β w ok vs h
  simp only [aj] at h ⊢
  obtain ⟨u1,us1,rfl,h1,u2,PS,rfl,h2,u3,Xd,rfl,h3,h4⟩:=h
  exact ⟨u1,_,rfl,h1,u2,_,rfl,h2,u3,Xd,rfl,MF h3,h4⟩
 intro r hr;obtain ⟨y,_,rfl⟩:=List.mem_map.1 hr;rfl
theorem elemAt {α:Type} [Inhabited α] (l:List α) (k:Nat):∃x,k<l.length→l[k]?=some x:=by
 by_cases h:k<l.length
 ·exact ⟨l[k],fun _=>List.getElem?_eq_getElem h⟩
 exact ⟨default,fun h'=>absurd h' h⟩
theorem IA {t:Th} (ht:TT t) {α:Type} {l:List α} {cells cT:α→List D} {es:List (List D)} {g:Bool} {c:Prop} (aF:es=l.map cells) {z:Int} {n:Nat} (i:Nat) (x:α) {K:List D→Prop} (hi:g=true→z=i∧l[i]?=some x) (hn:∀x,(cells x).length=n) (hT:∀x,cells x=cT x)
 (hc:g=true→c) (hK:K (cT x)):ol g (c∧(t Prop fun _=>0≤z∧z<es.length∧∀r∈es,r.length=n)) (t _ fun _=>es.getD z.toNat []) K:=by
 refine QK (cT x) (fun hg=>?_) hK
 obtain ⟨h1,h2⟩:=hi hg
 obtain ⟨ds,h,hk⟩:=Bz (K:=fun ds=>ds=cT x) ht aF h2 h1 hn hT rfl
 obtain ⟨h3,h4⟩:=h rfl
 exact ⟨⟨hc hg,h3⟩,h4.trans hk⟩
theorem rT {l:List aR} {q:aD} {r:Int} (h:r=bM l q):(r=-1∧bM l q=-1∧l.findIdx? (fun e=>decide (e.path=q))=none)∨∃(k:Nat) (x:aR),r=k∧bM l q=k∧k<l.length∧l[k]?=some x∧l.findIdx? (fun e=>decide (e.path=q))=some k:=by
 rcases cU (p:=fun e:aR=>decide (e.path=q)) (l:=l) (r:=r) h with ⟨e1,e2,e3⟩|⟨i,x,hi,hil,e1,e2,e3,e4⟩
 ·exact .inl ⟨e1,by rw [←h,e1],e2⟩
 exact .inr ⟨i,x,hi,by rw [←h,hi],hil,e1,e3⟩
def Ur (l:List aR) (q:aD):Nat:=match l.findIdx? (fun e=>!Op.bytesLess e.path q) with
 |some k=>k
 |none=>l.length
theorem D5 {l:List aR} {q:aD} {v:bz} (h:l.findIdx? (fun e=>decide (e.path=q))=none) (h1:named q=true) (h2:¬q=[]→0≤bM l (parent q)) (h3:bM l q<0→(l.length:Int)<16):
 we l q v=(l.take (Ur l q)++⟨q,v,bz.zero⟩::l.drop (Ur l q),0):=by
 have e0:bM l q=-1:=by unfold bM idxOf;rw [h]
 have h3:=h3 (by omega)
 unfold we Ur
 rw [if_neg (by simp [h1]),if_neg (by simp;exact fun g=>by have:=h2 g;omega),if_neg (by simp;omega)]
 simp only [h]
 cases l.findIdx? (fun e=>!Op.bytesLess e.path q)<;>simp
theorem N9 {l:List aR} {q:aD} {v:bz} (h1:named q=true) (h2:¬q=[]→0≤bM l (parent q)) (h3:bM l q<0) (h4:(16:Int)≤l.length):we l q v=(l,9):=by
 unfold we
 rw [if_neg (by simp [h1]),if_neg (by simp;exact fun g=>by have:=h2 g;omega),if_pos (by simp;omega)]
theorem D6 {l:List aR} {q:aD} {v:bz} {k:Nat} {x:aR} (h:l.findIdx? (fun e=>decide (e.path=q))=some k) (hx:l[k]?=some x) (h1:named q=true) (h2:¬q=[]→0≤bM l (parent q)):
 we l q v=if mU x.used v then (l.set k {x with dc:=v},0) else (l,10):=by
 have e0:bM l q=k:=by unfold bM idxOf;rw [h]
 unfold we
 rw [if_neg (by simp [h1]),if_neg (by simp;exact fun g=>by have:=h2 g;omega),if_neg (by simp;omega)]
 simp only [h,List.getD_eq_getElem?_getD,hx,Option.getD_some]
 cases mU x.used v<;>simp
theorem Ac (ht:TT t) (q:aD) (a b c d:Int) {l:List aR} {es:List (List D)} (aF:es=l.map aR.cells) (hl:l.length<100000) (hq:q.length<1000000000000) (hpq:(parent q).length<1000000000000):
 FC 34 [SL es,ST q,V4 a b c d] [] (.ret (FE t (t _ fun _=>we l q ⟨a,b,c,d⟩))) []:=by
 obtain ⟨pq,JI⟩:∃p,p=parent q:=⟨_,rfl⟩
 obtain ⟨nq,Gi⟩:∃p,p=named q:=⟨_,rfl⟩
 refine bC ht (aE:=[]) Tryz.func34 (c:=_) rfl rfl (N:=77) rfl (rs:=_) rfl (n:=0) rfl rfl ?_
 cbv
 have ar:es.length=l.length:=by rw [aF,lgM]
 refine ay trivial (kj ht _ (by assumption) (by omega)) trivial rfl rfl (fun r0 bE=>?_)
 simp only [ht] at bE
 (rcases rT (q:=q) bE with ⟨e1,e0,e2⟩|⟨i,x,e1,e0,hil,e3,e2⟩)
 ·cbv
  refine ay trivial (wq ht _ (by assumption)) trivial rfl rfl (fun r1 cX=>?_)
  simp only [ht] at cX
  rw [←Gi] at cX
  subst r1
  cbv
  refine ai (fun h2=>?_) (fun h2=>?_)
  ·simp [ht] at h2
   cbv
   refine an trivial trivial rfl rfl rfl ?_
   (subst JI Gi;simp_all [we];done)
  simp [ht] at h2
  cbv
  iterate 2 refine gI (by simp [ht]) ?_
  refine aM (fun g3=>⟨by simp [ht] at g3 ⊢;exact g3,trivial,sV ht _ (by assumption)⟩) rfl rfl (fun r4 dO=>?_)
  simp only [ht] at dO
  rw [←JI] at dO
  subst r4
  cbv
  refine aM (fun g5=>⟨by simp [ht] at g5 ⊢;exact g5,trivial,kj ht _ (by assumption) (by omega)⟩) rfl rfl (fun r6 gv=>?_)
  simp only [ht] at gv
  skip
  cbv
  refine gI (by simp [ht]) ?_
  refine pI (by simp [ht]) ?_
  refine ai (fun h7=>?_) (fun h7=>?_)
  ·simp [ht] at h7
   cbv
   refine an trivial trivial rfl rfl rfl ?_
   (subst JI Gi;simp_all [we];done)
  simp [ht] at h7
  cbv
  iterate 3 refine gI (by simp [ht]) ?_
  refine pI (by simp [ht]) ?_
  refine ai (fun h8=>?_) (fun h8=>?_)
  ·simp [ht,aa,ar] at h8
   cbv
   refine an trivial trivial rfl rfl rfl ?_
   (simp only [ht];rw [N9 (by rw [←Gi];assumption) (fun g=>by rw [←JI,←gv];exact h7 g) (by omega) h8.2];simp [aF];done)
  simp [ht,aa,ar] at h8
  cbv
  refine bJ [true,true,true,false,false,false,false,false,false,true,true,true,true] (by kernel_rfl) (by kernel_rfl) ?_
  cbv
  iterate 2 refine gI (by simp [ht]) ?_
  (refine IA ht aF (cT:=aR.aH t) 0 default (fun g=>absurd g (by simp [ht,e1])) (fun _=>rfl) (fun _=>by simp only [aR.aH]) (fun g=>by exact ⟨g,g,trivial⟩) ?_)
  cbv
  iterate 3 refine gI (by simp [ht]) ?_
  refine aM (fun g9=>⟨by simp [ht] at g9 ⊢;exact g9,trivial,oJ ht _ _ _ _ _ _ _ _⟩) rfl rfl (fun r10 BR=>?_)
  simp only [ht] at BR
  cbv
  refine gI (by simp [ht]) ?_
  refine pI (by simp [ht]) ?_
  refine ai (fun h11=>?_) (fun h11=>?_)
  ·simp [ht] at h11
   omega
  simp [ht] at h11
  cbv
  refine qn trivial (zk ht (by assumption) (by omega)) trivial rfl (.inr rfl) ?_
  cbv
  refine ai (fun h12=>?_) (fun h12=>?_)
  ·simp [ht] at h12
   omega
  simp [ht] at h12
  cbv
  (obtain ⟨r9,dN⟩:∃r,r=idxOf (fun o:aR=>!Op.bytesLess o.path q) l:=⟨_,rfl⟩;refine cE [0] trivial rfl rfl (Rp ht q aF 91 (fun o:aR=>!Op.bytesLess o.path q) (by omega) (fun x _=>Xi ht q x rfl) dN) (bK ?_);have ec:=cU dN;clear dN;rcases ec with ⟨f1,f2,f3⟩|⟨z,y,f0,fz,f1,f2,f3,f4⟩)
  ·cbv
   refine ai (fun K7=>?_) (fun K7=>?_)
   ·simp [ht] at K7
    cbv
    refine cE [3] trivial rfl rfl (wu ht (l:=l) (x:=⟨q,⟨a,b,c,d⟩,bz.zero⟩) (k:=Ur l q) (by (simp [ht,Ur,f2,ar];done)) (by (simp [Ur,f2];done)) (by simp only [aa] at*;omega)) (bK ?_)
    cbv
    refine an trivial trivial rfl rfl rfl ?_
    (simp only [ht];rw [D5 e2 (by rw [←Gi];assumption) (fun g=>by rw [←JI,←gv];exact h7 g) (fun g=>h8 (by omega))])
   simp [ht] at K7
   omega
  cbv
  refine ai (fun Rq=>?_) (fun Rq=>?_)
  ·simp [ht] at Rq
   (simp only [aa] at*;omega)
  simp [ht] at Rq
  cbv
  refine cE [3] trivial rfl rfl (wu ht (l:=l) (x:=⟨q,⟨a,b,c,d⟩,bz.zero⟩) (k:=Ur l q) (by (simp only [Ur,f3];exact f0)) (by (simp only [Ur,f3];omega)) (by simp only [aa] at*;omega)) (bK ?_)
  cbv
  refine an trivial trivial rfl rfl rfl ?_
  (simp only [ht];rw [D5 e2 (by rw [←Gi];assumption) (fun g=>by rw [←JI,←gv];exact h7 g) (fun g=>h8 (by omega))])
 cbv
 refine ay trivial (wq ht _ (by assumption)) trivial rfl rfl (fun r15 K8=>?_)
 simp only [ht] at K8
 rw [←Gi] at K8
 subst r15
 cbv
 refine ai (fun Xj=>?_) (fun Xj=>?_)
 ·simp [ht] at Xj
  cbv
  refine an trivial trivial rfl rfl rfl ?_
  (subst JI Gi;simp_all [we];done)
 simp [ht] at Xj
 cbv
 iterate 2 refine gI (by simp [ht]) ?_
 refine aM (fun g17=>⟨by simp [ht] at g17 ⊢;exact g17,trivial,sV ht _ (by assumption)⟩) rfl rfl (fun r18 Oa=>?_)
 simp only [ht] at Oa
 rw [←JI] at Oa
 subst r18
 cbv
 refine aM (fun g19=>⟨by simp [ht] at g19 ⊢;exact g19,trivial,kj ht _ (by assumption) (by omega)⟩) rfl rfl (fun r20 Ob=>?_)
 simp only [ht] at Ob
 skip
 cbv
 refine gI (by simp [ht]) ?_
 refine pI (by simp [ht]) ?_
 refine ai (fun ZE=>?_) (fun ZE=>?_)
 ·simp [ht] at ZE
  cbv
  refine an trivial trivial rfl rfl rfl ?_
  (subst JI Gi;simp_all [we];done)
 simp [ht] at ZE
 cbv
 iterate 3 refine gI (by simp [ht]) ?_
 refine pI (by simp [ht]) ?_
 refine ai (fun h22=>?_) (fun h22=>?_)
 ·simp [ht,aa,ar] at h22
  (simp only [aa] at*;omega)
 simp [ht,aa,ar] at h22
 cbv
 refine bJ [true,true,true,false,false,false,false,false,false,true,true,true,true] (by kernel_rfl) (by kernel_rfl) ?_
 cbv
 iterate 2 refine gI (by simp [ht]) ?_
 (refine IA ht aF (cT:=aR.aH t) i x (fun g=>⟨e1,e3⟩) (fun _=>rfl) (fun _=>by simp only [aR.aH]) (fun g=>by exact ⟨g,g,trivial⟩) ?_)
 cbv
 iterate 3 refine gI (by simp [ht]) ?_
 refine aM (fun g23=>⟨by simp [ht] at g23 ⊢;exact g23,trivial,oJ ht _ _ _ _ _ _ _ _⟩) rfl rfl (fun r24 abO=>?_)
 simp only [ht] at abO
 cbv
 refine gI (by simp [ht]) ?_
 refine pI (by simp [ht]) ?_
 refine ai (fun h25=>?_) (fun h25=>?_)
 ·simp [ht] at h25
  cbv
  refine an trivial trivial rfl rfl rfl ?_
  (have ts:=D6 (v:=⟨a,b,c,d⟩) e2 e3 (by rw [←Gi];assumption) (fun g=>by rw [←JI,←Ob];exact ZE g);simp only [ht];rw [ts];simp_all;done)
 simp [ht] at h25
 cbv
 refine qn trivial (zk ht (by assumption) (by omega)) trivial rfl (.inr rfl) ?_
 cbv
 refine ai (fun h26=>?_) (fun h26=>?_)
 ·simp [ht] at h26
  cbv
  refine ⟨?_,?_⟩
  ·(subst JI Gi;simp_all;done)
  refine ⟨?_,?_⟩
  ·(subst JI Gi;simp_all;done)
  cbv
  refine an trivial (by simp [ht]) rfl rfl rfl ?_
  (have ts:=D6 (v:=⟨a,b,c,d⟩) e2 e3 (by rw [←Gi];assumption) (fun g=>by rw [←JI,←Ob];exact ZE g);simp only [ht];rw [ts];simp_all [List.map_set,bF];done)
 simp [ht] at h26
 (simp only [aa] at*;omega)
end Dem
end
section
open Go
namespace Dem
structure gz where
 bu:Int
 cnt:Int
def gz.cells (m:gz):List D:=[.int .u64 m.bu,.int .i64 m.cnt]
def eR:List gz→Int→Int→List gz
 |[],j,c=>[⟨j,c⟩]
 |m::l,j,c=>if j=m.bu then ⟨j,c⟩::l else m::eR l j c
theorem BU:∀(l:List gz) (j c:Int),tE (l.map gz.cells) (.int .u64 j) [.int .i64 c]=(eR l j c).map gz.cells
 |[],_,_=>rfl
 |m::l,j,c=>by
  simp only [List.map_cons,eR]
  by_cases h:j=m.bu
  ·subst h;simp [gz.cells,tE,qf]
  simp only [if_neg h,List.map_cons]
  rw [←BU l j c]
  simp [gz.cells,tE,qf,h]
theorem kS:∀(l:List gz) (j c:Int),(eR l j c).map gz.bu=if j∈l.map gz.bu then l.map gz.bu else l.map gz.bu++[j]
 |[],_,_=>by simp [eR]
 |m::l,j,c=>by
  simp only [eR]
  by_cases h:j=m.bu
  ·subst h;simp
  rw [if_neg h,List.map_cons,List.map_cons,kS l j c]
  by_cases h2:j∈l.map gz.bu
  ·simp [h2]
  rw [if_neg h2,if_neg (by simp only [List.mem_cons];rintro (g|g);exact h g;exact h2 g)];rfl
def VX (s:cH) (prev:Option Int) (j:Jb):Bool:=
 if j.id<1 then false else if s.next≤j.id then false else if (match prev with|none=>false|some p=>decide (j.id≤p)) then false else
 if cR j.x≠0 then false else if !gV s.tree j.x.path then false else
 if j.runs then decide (1≤j.left)&&decide (j.left≤j.x.dS) else decide (j.left=0)&&s.queue.contains ⟨j.id,j.x.prio⟩
def mZ (s:cH):Option Int→List Jb→Bool
 |_,[]=>true
 |q,j::r=>VX s q j&&mZ s (some j.id) r
def gW (l:List Jb):Nat:=(l.filter fun j=>!j.runs).length
def jj:List Jb→List gz
 |l=>l.foldl (fun m j=>if j.runs then eR m j.id j.x.count else m) []
def fk (m:List gz) (id:Int):Int:=match m.find? (fun x=>decide (x.bu=id)) with
 |some x=>x.cnt
 |none=>0
def gM (l:List Jb):List Place→List gz→Option (List gz)
 |[],m=>some m
 |x::r,m=>if fk m x.bu<1 then none else if x.v≠(eH l x.bu).1.x.fQ then none else gM l r (eR m x.bu (fk m x.bu-1))
def lZ (s:cH):Bool:=match gM s.aI s.aW.places (jj s.aI) with
 |none=>false
 |some m=>m.all fun x=>decide (x.cnt=0)
def nI (p:aD):List Jb→bz→Option bz
 |[],v=>some v
 |j::r,v=>if !j.runs then nI p r v else if !decide (p=[])&&!mX p j.x.path then nI p r v else
  if !(cW j.x).2||!(gT v (cW j.x).1).2 then none else nI p r (gT v (cW j.x).1).1
def qu (s:cH) (e:aR):Bool:=match nI e.path s.aI bz.zero with
 |none=>false
 |some v=>decide (v=e.used)
def gq (s:cH):Bool:=
 if !nU s.aW then false else if !gU s.tree then false else if !nX s.queue then false else if 32<s.aI.length then false else if s.next<1 then false else
 if 32<max s.ev.l.length s.au.l.length then false else if !mZ s none s.aI then false else
 decide (gW s.aI=s.queue.length)&&lZ s&&!(s.tree.any fun e=>!qu s e)
def wz (a b:cH):Bool:=
 decide (a.round=b.round)&&decide (a.next=b.next)&&decide (a.tree=b.tree)&&decide (a.queue=b.queue)&&decide (a.aW.nodes=b.aW.nodes∧a.aW.places=b.aW.places)&&decide (a.aI=b.aI)&&decide (a.ev=b.ev)&&decide (a.au=b.au)
def MV (n:bU):aD:=ej n.round++ej n.id++ej (u64 n.kind)
def jk (x:qG):aD:=ej x.first++ej x.l.length++(x.l.map MV).flatten
def IC (j:Jb):aD:=ej j.id++NO j.x++ej (u64 j.left)
def m0 (s:cH):aD:=ej s.round++ej s.next++C3 s.aW++Ih s.tree++ej s.aI.length++(s.aI.map IC).flatten++jk s.ev++jk s.au
abbrev vk (k:Nat) (v:bz):Nat:=(v.at_ k).toNat
theorem pY {m:List gz} (h:(m.map gz.bu).Nodup) (j c:Int):((eR m j c).map gz.bu).Nodup:=by
 rw [kS];split
 ·exact h
 rename_i g
 rw [List.nodup_append]
 exact ⟨h,by simp,fun a ha b hb e=>g (by simp at hb;rw [←hb,←e];exact ha)⟩
def kw:List aD:=[[110,49],[110,50],[110,51]]
def VY:List aD:=[[97],[97,47,98],[98]]
def rX (m:Nat):Nat→List aR
 |0=>(we [⟨[],bz.zero,bz.zero⟩] [] ⟨30,30,30,30⟩).1
 |i+1=>(we (rX m i) (VY.getD i []) ⟨(6+4*i+m:Nat),20,20,20⟩).1
def Ch (i:Nat):List bT:=if i<2 then [⟨T4,[[97],[98]].getD i []⟩] else []
def Ux (n i:Nat):Bool:=decide (n / 2^(5+i)%2=0)
def eS (n:Nat):Nat→cO
 |0=>⟨[],[]⟩
 |i+1=>if Ux n i then (rO (eS n i) ⟨kw.getD i [],⟨(4+2*i:Nat),9,9,9⟩,Ch i,false⟩).1 else eS n i
def kU (n:Nat):cH:=⟨0,1,eS n 3,rX (n%5) 3,[],[],⟨0,[]⟩,⟨0,[]⟩⟩
theorem RA:∀m<5,∀i<4,(rX m i).length≤4:=by decide+kernel
theorem Uy {n:Nat} (i:Nat):Ux n i=Ux (n / 32*32) i:=by
 unfold Ux
 rw [show 5+i=5+i from rfl,Nat.pow_add,←Nat.div_div_eq_div_mul,←Nat.div_div_eq_div_mul,show (2:Nat)^5=32 from rfl,Nat.mul_div_cancel _ (by decide)]
theorem IT (n:Nat):∀i,eS n i=eS (n / 32*32) i
 |0=>rfl
 |i+1=>by rw [eS,eS,←IT n i,Uy]
end Dem
end
section
open Go Dem Go.Proofs
namespace Dem
variable {t:Th}
theorem ZG (u:Int) (hu:0≤u):UInt8.ofNat (IntKind.u8.wrap ((BitVec.ofInt IntKind.u8.bits (IntKind.u8.wrap u) ||| BitVec.ofInt IntKind.u8.bits 128).toNat)).toNat=UInt8.ofNat (u.toNat%128+128):=by
 have key:∀n:Nat,n<256→UInt8.ofNat (IntKind.u8.wrap ((BitVec.ofInt IntKind.u8.bits (n:Int) ||| BitVec.ofInt IntKind.u8.bits 128).toNat)).toNat=UInt8.ofNat (n%128+128):=by decide
 obtain ⟨n,rfl⟩:=Int.eq_ofNat_of_zero_le hu
 have e:IntKind.u8.wrap (n:Int)=((n%256:Nat):Int):=by simp [IntKind.wrap,IntKind.signed,IntKind.bits]
 rw [e,key _ (by omega),Int.toNat_natCast]
 congr 2;omega
theorem RC (ht:TT t) (u:Int) (hu:u<18446744073709551616) {s:aD} (h:s=ej u):FC 72 [az u] [] (.ret (ST s)) []:=by
 obtain ⟨J,hJ⟩:∃J:Nat→Int×List (List D)→Prop,∀n v,J n v↔(v.1<128^(n+1)∧v.2.length+n=9∧(∀r∈v.2,mo r)∧v.2.map iK++rM n v.1=s):=⟨fun n v=>v.1<128^(n+1)∧v.2.length+n=9∧(∀r∈v.2,mo r)∧v.2.map iK++rM n v.1=s,fun _ _=>Iff.rfl⟩
 refine bC ht (aE:=[]) Tryz.func72 (c:=_) rfl rfl (N:=20) rfl (rs:=_) rfl (n:=0) rfl rfl ?_
 cbv
 refine aZ ⟨[0,2,3],[(3,1)],[]⟩ (σ:=Int×List (List D)) (fun v=>[(0,az v.1),(3,.ow 0 1 (t _ fun _=>v.2.length))]) (fun v=>[(0,.row 1 (t _ fun _=>v.2))]) J ?_
 cbv
 refine aA ⟨9,(u,[]),(hJ _ _).2 ⟨Int.lt_of_lt_of_le hu (by decide),rfl,by simp,by simp [h,ej]⟩,by simp only [ht];rfl,?_⟩
 rintro n ⟨v,es⟩ hj
 obtain ⟨g1,g2,g4,g5⟩:=(hJ _ _).1 hj
 clear hj
 simp only at g1 g2 g4 g5
 cbv
 refine ai (fun hc=>?_) (fun hc=>?_)
 ·simp only [ht,decide_eq_true_eq] at hc
  cbv
  have hv:0≤v:=by omega
  have e1:v.fdiv (2^min (Int.toNat 7) IntKind.u64.bits)=v / 128:=Int.fdiv_eq_ediv_of_nonneg _ (by decide)
  have hn:1≤n:=by
   rcases Nat.lt_or_ge n 1 with h1|h1
   ·have:n=0:=by omega
    subst this;simp at g1;omega
   exact h1
  obtain ⟨m,rfl⟩:∃m,n=m+1:=⟨n-1,by omega⟩
  refine ⟨?_,by simp [ht],aA ⟨m,(v / 128,es++[[.int .u8 (IntKind.u8.wrap ((BitVec.ofInt IntKind.u8.bits (IntKind.u8.wrap v) ||| BitVec.ofInt IntKind.u8.bits 128).toNat))]]),⟨by omega,(hJ _ _).2 ⟨?_,?_,?_,?_⟩⟩,?_⟩⟩
  ·simp only [ht]
   refine ⟨trivial,by simp;omega,?_⟩
   intro r hr
   rcases List.mem_append.1 hr with hr|hr
   ·obtain ⟨z,rfl⟩:=g4 r hr;rfl
   simp at hr;subst hr;rfl
  ·show v / 128<128^(m+1)
   rw [Int.pow_succ] at g1
   omega
  ·simp;omega
  ·intro r hr
   rcases List.mem_append.1 hr with hr|hr
   ·exact g4 r hr
   simp at hr;subst hr;exact ⟨_,rfl⟩
  ·rw [←g5]
   show List.map iK (es++_)++rM m (v / 128)=_
   rw [rM,if_pos hc,List.map_append,List.append_assoc]
   congr 1
   simp only [List.map_cons,List.map_nil,iK,List.cons_append,List.nil_append]
   rw [ZG v hv]
  simp only [ht,e1,List.length_append];rfl
 simp only [ht,decide_eq_false_iff_not] at hc
 cbv
 simp only [ht]
 refine ⟨⟨trivial,by simp;omega,?_⟩,⟨by simp,?_⟩,an trivial trivial rfl rfl rfl ?_⟩
 ·intro r hr
  rcases List.mem_append.1 hr with hr|hr
  ·obtain ⟨z,rfl⟩:=g4 r hr;rfl
  simp at hr;subst hr;rfl
 ·intro r hr
  rcases List.mem_append.1 hr with hr|hr
  ·exact g4 r hr
  simp at hr;subst hr;exact ⟨_,rfl⟩
 rw [←g5]
 have e2:rM n v=[UInt8.ofNat (v%256).toNat]:=by
  cases n with
  |zero=>rfl
  |succ m=>rw [rM,if_neg hc]
 rw [e2]
 simp only [List.map_append,List.map_cons,List.map_nil,iK]
 rfl
theorem Ll (ht:TT t) (s:aD) (hs:s.length<9223372036854775000) {r:aD} (h:r=bH s):FC 130 [ST s] [] (.ret (ST r)) []:=by
 obtain ⟨k,hk⟩:∃k,k=ej s.length:=⟨_,rfl⟩
 have e:IntKind.u64.wrap (s.length:Int)=s.length:=by simp [IntKind.wrap,IntKind.signed,IntKind.bits];omega
 have hkl:k.length≤10:=hk▸c6 _
 refine bC ht (aE:=[]) Tryz.func130 (c:=_) rfl rfl (N:=9) rfl (rs:=_) rfl (n:=0) rfl rfl ?_
 cbv
 refine gj trivial (RC ht _ ?_ (s:=k) ?_) trivial rfl rfl ?_
 ·simp only [ht,aa,e];omega
 ·simp only [ht,aa,e];exact hk
 cbv
 refine ⟨by simp only [ht];omega,an trivial trivial rfl rfl rfl ?_⟩
 simp only [ht,h,bH,hk]
theorem cK (ht:TT t) (u:Int) (hu:u<18446744073709551616):FC 72 [az u] [] (.ret (tG (t _ fun _=>ej u))) []:=by
 simp only [ht];exact RC ht u hu rfl
theorem RD (ht:TT t) (s:aD) (p u next:Int) (ok:Bool) (hu:u<18446744073709551616) (hn:0<next→0≤p∧p≤next∧next≤s.length) {r:z8} (hr:r=nV s p u next):
 FD 207 [.ptr 3 0,.ptr 2 0,.ptr 0 0,.ptr 1 0,.ptr 4 0] [.var [ST s],.var [bq p],.var [az u],.var [bq next],.var [BL ok]] (.ret (.dF [])) [.var [ST s],.var [bq p],.var [az r.u],.var [bq r.next],.var [BL r.ok]]:=by
 refine fdC ht (aE:=[.var [ST s],.var [bq p],.var [az u],.var [bq next],.var [BL ok]]) Tryz.func207 (c:=_) rfl rfl (N:=18) rfl (rs:=_) rfl (n:=5) rfl rfl ?_
 cbv
 refine bJ [true,true,true,false,false,false,false,false,false,true,true,true] (by kernel_rfl) (by kernel_rfl) ?_
 cbv
 refine gI (by simp [ht]) ?_
 refine aM (fun g0=>⟨by simp [ht] at g0 ⊢;exact g0,trivial,cK ht _ (by assumption)⟩) rfl rfl (fun r1 cX=>?_)
 simp only [ht] at cX
 cbv
 iterate 3 refine gI (by simp [ht]) ?_
 refine gI (by simp [ht,bS];grind) ?_
 refine gI (by simp [ht]) ?_
 refine pI (by simp [ht]) ?_
 refine ai (fun h2=>?_) (fun h2=>?_)
 ·simp [ht] at h2
  cbv
  refine an trivial trivial rfl ?_ rfl rfl
  (have e:nV s p u next=z8.no:=(by rw [nV,if_neg];rintro ⟨g1,g2⟩;rw [←cX] at g2;rcases h2 with h2|h2;(· omega);(· exact h2 (by simp [gr,g2])));have e2:(decide (0<next)&&decide (r1=gr s (some p) (some next)))=false:=(by rcases h2 with h2|h2;(· simp;intro h;omega);(· simp [h2]));rw [hr,e];simp [qQ,eF,ht,z8.no,e2];done)
 simp [ht] at h2
 cbv
 refine an trivial trivial rfl ?_ rfl rfl
 (have e:nV s p u next=⟨u,next,true⟩:=(by rw [nV,if_pos];refine ⟨h2.1,?_⟩;obtain ⟨g1,g2,g3⟩:=hn h2.1;rw [←cX,h2.2];simp [gr]);rw [hr,e];simp [qQ,eF,ht,h2.1,h2.2];done)
def Uz (s:aD) (p:Int) (r:z8):List ax:=[.var [ST s],.var [bq p],.var [az r.u],.var [bq r.next],.var [BL r.ok]]
theorem yg (ht:TT t) (s:aD) (p u next:Int) (ok:Bool) (hu:u<18446744073709551616) (hn:0<next→0≤p∧p≤next∧next≤s.length):
 FD 207 [.ptr 3 0,.ptr 2 0,.ptr 0 0,.ptr 1 0,.ptr 4 0] [.var [ST s],.var [bq p],.var [az u],.var [bq next],.var [BL ok]] (.ret (.dF [])) (Uz s p (t _ fun _=>nV s p u next)):=by
 simp only [ht];exact RD ht s p u next ok hu hn rfl
theorem Lm {ρ:Type} {FD:Nat→List AV→List ax→fm→List ax→Prop} {f:Nat} {dG:List AV} {bx:List ax} {K:List ax→Prop} {B:ρ→List ax} {r0:ρ} (h:FD f dG bx (.ret (.dF [])) (B r0)) (hK:∀r,r=r0→K (B r)):vV FD f dG bx K:=KF h (hK _ rfl)
def abS (r:z8):AV:=.dF [az r.u,bq r.next,BL r.ok]
theorem fu (ht:TT t) (s:aD) (p:Int) (hs:s.length<9223372036854775000) (hp:p<9223372036854775808):FC 178 [ST s,bq p] [] (.ret (abS (t _ fun _=>bD s p))) []:=by
 refine fcD ht (aE:=[]) Tryz.func178 (c:=_) rfl rfl (N:=48) rfl (rs:=_) rfl (n:=0) rfl rfl rfl ?_
 cbv
 iterate 4 refine gI (by simp [ht]) ?_
 refine pI (by simp [ht]) ?_
 refine ai (fun h0=>?_) (fun h0=>?_)
 ·simp [ht,aa] at h0
  cbv
  (refine Lm (yg ht s p _ _ _ (by decide) (by intro h;cases h)) (fun q hq=>?_);simp only [ht] at hq)
  cbv
  refine an trivial trivial rfl rfl rfl ?_
  (have e:bD s p=q:=(by rw [hq,nV,if_neg (by omega),bD,rP,if_pos (by omega)]);simp only [ht,e];done)
 simp [ht,aa] at h0
 cbv
 obtain ⟨a,ha⟩:∃a:Nat,p=a:=⟨p.toNat,by omega⟩
 have hw:IntKind.i64.wrap (p+10)=p+10:=bZ (by omega) (by ((try simp only [aa] at*);omega))
 obtain ⟨J1,fe⟩:∃J1:Nat→Int×Int→Prop,∀n i u,J1 n (i,u)↔(∃j:Nat,i=p+j∧j+n=10∧j≤10∧(0≤u∧u<2^(7*j)∧u<18446744073709551616)∧je 10 0 (s.drop a) 0=je n j (s.drop (a+j)) u):=⟨fun n v=>match v with|(i,u)=>(∃j:Nat,i=p+j∧j+n=10∧j≤10∧(0≤u∧u<2^(7*j)∧u<18446744073709551616)∧je 10 0 (s.drop a) 0=je n j (s.drop (a+j)) u),fun _ _ _=>Iff.rfl⟩
 refine aZ ⟨[2,3,4,5,6,7],[],[]⟩ (σ:=Int×Int) (fun v=>[(7,.d (.int .i64 (t _ fun _=>v.1)))]) (fun v=>[(2,.var [.d (.int .u64 (t _ fun _=>v.2))]),(3,.var [AV.d (D.int IntKind.i64 0)])]) J1 ?_
 cbv
 refine aA ⟨10,(_,_),(fe _ _ _).2 ?_,by simp only [ht];rfl,?_⟩
 ·exact ⟨0,by simp,by simp,by simp,by simp,by simp⟩
 rintro n ⟨i,u⟩ hj
 replace hj:=(fe _ _ _).1 hj
 obtain ⟨j,hi,j1,j2,j3,j4⟩:=hj
 cbv
 iterate 4 refine gI (by simp [ht]) ?_
 refine pI (by simp [ht]) ?_
 refine ai (fun h2=>?_) (fun h2=>?_)
 ·simp [ht,aa,hw] at h2
  cbv
  refine bJ [false,false,false,false,false,false,false,false,false,false,false,true,true] (by kernel_rfl) (by kernel_rfl) ?_
  cbv
  iterate 3 refine gI (by simp) ?_
  refine gI (by simp [ht,aa];grind) ?_
  iterate 6 refine gI (by simp) ?_
  refine gI (by (simp only [ht];intro _;exact abC hi (by ((try simp only [aa] at*);omega)))) ?_
  refine ⟨?_,?_⟩
  ·(simp only [ht,aa] at*;omega)
  cbv
  refine ai (fun h3=>?_) (fun h3=>?_)
  ·simp [ht,aa] at h3
   cbv
   (refine Lm (yg ht s p _ _ _ (by simp only [ht];rw [KG hi (by ((try simp only [aa] at*);omega)) j3];exact (Fj (by ((try simp only [aa] at*);omega)) j3).2.2) (by simp only [ht];intro _;rw [bZ (by ((try simp only [aa] at*);omega)) (by ((try simp only [aa] at*);omega))];((try simp only [aa] at*);omega))) (fun q hq=>?_);simp only [ht] at hq;rw [KG hi (by ((try simp only [aa] at*);omega)) j3,bZ (x:=i+1) (by ((try simp only [aa] at*);omega)) (by ((try simp only [aa] at*);omega))] at hq)
   cbv
   refine an trivial trivial rfl rfl rfl ?_
   (have e:bD s p=q:=(by rw [hq];exact KI ha hi (by ((try simp only [aa] at*);omega)) (by ((try simp only [aa] at*);omega)) j4 (by rw [List.getD_eq_getElem?_getD];assumption));simp only [ht,e];done)
  simp [ht,aa] at h3
  cbv
  refine bf (_,_) (by simp only [ht];rfl) (n-1) ?_ ((fe _ _ _).2 ?_)
  ·((try simp only [aa] at*);omega)
  simp only [aa]
  rw [KG hi (by ((try simp only [aa] at*);omega)) j3,bZ (x:=i+1) (by ((try simp only [aa] at*);omega)) (by ((try simp only [aa] at*);omega))]
  refine ⟨j+1,by ((try simp only [aa] at*);omega),by ((try simp only [aa] at*);omega),by ((try simp only [aa] at*);omega),Fj (by ((try simp only [aa] at*);omega)) j3,?_⟩
  (rw [j4,BA (by ((try simp only [aa] at*);omega)) (by ((try simp only [aa] at*);omega)),if_neg (by have e0:i.toNat=a+j:=(by ((try simp only [aa] at*);omega));rw [←e0,List.getD_eq_getElem?_getD];((try simp only [aa] at*);omega)),show i.toNat=a+j by ((try simp only [aa] at*);omega)])
 simp [ht,aa,hw] at h2
 cbv
 (refine Lm (yg ht s p _ _ _ (by simp only [ht];omega) (by intro h;cases h)) (fun q hq=>?_);simp only [ht] at hq)
 cbv
 refine an trivial trivial rfl rfl rfl ?_
 (have e:bD s p=q:=(by rw [hq,nV,if_neg (by omega),bD,NL ha (by ((try simp only [aa] at*);omega)) j4]);simp only [ht,e];done)
def ZH (r:Fk):AV:=.dF [ST r.t,bq r.next,BL r.ok]
theorem gJ (ht:TT t) (s:aD) (p most:Int) (hs:s.length<9223372036854775000) (hp:p<9223372036854775808) (hm:most<9223372036854775808):FC 208 [ST s,bq p,bq most] [] (.ret (ZH (t _ fun _=>aU s p most))) []:=by
 refine bC ht (aE:=[]) Tryz.func208 (c:=_) rfl rfl (N:=44) rfl (rs:=_) rfl (n:=0) rfl rfl ?_
 cbv
 refine ay trivial (fu ht _ _ (by assumption) (by assumption)) trivial rfl rfl (fun r0 bE=>?_)
 simp only [ht] at bE
 have gb:=eM (s:=s) (p:=p)
 rw [←bE] at gb
 cbv
 iterate 2 refine gI (by simp [ht]) ?_
 refine pI (by simp [ht]) ?_
 iterate 9 refine gI (by simp [ht]) ?_
 refine pI (by simp [ht]) ?_
 refine ai (fun h1=>?_) (fun h1=>?_)
 ·simp [ht,aa] at h1
  have q:=TQ bE gb hs hm h1
  cbv
  refine an trivial trivial rfl rfl rfl ?_
  (simp only [ht,q,Fk.no];done)
 simp [ht,aa] at h1
 have q:=QY bE gb hs hm h1
 cbv
 refine ⟨?_,?_⟩
 ·(simp only [ht];exact q.2)
 cbv
 refine an trivial trivial rfl rfl rfl ?_
 (simp only [ht,q];done)
def ZI (r:xO):AV:=.dF [V4 r.v.a r.v.b r.v.c r.v.d,bq r.next,BL r.ok]
theorem wI (ht:TT t) (s:aD) (p:Int) (hs:s.length<9223372036854775000) (hp:p<9223372036854775808):FC 209 [ST s,bq p] [] (.ret (ZI (t _ fun _=>iI s p))) []:=by
 refine bC ht (aE:=[]) Tryz.func209 (c:=_) rfl rfl (N:=31) rfl (rs:=_) rfl (n:=0) rfl rfl ?_
 cbv
 obtain ⟨J0,eg⟩:∃J0:Nat→Int×Int×Int×Int×Int×Int→Prop,∀n b i x0 x1 x2 x3,J0 n (b,i,x0,x1,x2,x3)↔(b<9223372036854775808∧(∃k:Nat,i=k∧k+n=4)∧jS s 4 bz.zero p=jS s n ⟨x0,x1,x2,x3⟩ b):=⟨fun n v=>match v with|(b,i,x0,x1,x2,x3)=>(b<9223372036854775808∧(∃k:Nat,i=k∧k+n=4)∧jS s 4 bz.zero p=jS s n ⟨x0,x1,x2,x3⟩ b),fun _ _ _ _ _ _ _=>Iff.rfl⟩
 refine aZ ⟨[0,1,4,11],[],[]⟩ (σ:=Int×Int×Int×Int×Int×Int) (fun v=>[(1,.d (.int .i64 (t _ fun _=>v.1))),(11,.d (.int .i64 (v.2.1)))]) (fun v=>[(0,.var [.d (.int .u64 (t _ fun _=>v.2.2.1)),.d (.int .u64 (t _ fun _=>v.2.2.2.1)),.d (.int .u64 (t _ fun _=>v.2.2.2.2.1)),.d (.int .u64 (t _ fun _=>v.2.2.2.2.2))])]) J0 ?_
 cbv
 refine aA ⟨4,(_,_,_,_,_,_),(eg _ _ _ _ _ _ _).2 ?_,by simp only [ht];rfl,?_⟩
 ·exact ⟨hp,⟨0,rfl,rfl⟩,rfl⟩
 rintro n ⟨b,i,x0,x1,x2,x3⟩ hj
 replace hj:=(eg _ _ _ _ _ _ _).1 hj
 obtain ⟨j1,⟨k,j2,j3⟩,j4⟩:=hj
 have hk:i=0∨i=1∨i=2∨i=3∨i=4:=by ((try simp only [aa] at*);omega)
 rcases hk with rfl|rfl|rfl|rfl|rfl
 ·cbv
  refine ai (fun h1=>?_) (fun h1=>?_)
  ·simp [ht] at h1
   cbv
   refine ay trivial (fu ht _ _ (by assumption) (by (simp only [ht];omega))) trivial rfl rfl (fun r2 cP=>?_)
   simp only [ht] at cP
   have gb:=eM (s:=s) (p:=b)
   rw [←cP] at gb
   obtain ⟨m,rfl⟩:∃m,n=m+1:=⟨n-1,by ((try simp only [aa] at*);omega)⟩
   rw [nD cP] at j4
   rw [show 3-m=0 by ((try simp only [aa] at*);omega)] at j4
   cbv
   refine ai (fun h3=>?_) (fun h3=>?_)
   ·simp [ht] at h3
    cbv
    refine an trivial trivial rfl rfl rfl ?_
    (simp only [ht,iI];simp_all [xO.no,bz.zero];done)
   simp [ht] at h3
   cbv
   refine ⟨?_,?_⟩
   ·(simp only [ht,aa] at*;omega)
   cbv
   refine bf (_,_,_,_,_,_) (by simp only [ht];rfl) m ?_ ((eg _ _ _ _ _ _ _).2 ?_)
   ·omega
   simp only [aa]
   (have g:=gb (by assumption);exact ⟨Int.lt_of_le_of_lt g.2.2.1 (by ((try simp only [aa] at*);omega)),⟨k+1,by rw [bZ (by decide) (by decide)];((try simp only [aa] at*);omega),by omega⟩,by rw [j4,if_pos (by assumption)];rfl⟩)
  simp [ht] at h1
 ·cbv
  refine ai (fun h4=>?_) (fun h4=>?_)
  ·simp [ht] at h4
   cbv
   refine ay trivial (fu ht _ _ (by assumption) (by (simp only [ht];omega))) trivial rfl rfl (fun r5 jA=>?_)
   simp only [ht] at jA
   have gb:=eM (s:=s) (p:=b)
   rw [←jA] at gb
   obtain ⟨m,rfl⟩:∃m,n=m+1:=⟨n-1,by ((try simp only [aa] at*);omega)⟩
   rw [nD jA] at j4
   rw [show 3-m=1 by ((try simp only [aa] at*);omega)] at j4
   cbv
   refine ai (fun h6=>?_) (fun h6=>?_)
   ·simp [ht] at h6
    cbv
    refine an trivial trivial rfl rfl rfl ?_
    (simp only [ht,iI];simp_all [xO.no,bz.zero];done)
   simp [ht] at h6
   cbv
   refine ⟨?_,?_⟩
   ·(simp only [ht,aa] at*;omega)
   cbv
   refine bf (_,_,_,_,_,_) (by simp only [ht];rfl) m ?_ ((eg _ _ _ _ _ _ _).2 ?_)
   ·omega
   simp only [aa]
   (have g:=gb (by assumption);exact ⟨Int.lt_of_le_of_lt g.2.2.1 (by ((try simp only [aa] at*);omega)),⟨k+1,by rw [bZ (by decide) (by decide)];((try simp only [aa] at*);omega),by omega⟩,by rw [j4,if_pos (by assumption)];rfl⟩)
  simp [ht] at h4
 ·cbv
  refine ai (fun h7=>?_) (fun h7=>?_)
  ·simp [ht] at h7
   cbv
   refine ay trivial (fu ht _ _ (by assumption) (by (simp only [ht];omega))) trivial rfl rfl (fun r8 qy=>?_)
   simp only [ht] at qy
   have gb:=eM (s:=s) (p:=b)
   rw [←qy] at gb
   obtain ⟨m,rfl⟩:∃m,n=m+1:=⟨n-1,by ((try simp only [aa] at*);omega)⟩
   rw [nD qy] at j4
   rw [show 3-m=2 by ((try simp only [aa] at*);omega)] at j4
   cbv
   refine ai (fun h9=>?_) (fun h9=>?_)
   ·simp [ht] at h9
    cbv
    refine an trivial trivial rfl rfl rfl ?_
    (simp only [ht,iI];simp_all [xO.no,bz.zero];done)
   simp [ht] at h9
   cbv
   refine ⟨?_,?_⟩
   ·(simp only [ht,aa] at*;omega)
   cbv
   refine bf (_,_,_,_,_,_) (by simp only [ht];rfl) m ?_ ((eg _ _ _ _ _ _ _).2 ?_)
   ·omega
   simp only [aa]
   (have g:=gb (by assumption);exact ⟨Int.lt_of_le_of_lt g.2.2.1 (by ((try simp only [aa] at*);omega)),⟨k+1,by rw [bZ (by decide) (by decide)];((try simp only [aa] at*);omega),by omega⟩,by rw [j4,if_pos (by assumption)];rfl⟩)
  simp [ht] at h7
 ·cbv
  refine ai (fun h10=>?_) (fun h10=>?_)
  ·simp [ht] at h10
   cbv
   refine ay trivial (fu ht _ _ (by assumption) (by (simp only [ht];omega))) trivial rfl rfl (fun Yn pZ=>?_)
   simp only [ht] at pZ
   have gb:=eM (s:=s) (p:=b)
   rw [←pZ] at gb
   obtain ⟨m,rfl⟩:∃m,n=m+1:=⟨n-1,by ((try simp only [aa] at*);omega)⟩
   rw [nD pZ] at j4
   rw [show 3-m=3 by ((try simp only [aa] at*);omega)] at j4
   cbv
   refine ai (fun h12=>?_) (fun h12=>?_)
   ·simp [ht] at h12
    cbv
    refine an trivial trivial rfl rfl rfl ?_
    (simp only [ht,iI];simp_all [xO.no,bz.zero];done)
   simp [ht] at h12
   cbv
   refine ⟨?_,?_⟩
   ·(simp only [ht,aa] at*;omega)
   cbv
   refine bf (_,_,_,_,_,_) (by simp only [ht];rfl) m ?_ ((eg _ _ _ _ _ _ _).2 ?_)
   ·omega
   simp only [aa]
   (have g:=gb (by assumption);exact ⟨Int.lt_of_le_of_lt g.2.2.1 (by ((try simp only [aa] at*);omega)),⟨k+1,by rw [bZ (by decide) (by decide)];((try simp only [aa] at*);omega),by omega⟩,by rw [j4,if_pos (by assumption)];rfl⟩)
  simp [ht] at h10
 cbv
 refine ai (fun K7=>?_) (fun K7=>?_)
 ·simp [ht] at K7
 simp [ht] at K7
 cbv
 refine an trivial trivial rfl rfl rfl ?_
 (have hn:n=0:=(by ((try simp only [aa] at*);omega));rw [hn,jS] at j4;simp only [ht,iI,j4];done)
end Dem
end
