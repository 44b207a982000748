/- Parts of a proof, joined. -/
import Derived.Test.YtihohjnkkalgiaaGreatDoorU06
set_option linter.all false
set_option maxRecDepth 100000
set_option maxHeartbeats 4000000
section
open Go Dem Go.Proofs
namespace Dem
variable {t:Th}
theorem BM (ht:TT t) {es:List (List D)} (aC:∀r∈es,r.length=9) (hs:es.length*80≤140737488355328) {m:Nat} (hm:m=es.length):
 FC 106 [SL es] [] (.ret (.ow 0 9 m)) [.row 9 es]:=by
 refine cr ht Tryz.func106 (N:=8) ?_
 cbv
 refine ⟨fun b hb=>?_⟩
 simp only [ht] at hb
 cbv
 apply ap<;>intro h
 ·have he:=hb h
  subst he
  cbv
  exact He trv rfl rfl (by rw [hm];rfl) rfl
 clear hb h
 cbv
 refine ⟨?_,?_⟩
 ·simp only [ht];simp;exact ⟨hs,aC⟩
 refine CD trv rfl rfl rfl rfl ?_ ?_
 ·simp only [ht];rw [hm];simp
 simp only [ht];rfl
theorem Fg (ht:TT t) {es:List (List D)} {x:D} {row:List D} {i n c:Nat} (hn:n=es.length) (hi:i≤n) (hc:n≤c) (hc0:n=0→c=0) (aC:∀r∈es,r.length=9) (hrow:(x::row).length=9) (hs:n<1000000) {r:List (List D)} (hr:r=es.take i++(x::row)::es.drop i):
 FC 144 [.vw 0 9 0 n c true,bD (i:Int),SL [x::row]] [.row 9 es] (.ret (SL r)) [.dead]:=by
 obtain ⟨n1,Cx⟩:∃n1,n1=n+1:=⟨_,rfl⟩
 obtain ⟨i1,hi1⟩:∃i1,i1=i+1:=⟨_,rfl⟩
 obtain ⟨ni,hni⟩:∃ni,ni=n-i:=⟨_,rfl⟩
 obtain ⟨ci,qg⟩:∃ci,ci=c-i:=⟨_,rfl⟩
 obtain ⟨xy,Kj⟩:∃xy,xy=c-i1:=⟨_,rfl⟩
 obtain ⟨pL,uv⟩:∃pL,pL=n1-i:=⟨_,rfl⟩
 have hW:∀P:Prop,((IntKind.i64.wrap ((n:Int)+1)=(n1:Int))→(IntKind.i64.wrap ((n1:Int)-(i:Int))=(pL:Int))→(IntKind.i64.wrap ((i:Int)+1)=(i1:Int))→P)→P:=
  fun P h=>h (by rw [wrap64 (by omega) (by omega)];omega) (by rw [wrap64 (by omega) (by omega)];omega) (by rw [wrap64 (by omega) (by omega)];omega)
 have hrl:r.length=n1:=by rw [hr,List.length_append,List.length_cons,List.length_take,List.length_drop];omega
 have Ww:n≠0→FC 186 [SL [x::row],.vw 0 9 i1 ni xy true] [.row 9 es] (.ret (BL false)) [.row 9 es]:=fun h0=>
  iG Ql Tryz.func186 rfl rfl rfl rfl (tS:=29) (tR:=4) rfl rfl (by intro h;rw [h] at hn;exact h0 hn)
 refine jG ht (bz:=[.row 9 es]) Tryz.func144 rfl rfl (N:=95) rfl rfl (n:=1) rfl rfl ?_
 cbv
 refine bF (.vw 0 9 i ni ci true) [.row 9 es] ?_ ?_ rfl ?_
 ·simp [ht,dR,bN];omega
 ·simp [ht,aV,aP,hni,qg]
 cbv
 refine pX (by simp [ht]) ?_
 cbv
 apply ap<;>intro h
 ·have hin:i=n:=by simp [ht,ah] at h;omega
  clear h
  cbv
  refine bF (.ow 1 9 n1) [.dead,.row 9 r] ?_ ?_ ?_ ?_
  ·simp only [ht]
   refine ⟨⟨hn,by simp;omega,?_⟩,rfl,hn,fun h=>⟨hc0 (by rw [hn,h];rfl),rfl⟩⟩
   intro r hr
   rcases List.mem_append.1 hr with hr|hr
   ·exact aC r hr
   simp at hr;subst hr;exact hrow
  ·simp [ht,Cx,hn]
  ·simp only [ht];rw [hr]
   have:i=es.length:=by omega
   subst this;simp
  cbv
  refine lQ trv ?_ rfl rfl rfl rfl
  simp only [ht];exact hrl.symm
 have hin:i<n:=by simp [ht,ah] at h;omega
 clear h
 have BD:r=(r.drop 0).take n1:=by rw [List.drop_zero,List.take_of_length_le (by omega)]
 cbv
 apply ap<;>intro h2
 ·have Wx:c=n:=by
   refine hW _ fun e1 e2 e3=>?_
   simp [ht,ah,e1] at h2;omega
  clear h2
  obtain ⟨L,hL⟩:∃L:List (List D),L=es.take i++List.replicate (es.length+1-i) [D.str [],D.int IntKind.u64 0,D.int IntKind.u64 0,D.int IntKind.u64 0,D.int IntKind.u64 0,D.int IntKind.u64 0,D.int IntKind.u64 0,D.int IntKind.u64 0,D.int IntKind.u64 0]:=⟨_,rfl⟩
  have I1:L.length=n1:=by rw [hL];simp;omega
  obtain ⟨L1,uw⟩:∃L1,L1=wrote L i [x::row]:=⟨_,rfl⟩
  have mJ:L1.length=n1:=by rw [uw];simp [wrote,I1];omega
  have oN:r=wrote L1 i1 (es.drop i):=by rw [hi1,uw,hL,vV (by omega),hr]
  cbv
  refine bF (.vw 0 9 0 i c true) [.row 9 es] ?_ ?_ rfl ?_
  ·simp [ht,dR,bN];omega
  ·simp [ht,aV,aP]
  cbv
  refine bF (.vw 1 9 0 n1 n1 false) [.row 9 es,.row 9 L] ?_ ?_ ?_ ?_
  ·refine hW _ fun e1 e2 e3=>?_
   simp [ht,ah,e1,e2];omega
  ·refine hW _ fun e1 e2 e3=>?_
   simp [ht,ah,e1,e2];omega
  ·refine hW _ fun e1 e2 e3=>?_
   simp [ht,ah,e1,e2,hL];omega
  cbv
  refine bF (.vw 1 9 i pL pL false) [.row 9 es,.row 9 L] ?_ ?_ rfl ?_
  ·simp [ht,dR,bN];omega
  ·simp [ht,aV,aP,uv]
  cbv
  refine bF (bD 1) [.row 9 es,.row 9 L1] ?_ ?_ ?_ ?_
  ·simp only [ht,eR]
   refine ⟨⟨by omega,?_⟩,?_⟩
   ·intro h;rw [h] at I1;simp at I1;omega
   intro r hr;have:=List.mem_of_mem_take hr;simp at this;rw [this];exact hrow
  ·simp [ht,ah];omega
  ·simp [ht,uw,show min 1 pL=1 by omega]
  cbv
  refine bS [false,false,false,false,false,false,false,false,true] ?_
  cbv
  repeat (refine gI (by (simp;done)) ?_)
  refine iy (.vw 1 9 i1 ni ni false) (fun _=>⟨?_,?_⟩) ?_
  ·refine hW _ fun e1 e2 e3=>?_
   simp [ht,ah,e3,dR,bN];omega
  ·refine hW _ fun e1 e2 e3=>?_
   simp [ht,ah,e3,aV,aP];omega
  cbv
  repeat (refine gI (by (simp;done)) ?_)
  refine iy (.vw 0 9 i ni ci true) (fun _=>⟨?_,?_⟩) ?_
  ·simp [ht,dR,bN];omega
  ·simp [ht,aV,aP,hni,qg]
  cbv
  refine bF (bD (ni:Nat)) [.row 9 es,.row 9 r,.bq] ?_ ?_ ?_ ?_
  ·simp only [ht,eR]
   refine ⟨by omega,⟨by omega,?_⟩,?_⟩
   ·intro h;rw [h] at mJ;simp at mJ;omega
   intro r hr;exact aC r (List.mem_of_mem_drop (List.mem_of_mem_take hr))
  ·simp [ht,ah]
  ·simp only [ht,oN]
   rw [List.take_of_length_le (by simp;omega)]
  cbv
  refine zw [true] trv ?_ rfl rfl rfl ?_
  ·simp only [ht];omega
  simp only [ht];rw [←BD]
 have Wx:n<c:=by
  refine hW _ fun e1 e2 e3=>?_
  simp [ht,ah,e1] at h2;omega
 clear h2
 obtain ⟨L1,uw⟩:∃L1,L1=wrote es i1 (es.drop i):=⟨_,rfl⟩
 have oN:r=wrote L1 i [x::row]:=by rw [uw,hi1,E2 (by omega),hr]
 have mJ:L1.length=n1:=by rw [uw];simp [wrote];omega
 cbv
 refine bF (.vw 0 9 0 n1 c true) [.row 9 es] ?_ ?_ rfl ?_
 ·refine hW _ fun e1 e2 e3=>?_
  simp [ht,ah,e1,dR,bN];omega
 ·refine hW _ fun e1 e2 e3=>?_
  simp [ht,ah,e1,aV,aP]
 cbv
 refine bF (.vw 0 9 i1 ni xy true) [.row 9 es] ?_ ?_ rfl ?_
 ·refine hW _ fun e1 e2 e3=>?_
  simp [ht,ah,e3,dR,bN];omega
 ·refine hW _ fun e1 e2 e3=>?_
  simp [ht,ah,e3,aV,aP];omega
 cbv
 refine dx trv (Ww (by omega)) ?_
 cbv
 refine lA (by simp [ht]) ?_
 cbv
 refine bS [false,false,false,false,false,false,false,false,true] ?_
 cbv
 repeat (refine gI (by (simp;done)) ?_)
 refine iy (.vw 0 9 i1 ni xy true) (fun _=>⟨?_,?_⟩) ?_
 ·refine hW _ fun e1 e2 e3=>?_
  simp [ht,ah,e3,dR,bN];omega
 ·refine hW _ fun e1 e2 e3=>?_
  simp [ht,ah,e3,aV,aP];omega
 cbv
 repeat (refine gI (by (simp;done)) ?_)
 refine iy (.vw 0 9 i pL ci true) (fun _=>⟨?_,?_⟩) ?_
 ·simp [ht,dR,bN];omega
 ·simp [ht,aV,aP,uv,qg]
 cbv
 refine bF (bD (ni:Nat)) [.row 9 L1,.bq] ?_ ?_ ?_ ?_
 ·simp only [ht,eR]
  refine ⟨by omega,⟨by omega,?_⟩,?_⟩
  ·intro h;rw [h] at hn;simp at hn;omega
  intro r hr;exact aC r (List.mem_of_mem_drop (List.mem_of_mem_take hr))
 ·simp [ht,ah];omega
 ·simp only [ht,uw]
  rw [List.take_of_length_le (by simp;omega)]
 cbv
 refine bF (.vw 0 9 i pL ci true) [.row 9 L1,.bq] ?_ ?_ rfl ?_
 ·simp [ht,dR,bN];omega
 ·simp [ht,aV,aP,uv,qg]
 cbv
 refine bF (bD 1) [.row 9 r,.bq] ?_ ?_ ?_ ?_
 ·simp only [ht,eR]
  refine ⟨⟨by omega,?_⟩,?_⟩
  ·intro h;rw [h] at mJ;simp at mJ;omega
  intro r hr;have:=List.mem_of_mem_take hr;simp at this;rw [this];exact hrow
 ·simp [ht,ah];omega
 ·simp [ht,oN,show min 1 pL=1 by omega]
 cbv
 refine zw [true] trv ?_ rfl rfl rfl ?_
 ·simp only [ht];omega
 simp only [ht];rw [←BD]
theorem Ia (ht:TT t) {es:List (List D)} {x:D} {row:List D} {i n:Nat} (hn:n=es.length) (hi:i≤n) (aC:∀r∈es,r.length=9) (hrow:(x::row).length=9) (hs:n<1000000) {r:List (List D)} (hr:r=es.take i++(x::row)::es.drop i):
 FC 144 [.ow 0 9 n,bD (i:Int),SL [x::row]] [.row 9 es] (.ret (SL r)) [.dead]:=
 dX fun c hc hc0=>Fg ht hn hi hc hc0 aC hrow hs hr
theorem Q7 (ht:TT t) (q:aH) {l:List (aR)} {es:List (List D)} (aC:es=l.map aR.cells) (f:Nat) (p:aR→Bool) (hl:l.length<9223372036854775807)
 (hf:∀x∈l,FC f [.agg [ST x.path,az x.dD.a,az x.dD.b,az x.dD.c,az x.dD.d,az x.used.a,az x.used.b,az x.used.c,az x.used.d],.ptr 0 0] [.var [ST q]] (.ret (BL (p x))) [.var [ST q]]) {r:Int} (hr:r=idxOf p l):FC 135 [SL es,.fn f [.ptr 0 0]] [.var [ST q]] (.ret (bD r)) [.var [ST q]]:=by
 have hel:es.length=l.length:=by rw [aC,lgM]
 refine jG ht (bz:=[.var [ST q]]) Tryz.func135 rfl rfl (N:=19) rfl rfl (n:=1) rfl rfl ?_
 cbv
 refine bA ⟨[0,1,7,8],[],[]⟩ (σ:=Nat) (fun k=>[(8,bD (t _ fun _=>(k:Int)))]) (fun _=>[]) (tF p l) ?_
 cbv
 refine aE ⟨l.length,0,.nil,by simp only [ht];rfl,fun n k hj=>?_⟩
 cbv
 apply ap<;>intro h
 ·simp only [ht,ah,decide_eq_true_eq] at h
  have hk:k<es.length:=by omega
  obtain ⟨x,hx,mQ,px,hpx⟩:=hj.get (by omega)
  have gJ:=hf x mQ
  rw [←hpx] at gJ
  obtain ⟨nm,⟨a,b,c,d⟩,⟨e,g,u,v⟩⟩:=x
  cbv
  refine ix [.str nm,.int .u64 a,.int .u64 b,.int .u64 c,.int .u64 d,.int .u64 e,.int .u64 g,.int .u64 u,.int .u64 v] ?_ ?_ ?_
  ·simp only [ht,ah];exact pK aC hk fun _=>rfl
  ·simp [ht,ah,aC,hx]
  cbv
  refine dx trv gJ ?_
  cbv
  apply ap<;>intro hb
  ·cbv
   refine an ?_
   simp only [ht,ah,hr,hj.hit hx (hpx▸hb)]
  cbv
  refine aE ⟨n-1,k+1,⟨hj.lt hx,hj.next hx (hpx▸hb)⟩,?_⟩
  simp only [ht,ah,aB (show k<9223372036854775807 by omega)];rfl
 simp only [ht,ah,decide_eq_false_iff_not] at h
 have hk:l.length≤k:=by omega
 clear h
 cbv
 refine an ?_
 rw [hr,hj.none hk]
theorem WJ (ht:TT t) (q:aH) (x:aR) {r:Bool} (hr:r=!Op.bytesLess x.path q):FC 143 [.agg [ST x.path,az x.dD.a,az x.dD.b,az x.dD.c,az x.dD.d,az x.used.a,az x.used.b,az x.used.c,az x.used.d],.ptr 0 0] [.var [ST q]] (.ret (BL r)) [.var [ST q]]:=by
 obtain ⟨nm,⟨a,b,c,d⟩,⟨e,g,u,v⟩⟩:=x
 refine jG ht (bz:=[.var [ST q]]) Tryz.func143 rfl rfl (N:=8) rfl rfl (n:=1) rfl rfl ?_
 cbv
 refine an ?_
 simp only [ht,hr]
theorem yV (ht:TT t) {l:List aR} {es:List (List D)} (aC:es=l.map aR.cells) (hs:l.length<1000000000):
 FC 106 [SL es] [] (.ret (.ow 0 9 (t _ fun _=>(l.map aR.cells).length))) [.row 9 (t _ fun _=>l.map aR.cells)]:=by
 simp only [ht];subst aC
 refine BM ht ?_ ?_ (by simp)
 ·intro r hr;obtain ⟨y,_,rfl⟩:=List.mem_map.1 hr;rfl
 simp;omega
theorem v7 (ht:TT t) {l:List aR} {x:aR} {k:Nat} {i:Int} (hi:i=k) (hk:k≤l.length) (hl:l.length<1000000):
 FC 144 [.ow 0 9 (t _ fun _=>(l.map aR.cells).length),bD i,.cl [aR.cells x]] [.row 9 (t _ fun _=>l.map aR.cells)] (.ret (SL (t _ fun _=>(l.take k++x::l.drop k).map aR.cells))) [.dead]:=by
 simp only [ht];subst hi
 refine pn (args':=[.ow 0 9 (l.map aR.cells).length,bD k,SL [aR.cells x]]) ?_ (Ia ht (by simp) (by simpa using hk) ?_ rfl (by simpa using hl) (by simp))
 ·intro β w ok vs h
  simp only [ak] at h ⊢
  obtain ⟨u1,us1,rfl,h1,u2,Pn,rfl,h2,u3,WC,rfl,h3,h4⟩:=h
  exact ⟨u1,_,rfl,h1,u2,_,rfl,h2,u3,WC,rfl,L5 h3,h4⟩
 intro r hr;obtain ⟨y,_,rfl⟩:=List.mem_map.1 hr;rfl
theorem elemAt {α:Type} [Inhabited α] (l:List α) (k:Nat):∃x,k<l.length→l[k]?=some x:=by
 by_cases h:k<l.length
 ·exact ⟨l[k],fun _=>List.getElem?_eq_getElem h⟩
 exact ⟨default,fun h'=>absurd h' h⟩
theorem Q8 {t:Th} (ht:TT t) {α:Type} {l:List α} {cells cT:α→List D} {es:List (List D)} {g:Bool} {c:Prop} (aC:es=l.map cells) {z:Int} {n:Nat} (i:Nat) (x:α) {K:List D→Prop} (hi:g=true→z=i∧l[i]?=some x) (hn:∀x,(cells x).length=n) (hT:∀x,cells x=cT x)
 (hc:g=true→c) (hK:K (cT x)):nK g (c∧(t Prop fun _=>0≤z∧z<es.length∧∀r∈es,r.length=n)) (t _ fun _=>es.getD z.toNat []) K:=by
 refine Tu (cT x) (fun hg=>?_) hK
 obtain ⟨h1,h2⟩:=hi hg
 obtain ⟨ds,h,hk⟩:=zx (K:=fun ds=>ds=cT x) ht aC h2 h1 hn hT rfl
 obtain ⟨h3,h4⟩:=h rfl
 exact ⟨⟨hc hg,h3⟩,h4.trans hk⟩
theorem rH {l:List aR} {q:aH} {r:Int} (h:r=bP l q):(r=-1∧bP l q=-1∧l.findIdx? (fun e=>decide (e.path=q))=none)∨∃(k:Nat) (x:aR),r=k∧bP l q=k∧k<l.length∧l[k]?=some x∧l.findIdx? (fun e=>decide (e.path=q))=some k:=by
 rcases cD (p:=fun e:aR=>decide (e.path=q)) (l:=l) (r:=r) h with ⟨e1,e2,e3⟩|⟨i,x,hi,hil,e1,e2,e3,e4⟩
 ·exact .inl ⟨e1,by rw [←h,e1],e2⟩
 exact .inr ⟨i,x,hi,by rw [←h,hi],hil,e1,e3⟩
def Ua (l:List aR) (q:aH):Nat:=match l.findIdx? (fun e=>!Op.bytesLess e.path q) with
 |some k=>k
 |none=>l.length
theorem DM {l:List aR} {q:aH} {v:bE} (h:l.findIdx? (fun e=>decide (e.path=q))=none) (h1:named q=true) (h2:¬q=[]→0≤bP l (parent q)) (h3:bP l q<0→(l.length:Int)<16):
 vJ l q v=(l.take (Ua l q)++⟨q,v,bE.zero⟩::l.drop (Ua l q),0):=by
 have e0:bP l q=-1:=by unfold bP idxOf;rw [h]
 have h3:=h3 (by omega)
 unfold vJ Ua
 rw [if_neg (by simp [h1]),if_neg (by simp;exact fun g=>by have:=h2 g;omega),if_neg (by simp;omega)]
 simp only [h]
 cases l.findIdx? (fun e=>!Op.bytesLess e.path q)<;>simp
theorem NO {l:List aR} {q:aH} {v:bE} (h1:named q=true) (h2:¬q=[]→0≤bP l (parent q)) (h3:bP l q<0) (h4:(16:Int)≤l.length):vJ l q v=(l,9):=by
 unfold vJ
 rw [if_neg (by simp [h1]),if_neg (by simp;exact fun g=>by have:=h2 g;omega),if_pos (by simp;omega)]
theorem DN {l:List aR} {q:aH} {v:bE} {k:Nat} {x:aR} (h:l.findIdx? (fun e=>decide (e.path=q))=some k) (hx:l[k]?=some x) (h1:named q=true) (h2:¬q=[]→0≤bP l (parent q)):
 vJ l q v=if mE x.used v then (l.set k {x with dD:=v},0) else (l,10):=by
 have e0:bP l q=k:=by unfold bP idxOf;rw [h]
 unfold vJ
 rw [if_neg (by simp [h1]),if_neg (by simp;exact fun g=>by have:=h2 g;omega),if_neg (by simp;omega)]
 simp only [h,List.getD_eq_getElem?_getD,hx,Option.getD_some]
 cases mE x.used v<;>simp
theorem zQ (ht:TT t) (q:aH) (a b c d:Int) {l:List aR} {es:List (List D)} (aC:es=l.map aR.cells) (hl:l.length<100000) (hq:q.length<1000000000000) (hpq:(parent q).length<1000000000000):
 FC 92 [SL es,ST q,V4 a b c d] [] (.ret (BK t (t _ fun _=>vJ l q ⟨a,b,c,d⟩))) []:=by
 obtain ⟨pq,I2⟩:∃p,p=parent q:=⟨_,rfl⟩
 obtain ⟨nq,FL⟩:∃p,p=named q:=⟨_,rfl⟩
 refine cr ht Tryz.func92 (N:=77) ?_
 cbv
 have aF:es.length=l.length:=by rw [aC,lgM]
 refine aG (kD ht _ ‹_› (by omega)) trv (fun r0 cN=>?_)
 simp only [ht] at cN
 (rcases rH (q:=q) cN with ⟨e1,e0,e2⟩|⟨i,x,e1,e0,hil,e3,e2⟩)
 ·cbv
  refine aG (vZ ht _ ‹_›) trv (fun r1 cM=>?_)
  simp only [ht] at cM
  rw [←FL] at cM
  subst r1
  cbv
  apply ap<;>intro h2
  ·simp [ht] at h2
   cbv
   refine an ?_
   (subst I2 FL;simp_all [vJ];done)
  simp [ht] at h2
  cbv
  iterate 2 refine gI (by simp [ht]) ?_
  refine cj (fun g3=>⟨by simp [ht] at g3 ⊢;exact g3,trv,sP ht _ ‹_›⟩) rfl rfl (fun r4 iY=>?_)
  simp only [ht] at iY
  rw [←I2] at iY
  subst r4
  cbv
  refine cj (fun g5=>⟨by simp [ht] at g5 ⊢;exact g5,trv,kD ht _ ‹_› (by omega)⟩) rfl rfl (fun r6 mL=>?_)
  simp only [ht] at mL
  skip
  cbv
  refine gI (by simp [ht]) ?_
  refine pI (by simp [ht]) ?_
  apply ap<;>intro h7
  ·simp [ht] at h7
   cbv
   refine an ?_
   (subst I2 FL;simp_all [vJ];done)
  simp [ht] at h7
  cbv
  iterate 3 refine gI (by simp [ht]) ?_
  refine pI (by simp [ht]) ?_
  apply ap<;>intro h8
  ·simp [ht,ah,aF] at h8
   cbv
   refine an ?_
   (simp only [ht];rw [NO (by rw [←FL];assumption) (fun g=>by rw [←I2,←mL];exact h7 g) (by omega) h8.2];simp [aC];done)
  simp [ht,ah,aF] at h8
  cbv
  refine bS [true,true,true,false,false,false,false,false,false,true,true,true,true] ?_
  cbv
  iterate 2 refine gI (by simp [ht]) ?_
  (refine Q8 ht aC (cT:=aR.aS t) 0 default (fun g=>absurd g (by simp [ht,e1])) (fun _=>rfl) (fun _=>by simp only [aR.aS]) (fun g=>by exact ⟨g,g,trv⟩) ?_)
  cbv
  iterate 3 refine gI (by simp [ht]) ?_
  refine cj (fun g9=>⟨by simp [ht] at g9 ⊢;exact g9,trv,oq ht _ _ _ _ _ _ _ _⟩) rfl rfl (fun r10 WK=>?_)
  simp only [ht] at WK
  cbv
  refine gI (by simp [ht]) ?_
  refine pI (by simp [ht]) ?_
  apply ap<;>intro h11
  ·simp [ht] at h11
   omega
  simp [ht] at h11
  cbv
  refine jY trv (yV ht ‹_› (by omega)) trv rfl (.inr rfl) ?_
  cbv
  apply ap<;>intro h12
  ·simp [ht] at h12
   omega
  simp [ht] at h12
  cbv
  (obtain ⟨r9,gD⟩:∃r,r=idxOf (fun o:aR=>!Op.bytesLess o.path q) l:=⟨_,rfl⟩;refine dJ [0] trv rfl rfl (Q7 ht q aC 143 (fun o:aR=>!Op.bytesLess o.path q) (by omega) (fun x _=>WJ ht q x rfl) gD) (cA ?_);have ec:=cD gD;clear gD;rcases ec with ⟨f1,f2,f3⟩|⟨z,y,f0,fz,f1,f2,f3,f4⟩)
  ·cbv
   apply ap<;>intro VB
   ·simp [ht] at VB
    cbv
    refine dJ [3] trv rfl rfl (v7 ht (l:=l) (x:=⟨q,⟨a,b,c,d⟩,bE.zero⟩) (k:=Ua l q) (by (simp [ht,Ua,f2,aF];done)) (by (simp [Ua,f2];done)) (by simp only [ah] at*;omega)) (cA ?_)
    cbv
    refine an ?_
    (simp only [ht];rw [DM e2 (by rw [←FL];assumption) (fun g=>by rw [←I2,←mL];exact h7 g) (fun g=>h8 (by omega))])
   simp [ht] at VB
   omega
  cbv
  apply ap<;>intro Sz
  ·simp [ht] at Sz
   (simp only [ah] at*;omega)
  simp [ht] at Sz
  cbv
  refine dJ [3] trv rfl rfl (v7 ht (l:=l) (x:=⟨q,⟨a,b,c,d⟩,bE.zero⟩) (k:=Ua l q) (by (simp only [Ua,f3];exact f0)) (by (simp only [Ua,f3];omega)) (by simp only [ah] at*;omega)) (cA ?_)
  cbv
  refine an ?_
  (simp only [ht];rw [DM e2 (by rw [←FL];assumption) (fun g=>by rw [←I2,←mL];exact h7 g) (fun g=>h8 (by omega))])
 cbv
 refine aG (vZ ht _ ‹_›) trv (fun r15 Zm=>?_)
 simp only [ht] at Zm
 rw [←FL] at Zm
 subst r15
 cbv
 apply ap<;>intro VC
 ·simp [ht] at VC
  cbv
  refine an ?_
  (subst I2 FL;simp_all [vJ];done)
 simp [ht] at VC
 cbv
 iterate 2 refine gI (by simp [ht]) ?_
 refine cj (fun g17=>⟨by simp [ht] at g17 ⊢;exact g17,trv,sP ht _ ‹_›⟩) rfl rfl (fun r18 Zn=>?_)
 simp only [ht] at Zn
 rw [←I2] at Zn
 subst r18
 cbv
 refine cj (fun g19=>⟨by simp [ht] at g19 ⊢;exact g19,trv,kD ht _ ‹_› (by omega)⟩) rfl rfl (fun r20 WL=>?_)
 simp only [ht] at WL
 skip
 cbv
 refine gI (by simp [ht]) ?_
 refine pI (by simp [ht]) ?_
 apply ap<;>intro h21
 ·simp [ht] at h21
  cbv
  refine an ?_
  (subst I2 FL;simp_all [vJ];done)
 simp [ht] at h21
 cbv
 iterate 3 refine gI (by simp [ht]) ?_
 refine pI (by simp [ht]) ?_
 apply ap<;>intro h22
 ·simp [ht,ah,aF] at h22
  (simp only [ah] at*;omega)
 simp [ht,ah,aF] at h22
 cbv
 refine bS [true,true,true,false,false,false,false,false,false,true,true,true,true] ?_
 cbv
 iterate 2 refine gI (by simp [ht]) ?_
 (refine Q8 ht aC (cT:=aR.aS t) i x (fun g=>⟨e1,e3⟩) (fun _=>rfl) (fun _=>by simp only [aR.aS]) (fun g=>by exact ⟨g,g,trv⟩) ?_)
 cbv
 iterate 3 refine gI (by simp [ht]) ?_
 refine cj (fun g23=>⟨by simp [ht] at g23 ⊢;exact g23,trv,oq ht _ _ _ _ _ _ _ _⟩) rfl rfl (fun r24 abv=>?_)
 simp only [ht] at abv
 cbv
 refine gI (by simp [ht]) ?_
 refine pI (by simp [ht]) ?_
 apply ap<;>intro h25
 ·simp [ht] at h25
  cbv
  refine an ?_
  (have ts:=DN (v:=⟨a,b,c,d⟩) e2 e3 (by rw [←FL];assumption) (fun g=>by rw [←I2,←WL];exact h21 g);simp only [ht];rw [ts];simp_all;done)
 simp [ht] at h25
 cbv
 refine jY trv (yV ht ‹_› (by omega)) trv rfl (.inr rfl) ?_
 cbv
 apply ap<;>intro h26
 ·simp [ht] at h26
  cbv
  refine ⟨?_,?_⟩
  ·(subst I2 FL;simp_all;done)
  refine ⟨?_,?_⟩
  ·(subst I2 FL;simp_all;done)
  cbv
  refine lQ trv (by simp [ht]) rfl rfl rfl ?_
  (have ts:=DN (v:=⟨a,b,c,d⟩) e2 e3 (by rw [←FL];assumption) (fun g=>by rw [←I2,←WL];exact h21 g);simp only [ht];rw [ts];simp_all [List.map_set,be];done)
 simp [ht] at h26
 (simp only [ah] at*;omega)
def Q9 (r:aR×Int):AV:=.ek [Zk r.1,bD r.2]
theorem Ml (ht:TT t) (a0 a1 a2 a3 b0 b1 b2 b3:Int):FC 137 [V4 a0 a1 a2 a3,V4 b0 b1 b2 b3] [] (.ret (Zb (t _ fun _=>iV ⟨a0,a1,a2,a3⟩ ⟨b0,b1,b2,b3⟩))) []:=by
 simp only [ht];exact QN ht _ _ _ _ _ _ _ _ rfl
theorem Ub (ht:TT t) (a0 a1 a2 a3 b0 b1 b2 b3:Int):FC 170 [V4 a0 a1 a2 a3,V4 b0 b1 b2 b3] [] (.ret (Zb (t _ fun _=>eH ⟨a0,a1,a2,a3⟩ ⟨b0,b1,b2,b3⟩))) []:=by
 simp only [ht];exact E5 ht _ _ _ _ _ _ _ _ rfl
theorem Kv (ht:TT t) (v1 v2 v3 v4:Int) (p:aH) (a b c d e f g h:Int):
 FC 105 [V4 v1 v2 v3 v4,.agg [ST p,az a,az b,az c,az d,az e,az f,az g,az h]] [] (.ret (Q9 (t _ fun _=>fL ⟨v1,v2,v3,v4⟩ ⟨p,⟨a,b,c,d⟩,⟨e,f,g,h⟩⟩))) []:=by
 obtain ⟨⟨⟨s1,s2,s3,s4⟩,k⟩,hS⟩:∃r,r=iV ⟨e,f,g,h⟩ ⟨v1,v2,v3,v4⟩:=⟨_,rfl⟩
 refine cr ht Tryz.func105 (N:=28) ?_
 cbv
 refine gF trv (QN ht _ _ _ _ _ _ _ _ ‹_›) trv rfl rfl ?_
 cbv
 apply ap<;>intro h0
 ·simp [ht] at h0
  cbv
  refine an ?_
  (simp only [ht,fL,←hS];simp_all;done)
 simp [ht] at h0
 cbv
 refine aG (oq ht _ _ _ _ _ _ _ _) trv (fun r1 cM=>?_)
 simp only [ht] at cM
 cbv
 apply ap<;>intro h2
 ·simp [ht] at h2
  cbv
  refine an ?_
  (simp only [ht,fL,←hS];simp_all;done)
 simp [ht] at h2
 cbv
 refine an ?_
 (simp only [ht,fL,←hS];simp_all;done)
theorem Kw (ht:TT t) (v1 v2 v3 v4:Int) (p:aH) (a b c d e f g h:Int):
 FC 159 [V4 v1 v2 v3 v4,.agg [ST p,az a,az b,az c,az d,az e,az f,az g,az h]] [] (.ret (Q9 (t _ fun _=>eJ ⟨v1,v2,v3,v4⟩ ⟨p,⟨a,b,c,d⟩,⟨e,f,g,h⟩⟩))) []:=by
 obtain ⟨⟨⟨s1,s2,s3,s4⟩,k⟩,hS⟩:∃r,r=eH ⟨e,f,g,h⟩ ⟨v1,v2,v3,v4⟩:=⟨_,rfl⟩
 refine cr ht Tryz.func159 (N:=22) ?_
 cbv
 refine gF trv (E5 ht _ _ _ _ _ _ _ _ ‹_›) trv rfl rfl ?_
 cbv
 apply ap<;>intro h0
 ·simp [ht] at h0
  cbv
  refine an ?_
  (simp only [ht,eJ,←hS];simp_all;done)
 simp [ht] at h0
 cbv
 refine an ?_
 (simp only [ht,eJ,←hS];simp_all;done)
theorem Uc (ht:TT t) (q:aH) {l:List aR} {es:List (List D)} (aC:es=l.map aR.cells) (hl:l.length<1000000000) {r:Bool} (hr:r=decide (bP l q<0)):
 FC 157 [ST q,.ptr 0 0] [.var [SL es]] (.ret (BL r)) [.var [SL es]]:=by
 refine jG ht (bz:=[.var [SL es]]) Tryz.func157 rfl rfl (N:=8) rfl rfl (n:=1) rfl rfl ?_
 cbv
 have aF:es.length=l.length:=by rw [aC,lgM]
 refine aG (kD ht _ ‹_› ‹_›) trv (fun r0 cN=>?_)
 simp only [ht] at cN
 cbv
 refine an ?_
 (simp [*];done)
theorem NP (ht:TT t) (ts:List (List D)) {l:List (aH)} {es:List (List D)} (aC:es=l.map bB) (f:Nat) (p:aH→Bool) (hl:l.length<9223372036854775807)
 (hf:∀x∈l,FC f [.d (.str x),.ptr 0 0] [.var [SL ts]] (.ret (BL (p x))) [.var [SL ts]]) {r:Int} (hr:r=idxOf p l):FC 199 [SL es,.fn f [.ptr 0 0]] [.var [SL ts]] (.ret (bD r)) [.var [SL ts]]:=by
 have hel:es.length=l.length:=by rw [aC,lgM]
 refine jG ht (bz:=[.var [SL ts]]) Tryz.func199 rfl rfl (N:=19) rfl rfl (n:=1) rfl rfl ?_
 cbv
 refine bA ⟨[0,1,7,8],[],[]⟩ (σ:=Nat) (fun k=>[(8,bD (t _ fun _=>(k:Int)))]) (fun _=>[]) (tF p l) ?_
 cbv
 refine aE ⟨l.length,0,.nil,by simp only [ht];rfl,fun n k hj=>?_⟩
 cbv
 apply ap<;>intro h
 ·simp only [ht,ah,decide_eq_true_eq] at h
  have hk:k<es.length:=by omega
  obtain ⟨x,hx,mQ,px,hpx⟩:=hj.get (by omega)
  have gJ:=hf x mQ
  rw [←hpx] at gJ
  skip
  cbv
  refine ix [.str x] ?_ ?_ ?_
  ·simp only [ht,ah];exact pK aC hk fun _=>rfl
  ·simp [ht,ah,aC,hx]
  cbv
  refine dx trv gJ ?_
  cbv
  apply ap<;>intro hb
  ·cbv
   refine an ?_
   simp only [ht,ah,hr,hj.hit hx (hpx▸hb)]
  cbv
  refine aE ⟨n-1,k+1,⟨hj.lt hx,hj.next hx (hpx▸hb)⟩,?_⟩
  simp only [ht,ah,aB (show k<9223372036854775807 by omega)];rfl
 simp only [ht,ah,decide_eq_false_iff_not] at h
 have hk:l.length≤k:=by omega
 clear h
 cbv
 refine an ?_
 rw [hr,hj.none hk]
theorem NQ (ht:TT t) (ts:List (List D)) {l:List (aH)} {es:List (List D)} (aC:es=l.map bB) (f:Nat) (p:aH→Bool) (hl:l.length<9223372036854775807)
 (hf:∀x∈l,FC f [.d (.str x),.ptr 0 0] [.var [SL ts]] (.ret (BL (p x))) [.var [SL ts]]) {r:Bool} (hr:r=l.any p):FC 156 [SL es,.fn f [.ptr 0 0]] [.var [SL ts]] (.ret (BL r)) [.var [SL ts]]:=by
 obtain ⟨k,hk⟩:∃k,k=idxOf p l:=⟨_,rfl⟩
 refine jG ht (bz:=[.var [SL ts]]) Tryz.func156 rfl rfl (N:=9) rfl rfl (n:=1) rfl rfl ?_
 cbv
 refine dx trv (NP ht ts aC f p hl hf hk) ?_
 cbv
 refine an ?_
 simp only [ht,hr,fh,hk]
theorem NR (ht:TT t) {l:List aR} {qs:List aH} {es ss:List (List D)} (aC:es=l.map aR.cells) (hss:ss=qs.map bB) (hl:l.length<1000000000) (hq:qs.length<1000000000) {r:Bool} (hr:r=qs.any (fun q=>decide (bP l q<0))):
 FC 156 [SL ss,.fn 157 [.ptr 0 0]] [.var [SL es]] (.ret (BL r)) [.var [SL es]]:=
 NQ ht es hss 157 (fun q=>decide (bP l q<0)) (by omega) (fun x _=>Uc ht x aC hl rfl) hr
theorem Ib (ht:TT t) {es:List (List D)} (aC:∀r∈es,r.length=9) (hs:es.length*80≤140737488355328) {m:Nat} (hm:m=es.length):
 FC 158 [SL es] [] (.ret (.ow 0 9 m)) [.row 9 es]:=by
 refine cr ht Tryz.func158 (N:=8) ?_
 cbv
 refine ⟨fun b hb=>?_⟩
 simp only [ht] at hb
 cbv
 apply ap<;>intro h
 ·have he:=hb h
  subst he
  cbv
  exact He trv rfl rfl (by rw [hm];rfl) rfl
 clear hb h
 cbv
 refine ⟨?_,?_⟩
 ·simp only [ht];simp;exact ⟨hs,aC⟩
 refine CD trv rfl rfl rfl rfl ?_ ?_
 ·simp only [ht];rw [hm];simp
 simp only [ht];rfl
theorem Fh (ht:TT t) {l:List aR} {es:List (List D)} (aC:es=l.map aR.cells) (hs:l.length<1000000000):
 FC 158 [SL es] [] (.ret (.ow 0 9 (t _ fun _=>(l.map aR.cells).length))) [.row 9 (t _ fun _=>l.map aR.cells)]:=by
 simp only [ht];subst aC
 refine Ib ht ?_ ?_ (by simp)
 ·intro r hr;obtain ⟨y,_,rfl⟩:=List.mem_map.1 hr;rfl
 simp;omega
theorem NS (q:aH):(above q).length≤4:=by
 have h1:=iz q
 have h2:=kq q
 simp only [above,List.length_cons];omega
theorem WM {l:List aR} {qs:List aH} {k:Nat} {x:aH} (h:qs.any (fun q=>decide (bP l q<0))=false) (hx:qs[k]?=some x):∃(i:Nat) (y:aR),bP l x=i∧l[i]?=some y∧i<l.length:=by
 have h1:¬bP l x<0:=by
  intro h2
  have:qs.any (fun q=>decide (bP l q<0))=true:=List.any_eq_true.2 ⟨x,List.mem_of_getElem? hx,by simpa using h2⟩
  rw [h] at this;cases this
 rcases rH (q:=x) (r:=bP l x) rfl with ⟨e1,_,_⟩|⟨i,y,e1,_,e2,e3,_⟩
 ·omega
 exact ⟨i,y,e1,e3,e2⟩
theorem Mm (ht:TT t) (f:Nat) (g:aR→aR×Int) (v1 v2 v3 v4:Int) (q:aH) {l:List aR} {es:List (List D)} (aC:es=l.map aR.cells) (hl:l.length<100000) (hq:q.length<1000000000000)
 (hf:∀(p:aH) (a b c d e z g0 h:Int),FC f [V4 v1 v2 v3 v4,.agg [ST p,az a,az b,az c,az d,az e,az z,az g0,az h]] [] (.ret (Q9 (t _ fun _=>g ⟨p,⟨a,b,c,d⟩,⟨e,z,g0,h⟩⟩))) []):
 FC 104 [SL es,ST q,.fn f [.ek [V4 v1 v2 v3 v4]]] [] (.ret (BK t (t _ fun _=>pZ g l q))) []:=by
 have hal:=NS q
 obtain ⟨nq,FL⟩:∃p,p=named q:=⟨_,rfl⟩
 obtain ⟨aq,Zo⟩:∃p,p=above q:=⟨_,rfl⟩
 rw [←Zo] at hal
 refine cr ht Tryz.func104 (N:=55) ?_
 cbv
 have aF:es.length=l.length:=by rw [aC,lgM]
 refine aG (vZ ht _ ‹_›) trv (fun r0 cN=>?_)
 simp only [ht] at cN
 rw [←FL] at cN
 subst r0
 cbv
 apply ap<;>intro h1
 ·simp [ht] at h1
  cbv
  refine an ?_
  (simp only [ht,pZ,←FL,←Zo];simp_all;done)
 simp [ht] at h1
 cbv
 refine aD (H8 ht _ ‹_›) trv (fun r2 iu=>?_)
 simp only [ht] at iu
 rw [←Zo] at iu
 subst r2
 cbv
 (obtain ⟨r9,gD⟩:∃r,r=aq.any (fun q=>decide (bP l q<0)):=⟨_,rfl⟩;refine dJ [0] trv rfl rfl (NR ht aC (qs:=aq) (by simp only [ht]) (by omega) (by omega) gD) (cA ?_))
 cbv
 apply ap<;>intro h3
 ·cbv
  refine an ?_
  (simp only [ht,pZ,←FL,←Zo];simp_all;done)
 cbv
 refine jY trv (Fh ht ‹_› (by omega)) trv rfl (.inr rfl) ?_
 cbv
 obtain ⟨J4,HY⟩:∃J4:Nat→Int×List (List D)→Prop,∀n i u,J4 n (i,u)↔(∃(k:Nat) (o:List aR),i=k∧k+n=aq.length∧u=o.map aR.cells∧o.length=l.length∧pZ g l q=kr g l (aq.drop k) o):=⟨fun n v=>match v with|(i,u)=>(∃(k:Nat) (o:List aR),i=k∧k+n=aq.length∧u=o.map aR.cells∧o.length=l.length∧pZ g l q=kr g l (aq.drop k) o),fun _ _ _=>Iff.rfl⟩
 refine bA ⟨[2,3,9,27,28,29],[],[]⟩ (σ:=Int×List (List D)) (fun v=>[(29,.d (.int .i64 (t _ fun _=>v.1)))]) (fun v=>[(1,.row 9 (t _ fun _=>v.2))]) J4 ?_
 cbv
 refine aE ⟨aq.length,(_,_),(HY _ _ _).2 ?_,by simp only [ht];rfl,?_⟩
 ·exact ⟨0,l,rfl,by simp,rfl,rfl,by rw [pZ,←FL,←Zo,←gD];simp_all⟩
 rintro n ⟨i,u⟩ hj
 replace hj:=(HY _ _ _).1 hj
 obtain ⟨k,o,rfl,j1,j2,j3,j4⟩:=hj
 have HP:u.length=o.length:=by rw [j2,lgM]
 cbv
 apply ap<;>intro h5
 ·simp [ht,ah] at h5
  cbv
  (refine ig ht (l:=aq) (cells:=bB) (cT:=gC t) (by simp only [ht];done) (by simp only [ht,ah];omega) (by simp only [ht,ah];omega) (fun _=>rfl) (fun _=>rfl) (fun xn VD=>?_);simp only [ht] at VD;replace VD:aq[k]?=some xn:=VD;rw [eI VD,kr] at j4;obtain ⟨zz,y,e1,e2,e3⟩:=WM (gD.symm.trans ‹_›) VD;rw [e1] at j4;simp only [Int.toNat_natCast,List.getD_eq_getElem?_getD,e2,Option.getD_some] at j4)
  cbv
  refine aG (kD ht _ ‹_› (by omega)) trv (fun r6 mL=>?_)
  simp only [ht] at mL
  rw [e1] at mL
  cbv
  refine zx ht aC (cT:=aR.aS t) e2 ‹_› (fun _=>rfl) (fun _=>rfl) ?_
  cbv
  (refine aG (hf _ _ _ _ _ _ _ _ _) trv (fun rg erg=>?_);simp only [ht] at erg;obtain ⟨⟨gp,⟨ga,gb,gc,gd⟩,⟨ge,gf,gg,gh⟩⟩,ge0⟩:=rg;replace erg:_=g y:=erg;rw [←erg] at j4;simp only at j4)
  cbv
  apply ap<;>intro h8
  ·simp [ht] at h8
   cbv
   refine an ?_
   (simp [*];done)
  simp [ht] at h8
  cbv
  refine ⟨?_,?_⟩
  ·(simp only [ht];simp_all;done)
  refine ⟨?_,?_⟩
  ·(simp only [ht];simp_all;done)
  cbv
  refine bG (_,_) (by simp only [ht];rfl) (n-1) ?_ ((HY _ _ _).2 ?_)
  ·omega
  simp only [ah]
  (refine ⟨k+1,o.set zz ⟨gp,⟨ga,gb,gc,gd⟩,⟨ge,gf,gg,gh⟩⟩,aB (by omega),by omega,?_,by simp [j3],?_⟩<;>simp_all [be,List.map_set])
 simp [ht,ah] at h5
 cbv
 (refine lQ trv (by simp only [ht];simp [HP,j3]) rfl rfl rfl ?_;rw [List.drop_eq_nil_of_le (by omega),kr] at j4;simp only [ht,j4,j2];done)
theorem uz (ht:TT t) (q:aH) (v1 v2 v3 v4:Int) {l:List aR} {es:List (List D)} (aC:es=l.map aR.cells) (hl:l.length<100000) (hq:q.length<1000000000000):
 FC 58 [SL es,ST q,V4 v1 v2 v3 v4] [] (.ret (BK t (t _ fun _=>dy l q ⟨v1,v2,v3,v4⟩))) []:=by
 have hc:=Mm ht 105 (fL ⟨v1,v2,v3,v4⟩) v1 v2 v3 v4 q aC hl hq (fun p a b c d e z g0 h=>Kv ht v1 v2 v3 v4 p a b c d e z g0 h)
 refine cr ht Tryz.func58 (N:=16) ?_
 cbv
 have aF:es.length=l.length:=by rw [aC,lgM]
 (refine aD hc trv (fun r9 gD=>?_);simp only [ht] at gD)
 cbv
 refine an ?_
 (simp [dy, *];done)
theorem Kx (ht:TT t) (q:aH) (v1 v2 v3 v4:Int) {l:List aR} {es:List (List D)} (aC:es=l.map aR.cells) (hl:l.length<100000) (hq:q.length<1000000000000):
 FC 107 [SL es,ST q,V4 v1 v2 v3 v4] [] (.ret (BK t (t _ fun _=>sJ l q ⟨v1,v2,v3,v4⟩))) []:=by
 have hc:=Mm ht 159 (eJ ⟨v1,v2,v3,v4⟩) v1 v2 v3 v4 q aC hl hq (fun p a b c d e z g0 h=>Kw ht v1 v2 v3 v4 p a b c d e z g0 h)
 refine cr ht Tryz.func107 (N:=16) ?_
 cbv
 have aF:es.length=l.length:=by rw [aC,lgM]
 (refine aD hc trv (fun r9 gD=>?_);simp only [ht] at gD)
 cbv
 refine an ?_
 (simp [sJ, *];done)
def bK.aS (_:Th) (q:bK):List D:=[.int .u64 q.id,.int .i64 q.prio]
theorem Ra {x y:bK}:x=y↔x.id=y.id∧x.prio=y.prio:=by cases x;cases y;simp
def Zp (t:Th) (r:List bK×Int):AV:=.ek [SL (t _ fun _=>r.1.map bK.cells),bD r.2]
def Zq (t:Th) (r:List bK×Bool):AV:=.ek [SL (t _ fun _=>r.1.map bK.cells),BL r.2]
theorem Rb (ht:TT t) (id:Int) {l:List (bK)} {es:List (List D)} (aC:es=l.map bK.cells) (f:Nat) (p:bK→Bool) (hl:l.length<9223372036854775807)
 (hf:∀x∈l,FC f [.agg [az x.id,bD x.prio],.ptr 0 0] [.var [az id]] (.ret (BL (p x))) [.var [az id]]) {r:Int} (hr:r=idxOf p l):FC 162 [SL es,.fn f [.ptr 0 0]] [.var [az id]] (.ret (bD r)) [.var [az id]]:=by
 have hel:es.length=l.length:=by rw [aC,lgM]
 refine jG ht (bz:=[.var [az id]]) Tryz.func162 rfl rfl (N:=19) rfl rfl (n:=1) rfl rfl ?_
 cbv
 refine bA ⟨[0,1,7,8],[],[]⟩ (σ:=Nat) (fun k=>[(8,bD (t _ fun _=>(k:Int)))]) (fun _=>[]) (tF p l) ?_
 cbv
 refine aE ⟨l.length,0,.nil,by simp only [ht];rfl,fun n k hj=>?_⟩
 cbv
 apply ap<;>intro h
 ·simp only [ht,ah,decide_eq_true_eq] at h
  have hk:k<es.length:=by omega
  obtain ⟨x,hx,mQ,px,hpx⟩:=hj.get (by omega)
  have gJ:=hf x mQ
  rw [←hpx] at gJ
  obtain ⟨a,b⟩:=x
  cbv
  refine ix [.int .u64 a,.int .i64 b] ?_ ?_ ?_
  ·simp only [ht,ah];exact pK aC hk fun _=>rfl
  ·simp [ht,ah,aC,hx,bK.cells]
  cbv
  refine dx trv gJ ?_
  cbv
  apply ap<;>intro hb
  ·cbv
   refine an ?_
   simp only [ht,ah,hr,hj.hit hx (hpx▸hb)]
  cbv
  refine aE ⟨n-1,k+1,⟨hj.lt hx,hj.next hx (hpx▸hb)⟩,?_⟩
  simp only [ht,ah,aB (show k<9223372036854775807 by omega)];rfl
 simp only [ht,ah,decide_eq_false_iff_not] at h
 have hk:l.length≤k:=by omega
 clear h
 cbv
 refine an ?_
 rw [hr,hj.none hk]
theorem NT (ht:TT t) (id:Int) (x:bK):FC 163 [.agg [az x.id,bD x.prio],.ptr 0 0] [.var [az id]] (.ret (BL (decide (x.id=id)))) [.var [az id]]:=by
 obtain ⟨a,b⟩:=x
 refine jG ht (bz:=[.var [az id]]) Tryz.func163 rfl rfl (N:=8) rfl rfl (n:=1) rfl rfl ?_
 cbv
 refine an ?_
 simp [ht]
theorem xE (ht:TT t) (id:Int) {l:List bK} {es:List (List D)} (aC:es=l.map bK.cells) (hl:l.length<1000000000):
 FC 109 [SL es,az id] [] (.ret (kp (t _ fun _=>iN l id))) []:=by
 obtain ⟨r,hr⟩:∃r,r=iN l id:=⟨_,rfl⟩
 refine cr ht Tryz.func109 (N:=8) ?_
 cbv
 refine dx trv (Rb ht id aC 163 (fun x=>decide (x.id=id)) (by omega) (fun x _=>NT ht id x) (r:=r) hr) ?_
 cbv
 exact an (by simp [ht,hr])
theorem DO (ht:TT t) (a b:Int):FC 130 [.agg [az a,bD b]] [] (.ret (cU (t _ fun _=>gS ⟨a,b⟩))) []:=by
 refine cr ht Tryz.func130 (N:=11) ?_
 cbv
 iterate 3 refine gI (by simp [ht]) ?_
 refine pI (by simp [ht]) ?_
 refine an ?_
 (simp [ht,gS];done)
theorem DP (ht:TT t) (a b c d:Int):FC 131 [.agg [az a,bD b],.agg [az c,bD d]] [] (.ret (cU (t _ fun _=>bO ⟨a,b⟩ ⟨c,d⟩))) []:=by
 refine cr ht Tryz.func131 (N:=24) ?_
 cbv
 iterate 11 refine gI (by simp [ht]) ?_
 refine gI (by simp [ht,bU];intros;simp_all) ?_
 refine pI (by simp [ht]) ?_
 refine an ?_
 (simp [ht,bO];done)
theorem WN {l:List bK} {e x:bK} {k:Nat} (hx:l[k]?=some x) (h:bO e x=true) (h3:∀i<k,∀y,l[i]?=some y→bO e y=false):vI l e=k:=by
 simp only [vI];rw [vH hx h h3]
theorem WO {l:List bK} {e:bK} {k:Nat} (hk:l.length≤k) (h3:∀i<k,∀y,l[i]?=some y→bO e y=false):vI l e=l.length:=by
 simp only [vI]
 rw [A8]
 intro i y hy
 have:i<l.length:=(List.getElem?_eq_some_iff.1 hy).1
 exact h3 i (by omega) y hy
theorem Rc {l:List bK} {e x:bK} {k:Nat} (h3:∀i<k,∀y,l[i]?=some y→bO e y=false) (hx:l[k]?=some x) (h:bO e x=false):∀i<k+1,∀y,l[i]?=some y→bO e y=false:=by
 intro i hi y hy
 rcases Nat.lt_or_ge i k with h1|h1
 ·exact h3 i h1 y hy
 have:i=k:=by omega
 subst this;rw [hx] at hy;cases hy;exact h
theorem WQ (ht:TT t) (a b:Int) {l:List bK} {es:List (List D)} (aC:es=l.map bK.cells) (hl:l.length<1000000000):
 FC 141 [.agg [.fn 131 []],SL es,.agg [az a,bD b]] [] (.ret (kp (t _ fun _=>(vI l ⟨a,b⟩:Int)))) []:=by
 refine cr ht Tryz.func141 (N:=25) ?_
 cbv
 have aF:es.length=l.length:=by rw [aC,lgM]
 obtain ⟨J0,dz⟩:∃J0:Nat→Int→Prop,∀n i,J0 n i↔(∃k:Nat,i=k∧k+n=l.length∧∀i<k,∀y,l[i]?=some y→bO ⟨a,b⟩ y=false):=⟨fun n v=>match v with|i=>(∃k:Nat,i=k∧k+n=l.length∧∀i<k,∀y,l[i]?=some y→bO ⟨a,b⟩ y=false),fun _ _=>Iff.rfl⟩
 refine bA ⟨[1,3,5,9,10,11],[],[]⟩ (σ:=Int) (fun v=>[(11,.d (.int .i64 (t _ fun _=>v)))]) (fun v=>[]) J0 ?_
 cbv
 refine aE ⟨l.length,_,(dz _ _).2 ?_,by simp only [ht];rfl,?_⟩
 ·exact ⟨0,rfl,by simp,fun i hi=>by omega⟩
 rintro n i hj
 replace hj:=(dz _ _).1 hj
 obtain ⟨k,rfl,j1,j4⟩:=hj
 cbv
 apply ap<;>intro h1
 ·simp [ht,ah,aF] at h1
  cbv
  refine ig ht aC (cT:=bK.aS t) (by (simp only [ht,ah];omega)) (by (simp only [ht,ah];omega)) (fun _=>rfl) (fun _=>rfl) (fun x2 gX=>?_)
  simp [ht,ah] at gX
  cbv
  refine aG (DP ht _ _ _ _) trv (fun r3 kO=>?_)
  simp only [ht] at kO
  cbv
  apply ap<;>intro h4
  ·cbv
   refine an ?_
   (simp only [ht];rw [WN gX (by rw [h4] at kO;exact kO.symm) j4])
  cbv
  refine bG _ (by simp only [ht];rfl) (n-1) ?_ ((dz _ _).2 ?_)
  ·omega
  simp only [ah]
  exact ⟨k+1,aB (by omega),by omega,Rc j4 ‹_› (by simp_all)⟩
 simp [ht,ah,aF] at h1
 cbv
 refine an ?_
 (simp only [ht];rw [WO (by omega) j4];simp [aC];done)
theorem Ky (ht:TT t) {es:List (List D)} (aC:∀r∈es,r.length=2) (hs:es.length*16≤140737488355328) {m:Nat} (hm:m=es.length):
 FC 140 [SL es] [] (.ret (.ow 0 2 m)) [.row 2 es]:=by
 refine cr ht Tryz.func140 (N:=8) ?_
 cbv
 refine ⟨fun b hb=>?_⟩
 simp only [ht] at hb
 cbv
 apply ap<;>intro h
 ·have he:=hb h
  subst he
  cbv
  exact He trv rfl rfl (by rw [hm];rfl) rfl
 clear hb h
 cbv
 refine ⟨?_,?_⟩
 ·simp only [ht];simp;exact ⟨hs,aC⟩
 refine CD trv rfl rfl rfl rfl ?_ ?_
 ·simp only [ht];rw [hm];simp
 simp only [ht];rfl
theorem Fi (ht:TT t) {es:List (List D)} {x:D} {row:List D} {i n c:Nat} (hn:n=es.length) (hi:i≤n) (hc:n≤c) (hc0:n=0→c=0) (aC:∀r∈es,r.length=2) (hrow:(x::row).length=2) (hs:n<1000000) {r:List (List D)} (hr:r=es.take i++(x::row)::es.drop i):
 FC 139 [.vw 0 2 0 n c true,bD (i:Int),SL [x::row]] [.row 2 es] (.ret (SL r)) [.dead]:=by
 obtain ⟨n1,Cx⟩:∃n1,n1=n+1:=⟨_,rfl⟩
 obtain ⟨i1,hi1⟩:∃i1,i1=i+1:=⟨_,rfl⟩
 obtain ⟨ni,hni⟩:∃ni,ni=n-i:=⟨_,rfl⟩
 obtain ⟨ci,qg⟩:∃ci,ci=c-i:=⟨_,rfl⟩
 obtain ⟨xy,Kj⟩:∃xy,xy=c-i1:=⟨_,rfl⟩
 obtain ⟨pL,uv⟩:∃pL,pL=n1-i:=⟨_,rfl⟩
 have hW:∀P:Prop,((IntKind.i64.wrap ((n:Int)+1)=(n1:Int))→(IntKind.i64.wrap ((n1:Int)-(i:Int))=(pL:Int))→(IntKind.i64.wrap ((i:Int)+1)=(i1:Int))→P)→P:=
  fun P h=>h (by rw [wrap64 (by omega) (by omega)];omega) (by rw [wrap64 (by omega) (by omega)];omega) (by rw [wrap64 (by omega) (by omega)];omega)
 have hrl:r.length=n1:=by rw [hr,List.length_append,List.length_cons,List.length_take,List.length_drop];omega
 have Ww:n≠0→FC 184 [SL [x::row],.vw 0 2 i1 ni xy true] [.row 2 es] (.ret (BL false)) [.row 2 es]:=fun h0=>
  iG Ql Tryz.func184 rfl rfl rfl rfl (tS:=31) (tR:=4) rfl rfl (by intro h;rw [h] at hn;exact h0 hn)
 refine jG ht (bz:=[.row 2 es]) Tryz.func139 rfl rfl (N:=95) rfl rfl (n:=1) rfl rfl ?_
 cbv
 refine bF (.vw 0 2 i ni ci true) [.row 2 es] ?_ ?_ rfl ?_
 ·simp [ht,dR,bN];omega
 ·simp [ht,aV,aP,hni,qg]
 cbv
 refine pX (by simp [ht]) ?_
 cbv
 apply ap<;>intro h
 ·have hin:i=n:=by simp [ht,ah] at h;omega
  clear h
  cbv
  refine bF (.ow 1 2 n1) [.dead,.row 2 r] ?_ ?_ ?_ ?_
  ·simp only [ht]
   refine ⟨⟨hn,by simp;omega,?_⟩,rfl,hn,fun h=>⟨hc0 (by rw [hn,h];rfl),rfl⟩⟩
   intro r hr
   rcases List.mem_append.1 hr with hr|hr
   ·exact aC r hr
   simp at hr;subst hr;exact hrow
  ·simp [ht,Cx,hn]
  ·simp only [ht];rw [hr]
   have:i=es.length:=by omega
   subst this;simp
  cbv
  refine lQ trv ?_ rfl rfl rfl rfl
  simp only [ht];exact hrl.symm
 have hin:i<n:=by simp [ht,ah] at h;omega
 clear h
 have BD:r=(r.drop 0).take n1:=by rw [List.drop_zero,List.take_of_length_le (by omega)]
 cbv
 apply ap<;>intro h2
 ·have Wx:c=n:=by
   refine hW _ fun e1 e2 e3=>?_
   simp [ht,ah,e1] at h2;omega
  clear h2
  obtain ⟨L,hL⟩:∃L:List (List D),L=es.take i++List.replicate (es.length+1-i) [D.int IntKind.u64 0,D.int IntKind.i64 0]:=⟨_,rfl⟩
  have I1:L.length=n1:=by rw [hL];simp;omega
  obtain ⟨L1,uw⟩:∃L1,L1=wrote L i [x::row]:=⟨_,rfl⟩
  have mJ:L1.length=n1:=by rw [uw];simp [wrote,I1];omega
  have oN:r=wrote L1 i1 (es.drop i):=by rw [hi1,uw,hL,vV (by omega),hr]
  cbv
  refine bF (.vw 0 2 0 i c true) [.row 2 es] ?_ ?_ rfl ?_
  ·simp [ht,dR,bN];omega
  ·simp [ht,aV,aP]
  cbv
  refine bF (.vw 1 2 0 n1 n1 false) [.row 2 es,.row 2 L] ?_ ?_ ?_ ?_
  ·refine hW _ fun e1 e2 e3=>?_
   simp [ht,ah,e1,e2];omega
  ·refine hW _ fun e1 e2 e3=>?_
   simp [ht,ah,e1,e2];omega
  ·refine hW _ fun e1 e2 e3=>?_
   simp [ht,ah,e1,e2,hL];omega
  cbv
  refine bF (.vw 1 2 i pL pL false) [.row 2 es,.row 2 L] ?_ ?_ rfl ?_
  ·simp [ht,dR,bN];omega
  ·simp [ht,aV,aP,uv]
  cbv
  refine bF (bD 1) [.row 2 es,.row 2 L1] ?_ ?_ ?_ ?_
  ·simp only [ht,eR]
   refine ⟨⟨by omega,?_⟩,?_⟩
   ·intro h;rw [h] at I1;simp at I1;omega
   intro r hr;have:=List.mem_of_mem_take hr;simp at this;rw [this];exact hrow
  ·simp [ht,ah];omega
  ·simp [ht,uw,show min 1 pL=1 by omega]
  cbv
  refine bS [false,false,false,false,false,false,false,false,true] ?_
  cbv
  repeat (refine gI (by (simp;done)) ?_)
  refine iy (.vw 1 2 i1 ni ni false) (fun _=>⟨?_,?_⟩) ?_
  ·refine hW _ fun e1 e2 e3=>?_
   simp [ht,ah,e3,dR,bN];omega
  ·refine hW _ fun e1 e2 e3=>?_
   simp [ht,ah,e3,aV,aP];omega
  cbv
  repeat (refine gI (by (simp;done)) ?_)
  refine iy (.vw 0 2 i ni ci true) (fun _=>⟨?_,?_⟩) ?_
  ·simp [ht,dR,bN];omega
  ·simp [ht,aV,aP,hni,qg]
  cbv
  refine bF (bD (ni:Nat)) [.row 2 es,.row 2 r,.bq] ?_ ?_ ?_ ?_
  ·simp only [ht,eR]
   refine ⟨by omega,⟨by omega,?_⟩,?_⟩
   ·intro h;rw [h] at mJ;simp at mJ;omega
   intro r hr;exact aC r (List.mem_of_mem_drop (List.mem_of_mem_take hr))
  ·simp [ht,ah]
  ·simp only [ht,oN]
   rw [List.take_of_length_le (by simp;omega)]
  cbv
  refine zw [true] trv ?_ rfl rfl rfl ?_
  ·simp only [ht];omega
  simp only [ht];rw [←BD]
 have Wx:n<c:=by
  refine hW _ fun e1 e2 e3=>?_
  simp [ht,ah,e1] at h2;omega
 clear h2
 obtain ⟨L1,uw⟩:∃L1,L1=wrote es i1 (es.drop i):=⟨_,rfl⟩
 have oN:r=wrote L1 i [x::row]:=by rw [uw,hi1,E2 (by omega),hr]
 have mJ:L1.length=n1:=by rw [uw];simp [wrote];omega
 cbv
 refine bF (.vw 0 2 0 n1 c true) [.row 2 es] ?_ ?_ rfl ?_
 ·refine hW _ fun e1 e2 e3=>?_
  simp [ht,ah,e1,dR,bN];omega
 ·refine hW _ fun e1 e2 e3=>?_
  simp [ht,ah,e1,aV,aP]
 cbv
 refine bF (.vw 0 2 i1 ni xy true) [.row 2 es] ?_ ?_ rfl ?_
 ·refine hW _ fun e1 e2 e3=>?_
  simp [ht,ah,e3,dR,bN];omega
 ·refine hW _ fun e1 e2 e3=>?_
  simp [ht,ah,e3,aV,aP];omega
 cbv
 refine dx trv (Ww (by omega)) ?_
 cbv
 refine lA (by simp [ht]) ?_
 cbv
 refine bS [false,false,false,false,false,false,false,false,true] ?_
 cbv
 repeat (refine gI (by (simp;done)) ?_)
 refine iy (.vw 0 2 i1 ni xy true) (fun _=>⟨?_,?_⟩) ?_
 ·refine hW _ fun e1 e2 e3=>?_
  simp [ht,ah,e3,dR,bN];omega
 ·refine hW _ fun e1 e2 e3=>?_
  simp [ht,ah,e3,aV,aP];omega
 cbv
 repeat (refine gI (by (simp;done)) ?_)
 refine iy (.vw 0 2 i pL ci true) (fun _=>⟨?_,?_⟩) ?_
 ·simp [ht,dR,bN];omega
 ·simp [ht,aV,aP,uv,qg]
 cbv
 refine bF (bD (ni:Nat)) [.row 2 L1,.bq] ?_ ?_ ?_ ?_
 ·simp only [ht,eR]
  refine ⟨by omega,⟨by omega,?_⟩,?_⟩
  ·intro h;rw [h] at hn;simp at hn;omega
  intro r hr;exact aC r (List.mem_of_mem_drop (List.mem_of_mem_take hr))
 ·simp [ht,ah];omega
 ·simp only [ht,uw]
  rw [List.take_of_length_le (by simp;omega)]
 cbv
 refine bF (.vw 0 2 i pL ci true) [.row 2 L1,.bq] ?_ ?_ rfl ?_
 ·simp [ht,dR,bN];omega
 ·simp [ht,aV,aP,uv,qg]
 cbv
 refine bF (bD 1) [.row 2 r,.bq] ?_ ?_ ?_ ?_
 ·simp only [ht,eR]
  refine ⟨⟨by omega,?_⟩,?_⟩
  ·intro h;rw [h] at mJ;simp at mJ;omega
  intro r hr;have:=List.mem_of_mem_take hr;simp at this;rw [this];exact hrow
 ·simp [ht,ah];omega
 ·simp [ht,oN,show min 1 pL=1 by omega]
 cbv
 refine zw [true] trv ?_ rfl rfl rfl ?_
 ·simp only [ht];omega
 simp only [ht];rw [←BD]
theorem Ic (ht:TT t) {es:List (List D)} {x:D} {row:List D} {i n:Nat} (hn:n=es.length) (hi:i≤n) (aC:∀r∈es,r.length=2) (hrow:(x::row).length=2) (hs:n<1000000) {r:List (List D)} (hr:r=es.take i++(x::row)::es.drop i):
 FC 139 [.ow 0 2 n,bD (i:Int),SL [x::row]] [.row 2 es] (.ret (SL r)) [.dead]:=
 dX fun c hc hc0=>Fi ht hn hi hc hc0 aC hrow hs hr
theorem Ie (ht:TT t) {l:List bK} {es:List (List D)} (aC:es=l.map bK.cells) (hs:l.length<1000000000):
 FC 140 [SL es] [] (.ret (.ow 0 2 (t _ fun _=>(l.map bK.cells).length))) [.row 2 (t _ fun _=>l.map bK.cells)]:=by
 simp only [ht];subst aC
 refine Ky ht ?_ ?_ (by simp)
 ·intro r hr;obtain ⟨y,_,rfl⟩:=List.mem_map.1 hr;rfl
 simp;omega
theorem Fj (ht:TT t) {l:List bK} {x:bK} {k:Nat} {i:Int} (hi:i=k) (hk:k≤l.length) (hl:l.length<1000000):
 FC 139 [.ow 0 2 (t _ fun _=>(l.map bK.cells).length),bD i,.cl [bK.cells x]] [.row 2 (t _ fun _=>l.map bK.cells)] (.ret (SL (t _ fun _=>(l.take k++x::l.drop k).map bK.cells))) [.dead]:=by
 simp only [ht];subst hi
 refine pn (args':=[.ow 0 2 (l.map bK.cells).length,bD k,SL [bK.cells x]]) ?_ (Ic ht (by simp) (by simpa using hk) ?_ rfl (by simpa using hl) (by simp [bK.cells]))
 ·intro β w ok vs h
  simp only [ak] at h ⊢
  obtain ⟨u1,us1,rfl,h1,u2,Pn,rfl,h2,u3,WC,rfl,h3,h4⟩:=h
  exact ⟨u1,_,rfl,h1,u2,_,rfl,h2,u3,WC,rfl,L5 h3,h4⟩
 intro r hr;obtain ⟨y,_,rfl⟩:=List.mem_map.1 hr;rfl
theorem WR (l:List bK) (e:bK):vI l e≤l.length:=by
 unfold vI
 cases h:l.findIdx? (fun x=>bO e x) with
 |none=>exact Nat.le_refl _
 |some k=>exact Nat.le_of_lt (List.findIdx?_eq_some_iff_getElem.1 h).1
theorem BN (ht:TT t) (a b:Int) {l:List bK} {es:List (List D)} (aC:es=l.map bK.cells) (hl:l.length<1000000):
 FC 91 [SL es,.agg [az a,bD b]] [] (.ret (Zp t (t _ fun _=>jZ l ⟨a,b⟩))) []:=by
 have hq:=WR l ⟨a,b⟩
 obtain ⟨qa,hqa⟩:∃n,n=vI l ⟨a,b⟩:=⟨_,rfl⟩
 refine cr ht Tryz.func91 (N:=31) ?_
 cbv
 have aF:es.length=l.length:=by rw [aC,lgM]
 refine aG (DO ht _ _) trv (fun r0 cN=>?_)
 simp only [ht] at cN
 cbv
 apply ap<;>intro h1
 ·cbv
  refine an ?_
  (simp only [ht];simp_all [jZ];done)
 cbv
 refine aG (xE ht _ ‹_› (by omega)) trv (fun r2 iu=>?_)
 simp only [ht] at iu
 cbv
 apply ap<;>intro h3
 ·simp [ht] at h3
  cbv
  refine an ?_
  (simp only [ht];simp_all [jZ];done)
 simp [ht] at h3
 cbv
 apply ap<;>intro h4
 ·simp [ht,ah,aF] at h4
  cbv
  refine an ?_
  (simp only [ht,jZ];grind)
 simp [ht,ah,aF] at h4
 cbv
 refine bS [false,false,false,false,false,false,false,false,true,true,true] ?_
 cbv
 refine gI (by simp) ?_
 refine .inr (G9 trv (Ie ht ‹_› (by omega)) trv rfl (.inr rfl) rfl ?_)
 cbv
 iterate 3 refine gI (by simp) ?_
 refine .inl ?_
 refine cj (fun g5=>⟨trv,trv,WQ ht _ _ ‹_› (by omega)⟩) rfl rfl (fun r6 mL=>?_)
 simp only [ht] at mL
 rw [←hqa] at mL
 cbv
 iterate 2 refine gI (by simp) ?_
 refine dJ [1] trv rfl rfl (Fj ht (l:=l) (x:=⟨a,b⟩) (k:=qa) ‹_› (by omega) (by omega)) (cA ?_)
 cbv
 refine an ?_
 (simp only [ht,jZ];grind)
def nv (l:List bK) (k:Nat):Option bK:=match k with
 |0=>none
 |k+1=>l[k]?
theorem DQ {l:List bK} {k:Nat} {x:bK}:Nc (nv l k) x=(decide (k=0)||match l[k-1]? with|none=>true|some y=>bO y x):=by
 cases k with
 |zero=>rfl
 |succ k=>simp only [nv,Nc];cases h:l[k]?<;>simp [h]
theorem NU {l:List bK} {k:Nat} {x y:bK} {r3 r7:Bool} {r5:Int} {rest:Bool} (j4:jJ l none 0 l=(!gS x&&decide (iN l x.id=(k:Int))&&Nc (nv l k) x&&rest)) (e3:r3=gS x) (e5:r5=iN l x.id) (e7:r7=bO y x)
 (my:r3=false→r5=(k:Int)→0<k→l[k-1]?=some y) (h:(r3=true∨¬r5=(k:Int))∨0<k∧r7=false):nE l=false:=by
 subst e3 e5 e7
 unfold nE
 rw [j4,DQ]
 by_cases h3:gS x=true
 ·simp [h3]
 by_cases h5:iN l x.id=(k:Int)
 ·rcases h with (h|h)|⟨h,h7⟩
  ·exact absurd h h3
  ·exact absurd h5 h
  rw [my (by simpa using h3) h5 h]
  have:k≠0:=by omega
  simp [this,h7]
 simp [h5]
theorem Ig {l:List bK} {k:Nat} {x y:bK} {r3 r7:Bool} {r5:Int} {rest:Bool} (e3:r3=gS x) (e5:r5=iN l x.id) (e7:r7=bO y x)
 (my:r3=false→r5=(k:Int)→0<k→l[k-1]?=some y) (h:(r3=false∧r5=(k:Int))∧(0<k→r7=true)):(!gS x&&decide (iN l x.id=(k:Int))&&Nc (nv l k) x&&rest)=rest:=by
 subst e3 e5 e7
 obtain ⟨⟨h3,h5⟩,h7⟩:=h
 rw [DQ]
 by_cases k0:k=0
 ·subst k0;simp [h3,h5]
 rw [my h3 h5 (by omega)]
 simp [h3,h5,h7 (by omega)]
theorem NV (ht:TT t) {l:List bK} {es:List (List D)} (aC:es=l.map bK.cells) (hl:l.length<1000000):
 FC 82 [SL es] [] (.ret (cU (t _ fun _=>nE l))) []:=by
 refine cr ht Tryz.func82 (N:=40) ?_
 cbv
 have aF:es.length=l.length:=by rw [aC,lgM]
 obtain ⟨J0,dz⟩:∃J0:Nat→Int→Prop,∀n i,J0 n i↔(∃k:Nat,i=k∧k+n=l.length∧jJ l none 0 l=jJ l (nv l k) k (l.drop k)):=⟨fun n v=>match v with|i=>(∃k:Nat,i=k∧k+n=l.length∧jJ l none 0 l=jJ l (nv l k) k (l.drop k)),fun _ _=>Iff.rfl⟩
 refine bA ⟨[0,5,6,7],[],[]⟩ (σ:=Int) (fun v=>[(7,.d (.int .i64 (t _ fun _=>v)))]) (fun v=>[]) J0 ?_
 cbv
 refine aE ⟨l.length,_,(dz _ _).2 ?_,by simp only [ht];rfl,?_⟩
 ·exact ⟨0,rfl,by simp,by simp [nv]⟩
 rintro n i hj
 replace hj:=(dz _ _).1 hj
 obtain ⟨k,rfl,j1,j4⟩:=hj
 cbv
 apply ap<;>intro h1
 ·simp [ht,ah,aF] at h1
  cbv
  refine ig ht aC (cT:=bK.aS t) (by (simp only [ht,ah];omega)) (by (simp only [ht,ah];omega)) (fun _=>rfl) (fun _=>rfl) (fun x2 gX=>?_)
  simp [ht,ah] at gX
  simp only [eI gX,jJ] at j4
  cbv
  refine bS [true,true,true,false,false,false,false,false,true,true,true,true,true,true,false,false,false,false,false,false,true,true,true,true] ?_
  cbv
  refine aG (DO ht _ _) trv (fun r3 kO=>?_)
  simp only [ht] at kO
  cbv
  iterate 3 refine gI (by simp [ht]) ?_
  refine cj (fun g4=>⟨by simp [ht] at g4 ⊢;exact g4,trv,xE ht _ ‹_› (by omega)⟩) rfl rfl (fun r5 sO=>?_)
  simp only [ht] at sO
  cbv
  iterate 2 refine gI (by simp [ht]) ?_
  refine pI (by simp [ht]) ?_
  iterate 6 refine gI (by simp [ht]) ?_
  (refine Ht ht aC (cT:=bK.aS t) (k-1) (fun g=>by simp [ht,ah] at g ⊢;simp [g]) (fun g=>by simp [ht,ah] at g;simp only [ht,ah];exact ⟨pi (by omega) (by omega),by omega⟩) (fun _=>rfl) (fun _=>rfl) (fun y my=>?_);simp [ht,ah] at my)
  cbv
  iterate 2 refine gI (by simp [ht]) ?_
  refine cj (fun g6=>⟨by simp [ht] at g6 ⊢;exact g6,trv,DP ht _ _ _ _⟩) rfl rfl (fun r7 rG=>?_)
  simp only [ht] at rG
  cbv
  refine gI (by simp [ht]) ?_
  refine gI (by simp [ht,bU];intros;simp_all) ?_
  refine pI (by simp [ht]) ?_
  apply ap<;>intro h8
  ·simp [ht,ah] at h8
   cbv
   refine an ?_
   (simp only [ht];rw [NU j4 kO sO rG my h8])
  simp [ht,ah] at h8
  cbv
  refine bG _ (by simp only [ht];rfl) (n-1) ?_ ((dz _ _).2 ?_)
  ·omega
  simp only [ah]
  refine ⟨k+1,aB (by omega),by omega,?_⟩
  (simp only [nv];rw [gX,j4];exact Ig kO sO rG my h8)
 simp [ht,ah,aF] at h1
 cbv
 refine an ?_
 (rw [List.drop_eq_nil_of_le (by omega),jJ] at j4;have e:decide ((l.length:Int)≤32)=decide (l.length≤32):=(by rw [decide_eq_decide];omega);simp [ht,ah,nE,j4,aF,e];done)
def ff (t:Th) (s:aW):AV:=.agg [az s.round,az s.next,SL (t _ fun _=>s.aY.nodes.map Node.cells),SL (t _ fun _=>s.aY.places.map Place.cells),SL (t _ fun _=>s.tree.map aR.cells),SL (t _ fun _=>s.av.map Jb.cells),SL (t _ fun _=>s.queue.map bK.cells),az s.ev.first,SL (t _ fun _=>s.ev.l.map dc.cells),az s.au.first,SL (t _ fun _=>s.au.l.map dc.cells)]
def Mn (t:Th) (r:aW×Int):AV:=.ek [ff t r.1,bD r.2]
def Rd (t:Th) (r:aW×Int×Int):AV:=.ek [ff t r.1,az r.2.1,bD r.2.2]
theorem oy (ht:TT t) (rd nx ef af id kd:Int) {nl:List Node} {pl:List Place} {tl:List aR} {jl:List Jb} {ql:List bK} {el al:List dc} {ns ps ts js qs es bH:List (List D)}
 (eE:ns=nl.map Node.cells) (hps:ps=pl.map Place.cells) (hts:ts=tl.map aR.cells) (dM:js=jl.map Jb.cells) (dF:qs=ql.map bK.cells) (aC:es=el.map dc.cells) (has:bH=al.map dc.cells) (hel:el.length<1000000):
 FC 65 [.agg [az rd,az nx,SL ns,SL ps,SL ts,SL js,SL qs,az ef,SL es,az af,SL bH],az id,bD kd] [] (.ret (ff t (t _ fun _=>jK ⟨rd,nx,⟨nl,pl⟩,tl,jl,ql,⟨ef,el⟩,⟨af,al⟩⟩ id kd))) []:=by
 obtain ⟨⟨f9,l9⟩,h9⟩:∃r,r=tell ⟨ef,el⟩ ⟨rd,id,kd⟩:=⟨_,rfl⟩
 refine cr ht Tryz.func65 (N:=17) ?_
 cbv
 obtain ⟨cZ,de,dg,cu,bZ,aF,cw⟩:=fc eE hps hts dM dF aC has
 refine aD (T3 ht _ _ _ _ ‹_› ‹_›) trv (fun r0 cN=>?_)
 simp only [ht] at cN
 rw [←h9] at cN
 subst r0
 cbv
 refine an ?_
 (simp only [ht,jK];grind)
theorem Mo (ht:TT t):FC 38 [] [] (.ret (ff t (t _ fun _=>CI))) []:=by
 refine cr ht Tryz.func38 (N:=4) ?_
 cbv
 refine aD (T9 ht _ _ _ _) trv (fun r0 cN=>?_)
 simp only [ht] at cN
 cbv
 refine an ?_
 (simp [CI,aW.zero,bE.zero, *];done)
theorem uA (ht:TT t) {es:List (List D)} (aC:∀r∈es,r.length=12) (hs:es.length*120≤140737488355328) {m:Nat} (hm:m=es.length):
 FC 45 [SL es] [] (.ret (.ow 0 12 m)) [.row 12 es]:=by
 refine cr ht Tryz.func45 (N:=8) ?_
 cbv
 refine ⟨fun b hb=>?_⟩
 simp only [ht] at hb
 cbv
 apply ap<;>intro h
 ·have he:=hb h
  subst he
  cbv
  exact He trv rfl rfl (by rw [hm];rfl) rfl
 clear hb h
 cbv
 refine ⟨?_,?_⟩
 ·simp only [ht];simp;exact ⟨hs,aC⟩
 refine CD trv rfl rfl rfl rfl ?_ ?_
 ·simp only [ht];rw [hm];simp
 simp only [ht];rfl
theorem nw (ht:TT t) {l:List Jb} {es:List (List D)} (aC:es=l.map Jb.cells) (hs:l.length<1000000):
 FC 45 [SL es] [] (.ret (.ow 0 12 (t _ fun _=>(l.map Jb.cells).length))) [.row 12 (t _ fun _=>l.map Jb.cells)]:=by
 simp only [ht];subst aC
 refine uA ht ?_ ?_ (by simp)
 ·intro r hr;obtain ⟨y,_,rfl⟩:=List.mem_map.1 hr;rfl
 simp;omega
theorem NW:∀c<8,∀i<4,(fe (c*32) i).nodes.length≤4:=by decide+kernel
theorem BO {N i:Nat} (hN:N<256) (hi:i<4):(fe N i).nodes.length<1000000000:=by
 rw [HJ]
 have:=NW (N / 32) (by omega) i hi
 omega
theorem Kz:∀k,∀p∈BA k,p.sm:=by
 intro k p hp
 unfold BA at hp
 split at hp
 ·rw [List.mem_singleton.1 hp]
  rename_i h
  have:k=0∨k=1:=by omega
  rcases this with rfl|rfl<;>exact ⟨by decide,by decide⟩
 cases hp
theorem Re:∀k<3,∀N<256,(((N:Nat):Int).fdiv (2^min (IntKind.i64.wrap (5+((k:Nat):Int))).toNat IntKind.u8.bits)).tmod 2=0↔TN N k=true:=by decide+kernel
theorem xF {a z:Int} {N k:Nat} (hN:N<256) (ea:a=N) (h:(a.fdiv (2^min (IntKind.i64.wrap z).toNat IntKind.u8.bits)).tmod 2=0) (hk:k<3) (hz:z=5+((k:Nat):Int)):TN N k=true:=by
 subst ea hz;exact (Re k hk N hN).1 h
theorem DR {a z:Int} {N k:Nat} (hN:N<256) (ea:a=N) (h:¬(a.fdiv (2^min (IntKind.i64.wrap z).toNat IntKind.u8.bits)).tmod 2=0) (hk:k<3) (hz:z=5+((k:Nat):Int)):¬TN N k=true:=by
 subst ea hz;exact fun g=>h ((Re k hk N hN).2 g)
theorem oz {N k:Nat} {nm:aH} {w:Int} {r:cB×Int} (h:r=ri ⟨(fe N k).nodes,(fe N k).places⟩ ⟨nm,⟨w,9,9,9⟩,BA k,false⟩) (hnm:nm=lm.getD k []) (hw:w=((4+2*k:Nat):Int)) (hu:TN N k=true):fe N (k+1)=r.1:=by
 subst hw hnm h;rw [fe,if_pos hu]
theorem sR {N k:Nat} (hu:¬TN N k=true):fe N (k+1)=fe N k:=by rw [fe,if_neg hu]
theorem BP:∀k<3,∀m<5,IntKind.u64.wrap (IntKind.i64.wrap (IntKind.i64.wrap (6+IntKind.i64.wrap (4*((k:Nat):Int)))+IntKind.i64.wrap ((m:Nat):Int)))=((6+4*k+m:Nat):Int):=by decide+kernel
theorem xG {m k:Nat} {p:aH} {w:Int} {r:List aR×Int} (h:r=vJ (rD m k) p ⟨w,20,20,20⟩) (hp:p=Vw.getD k []) (hw:w=((6+4*k+m:Nat):Int)):r.1=rD m (k+1):=by subst hw hp h;rfl
theorem v8 (ht:TT t) (k a b c d:Int) (x:iX) (hx:x.u) (hk:k=x.kind) (ha:a=x.a) (hb:b=x.b) (hc:c=x.c) (hd:d=x.d):
 FC 111 [.agg [U8 k,U8 a,U8 b,U8 c,U8 d]] [] (.ret (abp t (t _ fun _=>CJ x))) []:=by
 obtain ⟨u1,u2,u3,u4,u5⟩:=hx
 obtain ⟨nm,hnm⟩:∃nm,nm=Bz.getD (x.a%4) []:=⟨_,rfl⟩
 have w1:IntKind.u64.wrap (b.tmod 5)=((x.b%5:Nat):Int):=by rw [hb,XO,T0 _ (by omega)]
 have w2:IntKind.u64.wrap ((IntKind.u8.wrap (b.tdiv 5)).tmod 5)=((x.b / 5%5:Nat):Int):=by rw [hb,td5,wu8 _ (by omega),XO,T0 _ (by omega)]
 have w3:IntKind.u64.wrap ((IntKind.u8.wrap (b.tdiv 25)).tmod 3)=((x.b / 25%3:Nat):Int):=by rw [hb,abn,wu8 _ (by omega),tm3,T0 _ (by omega)]
 have w4:IntKind.i64.wrap (1+IntKind.i64.wrap (c.tmod 3))=((1+x.c%3:Nat):Int):=by rw [hc,tm3,NA _ (by omega),show (1:Int)+((x.c%3:Nat):Int)=((1+x.c%3:Nat):Int) by omega,NA _ (by omega)]
 have w5:IntKind.i64.wrap ((IntKind.u8.wrap (c.tdiv 3)).tmod 4)=((x.c / 3%4:Nat):Int):=by rw [hc,td3,wu8 _ (by omega),tm4,NA _ (by omega)]
 have w6:IntKind.i64.wrap (1+IntKind.i64.wrap (d.tmod 5))=((1+x.d%5:Nat):Int):=by rw [hd,XO,NA _ (by omega),show (1:Int)+((x.d%5:Nat):Int)=((1+x.d%5:Nat):Int) by omega,NA _ (by omega)]
 have w7:decide (d.tmod 2=1)=decide (x.d%2=1):=by rw [decide_eq_decide,hd,tm2];omega
 refine cr ht Tryz.func111 (N:=53) ?_
 cbv
 refine bS [false,false,false,false,false,false,false,false,false,false,false,false,false,false,false,false,false,false,false,false,false,false,false,false,false,false,false,false,false,false,false,false,false,false,false,false,false,false,true] ?_
 cbv
 iterate 3 refine gI (by simp) ?_
 refine gI (by simp [ht]) ?_
 (refine ix [.str nm] (by simp only [ht,ha,tm4];exact QT x.a) (by simp only [ht,ha,tm4];rw [hnm];exact QU x.a) ?_)
 cbv
 iterate 3 refine gI (by simp) ?_
 refine gI (by simp [ht]) ?_
 iterate 3 refine gI (by simp) ?_
 iterate 2 refine gI (by simp [ht]) ?_
 iterate 3 refine gI (by simp) ?_
 iterate 2 refine gI (by simp [ht]) ?_
 iterate 4 refine gI (by simp) ?_
 refine gI (by simp [ht]) ?_
 iterate 4 refine gI (by simp) ?_
 iterate 2 refine gI (by simp [ht]) ?_
 iterate 3 refine gI (by simp) ?_
 refine gI (by simp [ht]) ?_
 iterate 3 refine gI (by simp) ?_
 apply ap<;>intro h0
 ·simp [ht] at h0
  cbv
  refine ⟨?_,?_⟩
  ·(simp only [ht,ah] at*;omega)
  cbv
  refine an ?_
  (simp only [ht,w1,w2,w3,w4,w5,w6,w7,hnm,CJ];rw [if_pos (show 200<x.d by ((try simp only [ah] at*);omega))];rfl)
 simp [ht] at h0
 cbv
 refine an ?_
 (simp only [ht,w1,w2,w3,w4,w5,w6,hnm,CJ];rw [if_neg (show ¬200<x.d by ((try simp only [ah] at*);omega))];rfl)
theorem yW (ht:TT t) (N:Nat) (hN:N<256) {a:Int} (ea:a=N):FC 67 [.d (.int .u8 a)] [] (.ret (ff t (t _ fun _=>jO N))) []:=by
 have hm:N%5<5:=Nat.mod_lt _ (by decide)
 have hl0:=QH (N%5) hm
 refine cr ht Tryz.func67 (N:=81) ?_
 cbv
 refine aD (Mo ht) trv (fun r0 cN=>?_)
 simp only [ht] at cN
 cbv
 ((refine aD (zQ ht _ _ _ _ _ (l:=[⟨[],bE.zero,bE.zero⟩]) (by simp only [ht,cN];rfl) (by decide) (by decide) (by decide)) (by simp) (fun r1 cM=>?_)))
 cbv
 obtain ⟨J1,mR⟩:∃J1:Nat→Int×List (List D)→Prop,∀m i tr,J1 m (i,tr)↔((i=0∧m=3∧tr=(rD (N%5) 0).map aR.cells)∨(i=1∧m=2∧tr=(rD (N%5) 1).map aR.cells)∨(i=2∧m=1∧tr=(rD (N%5) 2).map aR.cells)∨(i=3∧m=0∧tr=(rD (N%5) 3).map aR.cells)):=⟨fun m v=>match v with|(i,tr)=>((i=0∧m=3∧tr=(rD (N%5) 0).map aR.cells)∨(i=1∧m=2∧tr=(rD (N%5) 1).map aR.cells)∨(i=2∧m=1∧tr=(rD (N%5) 2).map aR.cells)∨(i=3∧m=0∧tr=(rD (N%5) 3).map aR.cells)),fun _ _ _=>Iff.rfl⟩
 refine bA ⟨[0,2,3,18,19,20],[],[]⟩ (σ:=Int×List (List D)) (fun v=>[(20,.d (.int .i64 (t _ fun _=>v.1)))]) (fun v=>[(1,.var [AV.d (D.int IntKind.u64 r0.1),AV.d (D.int IntKind.u64 r0.2),AV.d (D.sl (t (List (List D)) fun x=>List.map (fun x=>[D.str (Node.name x),D.int IntKind.u64 (bE.a (Node.cap x)),D.int IntKind.u64 (bE.b (Node.cap x)),D.int IntKind.u64 (bE.c (Node.cap x)),D.int IntKind.u64 (bE.d (Node.cap x)),D.sl (List.map (fun p=>[D.str (dj.key p),D.str (dj.value p)]) (Node.labels x)),D.bool (Node.up x)]) (cB.nodes (aW.aY r0)))),AV.d (D.sl (t (List (List D)) fun x=>List.map (fun x=>[D.int IntKind.u64 (Place.bu x),D.str (Place.node x),D.int IntKind.u64 (bE.a (Place.v x)),D.int IntKind.u64 (bE.b (Place.v x)),D.int IntKind.u64 (bE.c (Place.v x)),D.int IntKind.u64 (bE.d (Place.v x))]) (cB.places (aW.aY r0)))),.d (.sl (t _ fun _=>v.2)),AV.d (D.sl (t (List (List D)) fun x=>List.map Jb.cells (aW.av r0))),AV.d (D.sl (t (List (List D)) fun x=>List.map bK.cells (aW.queue r0))),AV.d (D.int IntKind.u64 r0.7.1),AV.d (D.sl (t (List (List D)) fun x=>List.map dc.cells (CH.l (aW.ev r0)))),AV.d (D.int IntKind.u64 r0.8.1),AV.d (D.sl (t (List (List D)) fun x=>List.map dc.cells (CH.l (aW.au r0))))])]) J1 ?_
 cbv
 refine aE ⟨3,(_,_),(mR _ _ _).2 ?_,by simp only [ht];rfl,?_⟩
 ·exact .inl ⟨rfl,rfl,by simp only [ht,cM];rfl⟩
 rintro m ⟨i,tr⟩ hj
 replace hj:=(mR _ _ _).1 hj
 (rcases hj with ⟨rfl,jm,jt⟩|⟨rfl,jm,jt⟩|⟨rfl,jm,jt⟩|⟨rfl,jm,jt⟩)
 ·cbv
  apply ap<;>intro h2
  ·simp [ht] at h2
   cbv
   ((refine ix [.str [97]] (by simp only [ht];decide) (by simp only [ht];rfl) ?_))
   cbv
   refine ⟨?_,?_⟩
   ·(simp only [ht];decide)
   cbv
   ((refine aD (zQ ht _ _ _ _ _ (l:=rD (N%5) 0) (by simp only [ht];exact jt) (by have:=hl0 0 (by decide);((try simp only [ah] at*);omega)) (by decide) (by decide)) (by simp) (fun r2 iu=>?_)))
   cbv
   refine bG (_,_) (by simp only [ht];rfl) (m-1) ?_ ((mR _ _ _).2 ?_)
   ·omega
   exact .inr (.inl ⟨by rw [lS (by decide) (by decide)];rfl,by omega,congrArg _ (xG (k:=0) (iu.trans (ht _ _)) rfl (by simp only [ht,ea,XO];exact BP 0 (by decide) _ hm))⟩)
  simp [ht] at h2
 ·cbv
  apply ap<;>intro h3
  ·simp [ht] at h3
   cbv
   ((refine ix [.str [97,47,98]] (by simp only [ht];decide) (by simp only [ht];rfl) ?_))
   cbv
   refine ⟨?_,?_⟩
   ·(simp only [ht];decide)
   cbv
   ((refine aD (zQ ht _ _ _ _ _ (l:=rD (N%5) 1) (by simp only [ht];exact jt) (by have:=hl0 1 (by decide);((try simp only [ah] at*);omega)) (by decide) (by decide)) (by simp) (fun r2 iu=>?_)))
   cbv
   refine bG (_,_) (by simp only [ht];rfl) (m-1) ?_ ((mR _ _ _).2 ?_)
   ·omega
   exact .inr (.inr (.inl ⟨by rw [lS (by decide) (by decide)];rfl,by omega,congrArg _ (xG (k:=1) (iu.trans (ht _ _)) rfl (by simp only [ht,ea,XO];exact BP 1 (by decide) _ hm))⟩))
  simp [ht] at h3
 ·cbv
  apply ap<;>intro h4
  ·simp [ht] at h4
   cbv
   ((refine ix [.str [98]] (by simp only [ht];decide) (by simp only [ht];rfl) ?_))
   cbv
   refine ⟨?_,?_⟩
   ·(simp only [ht];decide)
   cbv
   ((refine aD (zQ ht _ _ _ _ _ (l:=rD (N%5) 2) (by simp only [ht];exact jt) (by have:=hl0 2 (by decide);((try simp only [ah] at*);omega)) (by decide) (by decide)) (by simp) (fun r2 iu=>?_)))
   cbv
   refine bG (_,_) (by simp only [ht];rfl) (m-1) ?_ ((mR _ _ _).2 ?_)
   ·omega
   exact .inr (.inr (.inr ⟨by rw [lS (by decide) (by decide)];rfl,by omega,congrArg _ (xG (k:=2) (iu.trans (ht _ _)) rfl (by simp only [ht,ea,XO];exact BP 2 (by decide) _ hm))⟩))
  simp [ht] at h4
 cbv
 apply ap<;>intro h5
 ·simp [ht] at h5
 simp [ht] at h5
 cbv
 obtain ⟨J6,O1⟩:∃J6:Nat→Int×List (List D)×List (List D)→Prop,∀m i x y,J6 m (i,x,y)↔((i=0∧m=3∧x=(fe N 0).nodes.map Node.cells∧y=(fe N 0).places.map Place.cells)∨(i=1∧m=2∧x=(fe N 1).nodes.map Node.cells∧y=(fe N 1).places.map Place.cells)∨(i=2∧m=1∧x=(fe N 2).nodes.map Node.cells∧y=(fe N 2).places.map Place.cells)∨(i=3∧m=0∧x=(fe N 3).nodes.map Node.cells∧y=(fe N 3).places.map Place.cells)):=⟨fun m v=>match v with|(i,x,y)=>((i=0∧m=3∧x=(fe N 0).nodes.map Node.cells∧y=(fe N 0).places.map Place.cells)∨(i=1∧m=2∧x=(fe N 1).nodes.map Node.cells∧y=(fe N 1).places.map Place.cells)∨(i=2∧m=1∧x=(fe N 2).nodes.map Node.cells∧y=(fe N 2).places.map Place.cells)∨(i=3∧m=0∧x=(fe N 3).nodes.map Node.cells∧y=(fe N 3).places.map Place.cells)),fun _ _ _ _=>Iff.rfl⟩
 refine bA ⟨[0,2,3,43,44,45],[],[]⟩ (σ:=Int×List (List D)×List (List D)) (fun v=>[(45,.d (.int .i64 (t _ fun _=>v.1)))]) (fun v=>[(1,.var [AV.d (D.int IntKind.u64 r0.1),AV.d (D.int IntKind.u64 r0.2),.d (.sl (t _ fun _=>v.2.1)),.d (.sl (t _ fun _=>v.2.2)),AV.d (D.sl (t (List (List D)) fun x=>Prod.snd (3,tr))),AV.d (D.sl (t (List (List D)) fun x=>List.map Jb.cells (aW.av r0))),AV.d (D.sl (t (List (List D)) fun x=>List.map bK.cells (aW.queue r0))),AV.d (D.int IntKind.u64 r0.7.1),AV.d (D.sl (t (List (List D)) fun x=>List.map dc.cells (CH.l (aW.ev r0)))),AV.d (D.int IntKind.u64 r0.8.1),AV.d (D.sl (t (List (List D)) fun x=>List.map dc.cells (CH.l (aW.au r0))))])]) J6 ?_
 cbv
 refine aE ⟨3,(_,_,_),(O1 _ _ _ _).2 ?_,by simp only [ht];rfl,?_⟩
 ·exact .inl ⟨rfl,rfl,by rw [cN];rfl,by rw [cN];rfl⟩
 rintro m ⟨i,x,y⟩ hj
 replace hj:=(O1 _ _ _ _).1 hj
 (rcases hj with ⟨rfl,jm,jx,jy⟩|⟨rfl,jm,jx,jy⟩|⟨rfl,jm,jx,jy⟩|⟨rfl,jm,jx,jy⟩)
 ·cbv
  apply ap<;>intro h7
  ·simp [ht] at h7
   cbv
   ((refine ix [.str [110,49]] (by simp only [ht];decide) (by simp only [ht];rfl) ?_))
   cbv
   refine ⟨?_,?_⟩
   ·(simp only [ht];decide)
   refine ⟨?_,?_⟩
   ·(simp only [ht];decide)
   cbv
   apply ap<;>intro h8
   ·simp [ht] at h8
    cbv
    apply ap<;>intro h9
    ·simp [ht] at h9
     cbv
     ((refine ix [.str [97]] (by simp only [ht];decide) (by simp only [ht];rfl) ?_))
     cbv
     ((refine aD (Ko ht (l:=(fe N 0).nodes) (ps:=(fe N 0).places) (by simp only [ht];exact jx) (by simp only [ht];exact jy) _ _ _ _ _ (lb:=BA 0) rfl false (BO hN (by decide)) (by decide) (by decide) (Kz _)) (by simp) (fun r4 iY=>?_)))
     cbv
     refine bG (_,_,_) (by simp only [ht];rfl) (m-1) ?_ ((O1 _ _ _ _).2 ?_)
     ·omega
     (refine .inr (.inl ⟨(by rw [lS (by decide) (by decide)];rfl),by omega,?_,?_⟩);((exact congrArg (fun p:cB=>List.map Node.cells p.nodes) (oz (k:=0) (iY.trans (ht _ _)) rfl (by simp only [ht];decide) (xF hN ea ‹_› (by decide) (by decide))).symm));((exact congrArg (fun p:cB=>List.map Place.cells p.places) (oz (k:=0) (iY.trans (ht _ _)) rfl (by simp only [ht];decide) (xF hN ea ‹_› (by decide) (by decide))).symm)))
    simp [ht] at h9
   simp [ht] at h8
   cbv
   refine bG (_,_,_) (by simp only [ht];rfl) (m-1) ?_ ((O1 _ _ _ _).2 ?_)
   ·omega
   (refine .inr (.inl ⟨(by rw [lS (by decide) (by decide)];rfl),by omega,?_,?_⟩);((exact jx.trans (congrArg (fun p:cB=>List.map Node.cells p.nodes) (sR (N:=N) (k:=0) (DR hN ea ‹_› (by decide) (by decide))).symm)));((exact jy.trans (congrArg (fun p:cB=>List.map Place.cells p.places) (sR (N:=N) (k:=0) (DR hN ea ‹_› (by decide) (by decide))).symm))))
  simp [ht] at h7
 ·cbv
  apply ap<;>intro h10
  ·simp [ht] at h10
   cbv
   ((refine ix [.str [110,50]] (by simp only [ht];decide) (by simp only [ht];rfl) ?_))
   cbv
   refine ⟨?_,?_⟩
   ·(simp only [ht];decide)
   refine ⟨?_,?_⟩
   ·(simp only [ht];decide)
   cbv
   apply ap<;>intro h11
   ·simp [ht] at h11
    cbv
    apply ap<;>intro h12
    ·simp [ht] at h12
     cbv
     ((refine ix [.str [98]] (by simp only [ht];decide) (by simp only [ht];rfl) ?_))
     cbv
     ((refine aD (Ko ht (l:=(fe N 1).nodes) (ps:=(fe N 1).places) (by simp only [ht];exact jx) (by simp only [ht];exact jy) _ _ _ _ _ (lb:=BA 1) rfl false (BO hN (by decide)) (by decide) (by decide) (Kz _)) (by simp) (fun r4 iY=>?_)))
     cbv
     refine bG (_,_,_) (by simp only [ht];rfl) (m-1) ?_ ((O1 _ _ _ _).2 ?_)
     ·omega
     (refine .inr (.inr (.inl ⟨(by rw [lS (by decide) (by decide)];rfl),by omega,?_,?_⟩));((exact congrArg (fun p:cB=>List.map Node.cells p.nodes) (oz (k:=1) (iY.trans (ht _ _)) rfl (by simp only [ht];decide) (xF hN ea ‹_› (by decide) (by decide))).symm));((exact congrArg (fun p:cB=>List.map Place.cells p.places) (oz (k:=1) (iY.trans (ht _ _)) rfl (by simp only [ht];decide) (xF hN ea ‹_› (by decide) (by decide))).symm)))
    simp [ht] at h12
   simp [ht] at h11
   cbv
   refine bG (_,_,_) (by simp only [ht];rfl) (m-1) ?_ ((O1 _ _ _ _).2 ?_)
   ·omega
   (refine .inr (.inr (.inl ⟨(by rw [lS (by decide) (by decide)];rfl),by omega,?_,?_⟩));((exact jx.trans (congrArg (fun p:cB=>List.map Node.cells p.nodes) (sR (N:=N) (k:=1) (DR hN ea ‹_› (by decide) (by decide))).symm)));((exact jy.trans (congrArg (fun p:cB=>List.map Place.cells p.places) (sR (N:=N) (k:=1) (DR hN ea ‹_› (by decide) (by decide))).symm))))
  simp [ht] at h10
 ·cbv
  apply ap<;>intro VB
  ·simp [ht] at VB
   cbv
   ((refine ix [.str [110,51]] (by simp only [ht];decide) (by simp only [ht];rfl) ?_))
   cbv
   refine ⟨?_,?_⟩
   ·(simp only [ht];decide)
   refine ⟨?_,?_⟩
   ·(simp only [ht];decide)
   cbv
   apply ap<;>intro Sz
   ·simp [ht] at Sz
    cbv
    apply ap<;>intro h15
    ·simp [ht] at h15
    simp [ht] at h15
    cbv
    ((refine aD (Ko ht (l:=(fe N 2).nodes) (ps:=(fe N 2).places) (by simp only [ht];exact jx) (by simp only [ht];exact jy) _ _ _ _ _ (lb:=BA 2) rfl false (BO hN (by decide)) (by decide) (by decide) (Kz _)) (by simp) (fun r4 iY=>?_)))
    cbv
    refine bG (_,_,_) (by simp only [ht];rfl) (m-1) ?_ ((O1 _ _ _ _).2 ?_)
    ·omega
    (refine .inr (.inr (.inr ⟨(by rw [lS (by decide) (by decide)];rfl),by omega,?_,?_⟩));((exact congrArg (fun p:cB=>List.map Node.cells p.nodes) (oz (k:=2) (iY.trans (ht _ _)) rfl (by simp only [ht];decide) (xF hN ea ‹_› (by decide) (by decide))).symm));((exact congrArg (fun p:cB=>List.map Place.cells p.places) (oz (k:=2) (iY.trans (ht _ _)) rfl (by simp only [ht];decide) (xF hN ea ‹_› (by decide) (by decide))).symm)))
   simp [ht] at Sz
   cbv
   refine bG (_,_,_) (by simp only [ht];rfl) (m-1) ?_ ((O1 _ _ _ _).2 ?_)
   ·omega
   (refine .inr (.inr (.inr ⟨(by rw [lS (by decide) (by decide)];rfl),by omega,?_,?_⟩));((exact jx.trans (congrArg (fun p:cB=>List.map Node.cells p.nodes) (sR (N:=N) (k:=2) (DR hN ea ‹_› (by decide) (by decide))).symm)));((exact jy.trans (congrArg (fun p:cB=>List.map Place.cells p.places) (sR (N:=N) (k:=2) (DR hN ea ‹_› (by decide) (by decide))).symm))))
  simp [ht] at VB
 cbv
 apply ap<;>intro VC
 ·simp [ht] at VC
 simp [ht] at VC
 cbv
 refine an ?_
 (simp only [ht,cN,jt,jx,jy];rfl)
end Dem
end
section
open Go
namespace Dem
def fG (s:aW) (id:Int):Jb×Bool:=((bC s.av id).1,(bC s.av id).2&&!(bC s.av id).1.runs)
def jP (s:aW) (id:Int) (of:cB) (within:aH→bE→Bool):List aH×Bool:=
 if !(fG s id).2 then ([],false) else
 if !(c8 (fG s id).1.x).2||!(fit (gv of) (fG s id).1.x.bY (fG s id).1.x.gB (fG s id).1.x.count).2||!within (fG s id).1.x.path (c8 (fG s id).1.x).1 then ([],false) else
 ((fit (gv of) (fG s id).1.x.bY (fG s id).1.x.gB (fG s id).1.x.count).1,true)
def oA (s:aW) (id:Int):List aH×Bool:=jP s id s.aY fun p v=>decide ((dy s.tree p v).2=0)
def tH (t:List aR):List aR:=t.map fun e=>{e with used:=bE.zero}
def uB (t:List aR) (p:aH) (v:bE):Bool:=decide ((dy (tH t) p v).2=0)
def dK (s:aW) (id:Int):Bool:=(jP s id ⟨s.aY.nodes,[]⟩ fun p v=>uB s.tree p v).2
def fw (a b:Jb):Bool:=decide (a.x.prio<b.x.prio)||(decide (a.x.prio=b.x.prio)&&decide (b.id≤a.id))
def cm (s:aW) (id:Int):List Int:=
 if !(bC s.av id).2 then [] else
 ((s.av.filter fun o=>o.runs&&decide (o.x.prio<(bC s.av id).1.x.prio)).mergeSort fw).map (·.id)
def aT (s:aW) (l:List Int):aW:=l.foldl (fun s id=>(gG s id 5).1) s
def gK (s:aW) (id:Int) (l:List Int):List aH×Bool:=oA (aT s l) id
def lp (s:aW) (id:Int) (all:List Int):Nat→Nat→Option (List Int×List aH)
 |0,_=>none
 |n+1,k=>if (gK s id (all.take k)).2 then some (all.take k,(gK s id (all.take k)).1) else lp s id all n (k+1)
def gw (s:aW) (id:Int):Nat→Nat→List Int→List aH→List Int×List aH
 |0,_,l,nodes=>(l,nodes)
 |n+1,k,l,nodes=>if k<l.length then
  (if (gK s id (l.eraseIdx k)).2 then gw s id n k (l.eraseIdx k) (gK s id (l.eraseIdx k)).1 else gw s id n (k+1) l nodes)
  else (l,nodes)
def aU (s:aW) (id:Int):List Int×List aH×Bool:=match lp s id (cm s id) ((cm s id).length+1) 0 with
 |none=>([],[],false)
 |some (l,nodes)=>((gw s id (l.length+1) 0 l nodes).1,(gw s id (l.length+1) 0 l nodes).2,true)
end Dem
end
section
open Go Dem Go.Proofs
namespace Dem
variable {t:Th}
def aR.bare (e:aR):aR:={e with used:=bE.zero}
theorem Rf (l:List aR):tH l=l.map aR.bare:=rfl
theorem NY {l:List aR} {k:Nat} {x:aR} {u:List (List D)} (hx:l[k]?=some x) (hu:u=((l.take k).map aR.bare++l.drop k).map aR.cells):
 u.set k (be (u.getD k []) 5 [.int .u64 0,.int .u64 0,.int .u64 0,.int .u64 0])=((l.take (k+1)).map aR.bare++l.drop (k+1)).map aR.cells:=by
 have hk:k<l.length:=(List.getElem?_eq_some_iff.1 hx).1
 have e1:u.getD k []=aR.cells x:=by
  rw [hu,List.getD_eq_getElem?_getD,List.getElem?_map,List.getElem?_append_right (by simp;omega),List.getElem?_drop]
  simp [show min k l.length=k by omega,hx]
 rw [e1,hu,cV hx,eI hx]
 simp only [List.map_append,List.map_cons,List.map_nil,List.append_assoc,List.singleton_append]
 rw [List.set_append_right _ _ (by simp;omega)]
 simp [show min k l.length=k by omega,aR.bare,aR.cells,be,bE.zero]
theorem Rg {l:List aR} {k:Nat} {u:List (List D)} (hk:k<l.length) (hu:u=((l.take k).map aR.bare++l.drop k).map aR.cells):k<u.length∧5+4≤(u.getD k []).length:=by
 obtain ⟨x,hx⟩:∃x,l[k]?=some x:=⟨l[k],by simp⟩
 have e1:u.getD k []=aR.cells x:=by
  rw [hu,List.getD_eq_getElem?_getD,List.getElem?_map,List.getElem?_append_right (by simp;omega),List.getElem?_drop]
  simp [show min k l.length=k by omega,hx]
 rw [e1]
 exact ⟨by rw [hu];simp;omega,Nat.le_refl _⟩
theorem Rh (ht:TT t) (q:aH) (v1 v2 v3 v4:Int) {l:List aR} {es:List (List D)} (aC:es=l.map aR.cells) (hl:l.length<100000) (hq:q.length<1000000000000):
 FC 61 [SL es,ST q,V4 v1 v2 v3 v4] [] (.ret (cU (t _ fun _=>uB l q ⟨v1,v2,v3,v4⟩))) []:=by
 obtain ⟨m,hm⟩:∃m,m=l.length:=⟨_,rfl⟩
 have hel:m=es.length:=by rw [aC,lgM,hm]
 have hrows:∀r∈es,r.length=9:=by rw [aC];intro r hr;obtain ⟨y,_,rfl⟩:=List.mem_map.1 hr;rfl
 obtain ⟨R,hR⟩:∃R,R=uB l q ⟨v1,v2,v3,v4⟩:=⟨_,rfl⟩
 rw [←hR]
 refine cr ht Tryz.func61 (N:=33) ?_
 cbv
 have aF:es.length=l.length:=by rw [aC,lgM]
 (refine jY trv (BM ht hrows (by omega) hel) trv rfl (.inr rfl) ?_)
 cbv
 refine ⟨?_,?_⟩
 ·(simp only [ht] at*;omega)
 cbv
 obtain ⟨J0,dz⟩:∃J0:Nat→Int×List (List D)→Prop,∀n i u,J0 n (i,u)↔(∃k:Nat,i=k∧k+n=m∧u=((l.take k).map aR.bare++l.drop k).map aR.cells):=⟨fun n v=>match v with|(i,u)=>(∃k:Nat,i=k∧k+n=m∧u=((l.take k).map aR.bare++l.drop k).map aR.cells),fun _ _ _=>Iff.rfl⟩
 refine bA ⟨[1,5,7,14,15],[],[]⟩ (σ:=Int×List (List D)) (fun v=>[(15,.d (.int .i64 (t _ fun _=>v.1)))]) (fun v=>[(1,.row 9 (t _ fun _=>v.2))]) J0 ?_
 cbv
 refine aE ⟨m,(_,_),(dz _ _ _).2 ?_,by simp only [ht];rfl,?_⟩
 ·exact ⟨0,rfl,by simp,by simp [aC]⟩
 rintro n ⟨i,u⟩ hj
 replace hj:=(dz _ _ _).1 hj
 obtain ⟨k,rfl,j1,j4⟩:=hj
 cbv
 apply ap<;>intro h1
 ·simp [ht,ah,aF] at h1
  cbv
  refine ⟨?_,?_⟩
  ·(simp only [ht,ah] at*;omega)
  refine ⟨?_,?_⟩
  ·(simp only [ht,ah,Int.toNat_natCast];exact Rg (by omega) j4)
  cbv
  refine bG (_,_) (by simp only [ht];rfl) (n-1) ?_ ((dz _ _ _).2 ?_)
  ·omega
  simp only [ah]
  (obtain ⟨x,hx⟩:∃x,l[k]?=some x:=⟨l[k]'(by omega),by simp⟩;exact ⟨k+1,aB (by omega),by omega,NY hx j4⟩)
 simp [ht,ah,aF] at h1
 cbv
 (have j5:u=(tH l).map aR.cells:=(by rw [j4,List.take_of_length_le (by omega),List.drop_eq_nil_of_le (by omega)];simp [Rf]);have h5:(tH l).length=l.length:=(by simp [tH]);refine JO (E:=BK t) (r0:=t _ fun _=>dy (tH l) q ⟨v1,v2,v3,v4⟩) trv rfl (by simp [ht,j5,h5,hm]) (by exact cR [] rfl rfl rfl rfl (uz ht q v1 v2 v3 v4 (l:=tH l) (by simp only [ht];exact j5) (by omega) hq)) (fun r1 cM=>?_);simp only [ht] at cM)
 cbv
 refine an ?_
 (simp only [ht,hR,uB,←cM];done)
end Dem
end
section
open Go
namespace Dem
theorem Ih {l m:List bK} (hl:zA l) (hm:zA m) (h:∀q,q∈l↔q∈m):l=m:=by
 have hn:∀{r:List bK},zA r→r.Nodup:=fun {r} hr=>by
  rw [List.nodup_iff_pairwise_ne]
  exact hr.imp fun {a b} g e=>by subst e;rw [iO] at g;omega
 exact ((List.perm_ext_iff_of_nodup (hn hl) (hn hm)).2 h).eq_of_pairwise (fun a b _ _ h1 h2=>by rw [iO] at h1 h2;omega) hl hm
theorem bW.trans {a b c:List aR} (h:bW a b) (g:bW b c):bW a c:=⟨by rw [g.len,h.len],fun i e hi=>by
 obtain ⟨x,h1,h2,h3⟩:=h.at_ i e hi
 obtain ⟨y,g1,g2,g3⟩:=g.at_ i x h1
 exact ⟨y,g1,by rw [g2,h2],by rw [g3,h3]⟩⟩
theorem bW.refl (a:List aR):bW a a:=⟨rfl,fun _ e hi=>⟨e,hi,rfl,rfl⟩⟩
theorem gx {l:List Jb} (ha:tc l) {i:Nat} {j:Jb} (hj:l[i]?=some j):l.findIdx? (fun x=>decide (x.id=j.id))=some i∧l.getD i Jb.zero=j∧bC l j.id=(j,true):=by
 have h1:l.findIdx? (fun x=>decide (x.id=j.id))=some i:=by
  cases h:l.findIdx? (fun x=>decide (x.id=j.id)) with
  |none=>rw [List.findIdx?_eq_none_iff] at h;have:=h j (List.mem_of_getElem? hj);simp at this
  |some k=>
   obtain ⟨y,a,b,_⟩:=nH h
   rw [vR ha a hj b]
 refine ⟨h1,by rw [List.getD_eq_getElem?_getD,hj];rfl,?_⟩
 unfold bC
 cases h:l.find? (fun x=>decide (x.id=j.id)) with
 |none=>rw [List.find?_eq_none] at h;have:=h j (List.mem_of_getElem? hj);simp at this
 |some y=>
  have e:=List.find?_some h
  simp only [decide_eq_true_eq] at e
  simp only
  rw [dh ha (List.mem_of_find?_eq_some h) (List.mem_of_getElem? hj) e]
abbrev Jb.begun (j:Jb):Jb:={j with runs:=true,left:=j.x.eZ}
abbrev Jb.halted (j:Jb):Jb:={j with runs:=false,left:=0}
theorem xH {s:aW} (h:s.ok) {id:Int} {names:List aH} (e:(cJ s id names).2=0):
 ∃(i:Nat) (j:Jb) (T:List aR),s.av[i]?=some j∧j.id=id∧j.runs=false∧(names.length:Int)=j.x.count∧bW s.tree T∧
  (cJ s id names).1=jK ⟨s.round,s.next,⟨s.aY.nodes,s.aY.places++names.map (fun n=>⟨id,n,j.x.gB⟩)⟩,T,s.av.set i j.begun,s.queue.filter (fun q=>!decide (q.id=id)),s.ev,s.au⟩ id 2:=by
 unfold cJ at e ⊢
 cases hf:s.av.findIdx? (fun j=>decide (j.id=id)) with
 |none=>rw [hf] at e;cases e
 |some i=>
  obtain ⟨j,hj,hid,c⟩:=nH hf
  rw [hf] at e
  simp only at e ⊢
  rw [c] at e ⊢
  unfold kx at e ⊢
  by_cases h1:j.runs=true
  ·rw [if_pos h1] at e;cases e
  rw [if_neg h1] at e ⊢
  by_cases h2:(names.length:Int)≠j.x.count
  ·rw [if_pos h2] at e;cases e
  rw [if_neg h2] at e ⊢
  by_cases h3:(!(c8 j.x).2)=true
  ·rw [if_pos h3] at e;cases e
  rw [if_neg h3] at e ⊢
  by_cases h4:(dy s.tree j.x.path (c8 j.x).1).2≠0
  ·rw [if_pos h4] at e;exact absurd e h4
  rw [if_neg h4] at e ⊢
  simp only [Decidable.not_not] at h2 h4
  rcases Bv s.aY id names j.x.gB with ⟨_,e2⟩|⟨e2,_⟩
  ·rw [if_pos e2] at e;exact absurd e e2
  rw [if_neg (by rw [e2];simp)]
  refine ⟨i,j,_,hj,hid,by simpa using h1,h2,(DI h h4).2.1,?_⟩
  rw [lU h.kY,e2];rfl
theorem BQ {s:aW} (h:s.ok) {i:Nat} {j:Jb} (hj:s.av[i]?=some j) (hr:j.runs=true) (kind:Int):
 ∃T Q,bW s.tree T∧gG s j.id kind=(jK ⟨s.round,s.next,ry s.aY j.id,T,s.av.set i j.halted,Q,s.ev,s.au⟩ j.id kind,0):=by
 obtain ⟨h1,h2,_⟩:=gx h.ids hj
 refine ⟨_,(jZ s.queue ⟨j.id,j.x.prio⟩).1,(oo h hj hr).2.2.1,?_⟩
 unfold gG
 rw [h1]
 simp only
 rw [h2,if_neg (by simp [hr]),h.jN hj hr]
 simp [DC]
theorem zR {s:aW} (h:s.ok) {i:Nat} {j:Jb} (hj:s.av[i]?=some j) (kind:Int):
 (send s j.id kind).2=0∧(j.runs=false→send s j.id kind=(jK ⟨s.round,s.next,s.aY,s.tree,s.av.eraseIdx i,s.queue.filter (fun q=>!decide (q.id=j.id)),s.ev,s.au⟩ j.id kind,0))∧
 (j.runs=true→∃T,bW s.tree T∧send s j.id kind=(jK ⟨s.round,s.next,ry s.aY j.id,T,s.av.eraseIdx i,s.queue,s.ev,s.au⟩ j.id kind,0)):=by
 obtain ⟨h1,h2,_⟩:=gx h.ids hj
 unfold send
 rw [h1]
 simp only
 rw [h2]
 refine ⟨trv,fun hr=>?_,fun hr=>?_⟩
 ·rw [hr,if_neg (by simp),lU h.kY]
 refine ⟨_,(oo h hj hr).2.2.1,?_⟩
 rw [if_pos hr,h.jN hj hr]
theorem KA {s:aW} (h:s.ok) {x:Ask} (e:(cY s x).2.2=0):
 (cY s x).2.1=s.next∧s.next+1<18446744073709551616∧
 (cY s x).1=jK ⟨s.round,s.next+1,s.aY,s.tree,s.av++[⟨s.next,x,false,0⟩],s.queue.take (vI s.queue ⟨s.next,x.prio⟩)++⟨s.next,x.prio⟩::s.queue.drop (vI s.queue ⟨s.next,x.prio⟩),s.ev,s.au⟩ s.next 1:=by
 unfold cY at e ⊢
 by_cases h1:dY x≠0
 ·rw [if_pos h1] at e;exact absurd e h1
 rw [if_neg h1] at e ⊢
 by_cases h2:(!gV s.tree x.path)=true
 ·rw [if_pos h2] at e;cases e
 rw [if_neg h2] at e ⊢
 by_cases h3:32≤s.av.length∨s.next=18446744073709551615
 ·rw [if_pos h3] at e;cases e
 rw [if_neg h3] at e ⊢
 have hnx:=h.next
 rcases rC s.queue ⟨s.next,x.prio⟩ with ⟨_,e2,_⟩|⟨e2,_⟩
 ·rw [if_pos e2] at e;exact absurd e e2
 rw [e2,if_neg (by simp)]
 have hu:u64 (s.next+1)=s.next+1:=by unfold u64;omega
 rw [hu]
 exact ⟨rfl,by omega,rfl⟩
theorem DS {s:aW} {x:Ask} (e:(cY s x).2.2≠0):(cY s x).1=s∧(cY s x).2.1=0∧(dY x=0∨(cY s x).2.2=dY x):=by
 unfold cY at e ⊢
 by_cases h1:dY x≠0
 ·rw [if_pos h1];exact ⟨rfl,rfl,.inr rfl⟩
 rw [if_neg h1] at e ⊢
 simp only [Decidable.not_not] at h1
 by_cases h2:(!gV s.tree x.path)=true
 ·rw [if_pos h2];exact ⟨rfl,rfl,.inl h1⟩
 rw [if_neg h2] at e ⊢
 by_cases h3:32≤s.av.length∨s.next=18446744073709551615
 ·rw [if_pos h3];exact ⟨rfl,rfl,.inl h1⟩
 rw [if_neg h3] at e ⊢
 by_cases h4:(jZ s.queue ⟨s.next,x.prio⟩).2≠0
 ·rw [if_pos h4];exact ⟨rfl,rfl,.inl h1⟩
 rw [if_neg h4] at e;exact absurd rfl e
structure aW.dD (A:Ask→Prop) (s:aW):Prop where
 names:∀n∈s.aY.nodes,n.sm
 paths:∀e∈s.tree,e.path.length<1000
 xs:∀j∈s.av,A j.x
structure fH (s t:aW):Prop where
 nodes:t.aY.nodes=s.aY.nodes
 paths:∀e∈t.tree,∃f∈s.tree,e.path=f.path
 xs:∀j∈t.av,∃k∈s.av,j.x=k.x
theorem fH.refl (s:aW):fH s s:=⟨rfl,fun e h=>⟨e,h,rfl⟩,fun j h=>⟨j,h,rfl⟩⟩
theorem fH.dD {A:Ask→Prop} {s t:aW} (h:fH s t) (l:s.dD A):t.dD A:=by
 refine ⟨by rw [h.nodes];exact l.names,fun e he=>?_,fun j hj=>?_⟩
 ·obtain ⟨f,hf,e1⟩:=h.paths e he;rw [e1];exact l.paths f hf
 obtain ⟨k,hk,e1⟩:=h.xs j hj;rw [e1];exact l.xs k hk
theorem KB {l:List Jb} {k:Nat} {j y:Jb} (hk:l[k]?=some y) (hx:j.x=y.x):∀z∈l.set k j,∃w∈l,z.x=w.x:=by
 intro z hz
 rcases List.mem_or_eq_of_mem_set hz with h|rfl
 ·exact ⟨z,h,rfl⟩
 exact ⟨y,List.mem_of_getElem? hk,hx⟩
theorem oB {t u:List aR} (h:bW t u):∀e∈u,∃f∈t,e.path=f.path:=fun e he=>by
 obtain ⟨f,hf,h1,_⟩:=h.back he
 exact ⟨f,hf,h1⟩
theorem DT {s:aW} {id:Int} {names:List aH} (e:(cJ s id names).2≠0):(cJ s id names).1=s:=by
 unfold cJ at e ⊢
 split
 ·rfl
 rename_i k hk
 rw [hk] at e
 simp only at e
 unfold kx at e ⊢
 by_cases h1:(s.av.getD k Jb.zero).runs=true
 ·rw [if_pos h1]
 rw [if_neg h1] at e ⊢
 by_cases h2:(names.length:Int)≠(s.av.getD k Jb.zero).x.count
 ·rw [if_pos h2]
 rw [if_neg h2] at e ⊢
 by_cases h3:(!(c8 (s.av.getD k Jb.zero).x).2)=true
 ·rw [if_pos h3]
 rw [if_neg h3] at e ⊢
 split
 ·rfl
 rename_i h4
 rw [if_neg h4] at e
 split
 ·rfl
 rename_i h5
 rw [if_neg h5] at e
 exact absurd rfl e
theorem yX {s:aW} (h:s.ok) (id:Int) (names:List aH):fH s (cJ s id names).1:=by
 by_cases e:(cJ s id names).2=0
 ·obtain ⟨i,j,T,h1,h2,h3,h4,h5,h6⟩:=xH h e
  rw [h6]
  exact ⟨rfl,oB h5,KB h1 rfl⟩
 rw [DT e];exact fH.refl s
theorem KD {s:aW} (h:s.ok) (id kind:Int):fH s (gG s id kind).1:=by
 cases hf:s.av.findIdx? (fun j=>decide (j.id=id)) with
 |none=>unfold gG;rw [hf];exact fH.refl s
 |some i=>
  obtain ⟨j,hj,rfl,c⟩:=nH hf
  by_cases hr:j.runs=true
  ·obtain ⟨T,Q,h1,h2⟩:=BQ h hj hr kind
   rw [h2]
   exact ⟨rfl,oB h1,KB hj rfl⟩
  unfold gG;rw [hf];simp only;rw [c,if_pos (by simpa using hr)];exact fH.refl s
theorem DU {s:aW} (h:s.ok) (id kind:Int):fH s (send s id kind).1:=by
 cases hf:s.av.findIdx? (fun j=>decide (j.id=id)) with
 |none=>unfold send;rw [hf];exact fH.refl s
 |some i=>
  obtain ⟨j,hj,rfl,c⟩:=nH hf
  obtain ⟨h1,h2,h3⟩:=zR h hj kind
  have hx:∀z∈s.av.eraseIdx i,∃w∈s.av,z.x=w.x:=fun z hz=>⟨z,List.mem_of_mem_eraseIdx hz,rfl⟩
  by_cases hr:j.runs=true
  ·obtain ⟨T,h4,h5⟩:=h3 hr
   rw [h5]
   exact ⟨rfl,oB h4,hx⟩
  rw [h2 (by simpa using hr)]
  exact ⟨rfl,fun e he=>⟨e,he,rfl⟩,hx⟩
theorem BR {A:Ask→Prop} {s:aW} (l:s.dD A) {x:Ask} (hx:A x):(cY s x).1.dD A:=by
 by_cases e:(cY s x).2.2=0
 ·unfold cY at e ⊢
  split
  ·exact l
  split
  ·exact l
  split
  ·exact l
  split
  ·exact l
  refine ⟨l.names,l.paths,fun j hj=>?_⟩
  rcases List.mem_append.1 hj with h|h
  ·exact l.xs j h
  rw [List.mem_singleton.1 h];exact hx
 rw [(DS e).1];exact l
structure tI (x:Ask):Prop where
 path:x.path.length≤4
 gB:x.gB.w
 bY:x.bY.length≤1
 key:∀m∈x.bY,m.key.length≤4∧m.mU.length≤1∧∀v∈m.mU,v.length≤1
theorem mN (x:iX):tI (CJ x):=by
 refine ⟨?_,QI x,?_,?_⟩
 ·unfold CJ
  simp only
  have:∀k<4,(Bz.getD k []).length≤4:=by decide
  exact this _ (Nat.mod_lt _ (by decide))
 ·unfold CJ;simp only;split<;>simp
 unfold CJ;simp only;split
 ·intro m hm
  rw [List.mem_singleton.1 hm]
  exact ⟨by show TH.length≤4;decide,by simp,by simp⟩
 intro m hm;cases hm
theorem KE {p:cB} (h:∀n∈p.nodes,n.sm) {y:Node} (hy:y.sm):∀n∈(ri p y).1.nodes,n.sm:=by
 rcases uo p y with ⟨e,_⟩|⟨_,_,_,e⟩
 ·rw [e];exact h
 rw [e]
 intro n hn
 rcases List.mem_append.1 hn with h1|h1
 ·exact h n (List.mem_of_mem_take h1)
 rcases List.mem_cons.1 h1 with rfl|h1
 ·exact hy
 exact h n (List.mem_of_mem_drop h1)
theorem Ii (i:Nat):(⟨lm.getD i [],⟨(4+2*i:Nat),9,9,9⟩,BA i,false⟩:Node).sm:=by
 have h1:∀i,(lm.getD i []).length≤2
  |0=>by decide
  |1=>by decide
  |2=>by decide
  |i+3=>by simp [lm]
 have h2:∀i,(BA i).length≤1∧∀q∈BA i,q.sm:=by
  intro i
  unfold BA
  split
  ·refine ⟨by simp,fun q hq=>?_⟩
   rw [List.mem_singleton.1 hq]
   have h3:∀i,(([[97],[98]]:List aH).getD i []).length≤1
    |0=>by decide
    |1=>by decide
    |i+2=>by simp
   have:=h3 i
   exact ⟨by show TH.length<_;decide,by simp only;omega⟩
  exact ⟨by simp,fun q hq=>by cases hq⟩
 exact ⟨by have:=h1 i;simp only;omega,by have:=(h2 i).1;simp only;omega,(h2 i).2⟩
theorem uC (n:Nat):∀i,∀x∈(fe n i).nodes,x.sm
 |0=>fun x hx=>by cases hx
 |i+1=>by
  unfold fe
  split
  ·exact KE (uC n i) (Ii i)
  exact uC n i
theorem yY (A:Ask→Prop) (n:Nat):(jO n).dD A:=by
 refine ⟨uC n 3,fun e he=>?_,fun j hj=>by cases hj⟩
 unfold jO at he
 rw [Md _ (Nat.mod_lt _ (by decide))] at he
 simp only [p9,List.mem_cons,List.not_mem_nil,or_false] at he
 rcases he with rfl|rfl|rfl|rfl<;>simp
theorem Ud (id:Int) (x:Place) (l:List Place):sZ id (x::l)=(if x.bu=id then 1 else 0)+sZ id l:=by
 unfold sZ
 rw [List.filter_cons]
 split<;>simp_all<;>omega
theorem WS {js:List Jb} {f g:Jb→Nat} (h:∀j∈js,f j≤g j):(js.map f).sum≤(js.map g).sum:=by
 induction js with
 |nil=>simp
 |cons a l ih=>
  simp only [List.map_cons,List.sum_cons]
  have:=h a (List.mem_cons_self ..)
  have:=ih fun j hj=>h j (List.mem_cons_of_mem _ hj)
  omega
theorem Ri {js:List Jb} (f g:Jb→Nat):(js.map fun j=>f j+g j).sum=(js.map f).sum+(js.map g).sum:=by
 induction js with
 |nil=>simp
 |cons a l ih=>simp only [List.map_cons,List.sum_cons,ih];omega
theorem Ue {js:List Jb} {id:Int} {j:Jb} (hj:j∈js) (e:j.id=id):1≤(js.map fun j=>if id=j.id then 1 else 0).sum:=by
 induction js with
 |nil=>cases hj
 |cons a l ih=>
  simp only [List.map_cons,List.sum_cons]
  rcases List.mem_cons.1 hj with rfl|hj
  ·rw [if_pos e.symm];omega
  have:=ih hj;omega
theorem BS {js:List Jb}:∀{l:List Place},(∀x∈l,∃j∈js,j.id=x.bu)→l.length≤(js.map fun j=>sZ j.id l).sum
 |[],_=>by simp
 |x::l,h=>by
  have ih:=BS (js:=js) (l:=l) fun y hy=>h y (List.mem_cons_of_mem _ hy)
  obtain ⟨j,hj,e⟩:=h x (List.mem_cons_self ..)
  have h1:=Ue hj e
  have:(fun j:Jb=>sZ j.id (x::l))=fun j=>(if x.bu=j.id then 1 else 0)+sZ j.id l:=by funext j;rw [Ud]
  rw [this,Ri]
  simp only [List.length_cons]
  omega
theorem aW.ok.KF {s:aW} (h:s.ok):s.aY.places.length≤256:=by
 have h1:=BS (js:=s.av) (l:=s.aY.places) fun x hx=>by
  obtain ⟨j,hj,_,e,_⟩:=h.places x hx
  exact ⟨j,hj,e⟩
 have h2:∀j∈s.av,sZ j.id s.aY.places≤8:=by
  intro j hj
  cases hr:j.runs with
  |true=>
   have e1:=h.count j hj hr
   have e2:=dZ.1 (h.sN j hj).1
   omega
  |false=>
   have e1:=h.Mc hj hr
   have:sZ j.id s.aY.places=0:=by
    unfold sZ
    rw [List.length_eq_zero_iff,List.filter_eq_nil_iff]
    intro x hx;simpa using e1 x hx
   omega
 have h3:=WS (f:=fun j=>sZ j.id s.aY.places) (g:=fun _=>8) h2
 have h4:(s.av.map fun _=>8).sum=8*s.av.length:=by
  generalize s.av=l
  induction l with
  |nil=>rfl
  |cons a l ih=>simp only [List.map_cons,List.sum_cons,List.length_cons,ih];omega
 have:=h.most
 omega
end Dem
end
section
open Go Dem Go.Proofs
namespace Dem
variable {t:Th}
theorem NZ (ht:TT t) (q:aH) {l:List (dj)} {es:List (List D)} (aC:es=l.map dj.cells) (f:Nat) (p:dj→Bool) (hl:l.length<9223372036854775807)
 (hf:∀x∈l,FC f [.agg [ST x.key,ST x.value],.ptr 0 0] [.var [ST q]] (.ret (BL (p x))) [.var [ST q]]) {r:Int} (hr:r=idxOf p l):FC 165 [SL es,.fn f [.ptr 0 0]] [.var [ST q]] (.ret (bD r)) [.var [ST q]]:=by
 have hel:es.length=l.length:=by rw [aC,lgM]
 refine jG ht (bz:=[.var [ST q]]) Tryz.func165 rfl rfl (N:=19) rfl rfl (n:=1) rfl rfl ?_
 cbv
 refine bA ⟨[0,1,7,8],[],[]⟩ (σ:=Nat) (fun k=>[(8,bD (t _ fun _=>(k:Int)))]) (fun _=>[]) (tF p l) ?_
 cbv
 refine aE ⟨l.length,0,.nil,by simp only [ht];rfl,fun n k hj=>?_⟩
 cbv
 apply ap<;>intro h
 ·simp only [ht,ah,decide_eq_true_eq] at h
  have hk:k<es.length:=by omega
  obtain ⟨x,hx,mQ,px,hpx⟩:=hj.get (by omega)
  have gJ:=hf x mQ
  rw [←hpx] at gJ
  obtain ⟨k',v'⟩:=x
  cbv
  refine ix [.str k',.str v'] ?_ ?_ ?_
  ·simp only [ht,ah];exact pK aC hk fun _=>rfl
  ·simp [ht,ah,aC,hx]
  cbv
  refine dx trv gJ ?_
  cbv
  apply ap<;>intro hb
  ·cbv
   refine an ?_
   simp only [ht,ah,hr,hj.hit hx (hpx▸hb)]
  cbv
  refine aE ⟨n-1,k+1,⟨hj.lt hx,hj.next hx (hpx▸hb)⟩,?_⟩
  simp only [ht,ah,aB (show k<9223372036854775807 by omega)];rfl
 simp only [ht,ah,decide_eq_false_iff_not] at h
 have hk:l.length≤k:=by omega
 clear h
 cbv
 refine an ?_
 rw [hr,hj.none hk]
theorem Rj (ht:TT t) (q k v:aH):FC 166 [.agg [ST k,ST v],.ptr 0 0] [.var [ST q]] (.ret (BL (decide (k=q)))) [.var [ST q]]:=by
 refine jG ht (bz:=[.var [ST q]]) Tryz.func166 rfl rfl (N:=8) rfl rfl (n:=1) rfl rfl ?_
 cbv
 refine an ?_
 simp [ht]
def ESB (r:aH×Bool):AV:=.ek [ST r.1,BL r.2]
theorem Ij (ht:TT t) (q:aH) {l:List dj} {es:List (List D)} (aC:es=l.map dj.cells) (hl:l.length<1000000000):
 FC 115 [SL es,ST q] [] (.ret (ESB (t _ fun _=>Hu l q))) []:=by
 obtain ⟨r9,gD⟩:∃r,r=idxOf (fun x:dj=>decide (x.key=q)) l:=⟨_,rfl⟩
 refine cr ht Tryz.func115 (N:=17) ?_
 cbv
 have aF:es.length=l.length:=by rw [aC,lgM]
 (refine dJ [0] trv rfl rfl (NZ ht q aC 166 (fun x=>decide (x.key=q)) (by omega) (fun x _=>Rj ht q _ _) gD) (cA ?_);have ec:=cD gD;clear gD;rcases ec with ⟨e1,e2,e3⟩|⟨i,x,hi,hil,e1,e2,e3,e4⟩)
 ·cbv
  apply ap<;>intro h0
  ·simp [ht] at h0
   cbv
   refine an ?_
   (simp [ht,Hu,e3];done)
  simp [ht] at h0
  omega
 cbv
 apply ap<;>intro h1
 ·simp [ht] at h1
  (simp only [ah] at*;omega)
 simp [ht] at h1
 cbv
 refine zx ht aC (cT:=dj.aS t) e1 ‹_› (fun _=>rfl) (fun _=>rfl) ?_
 cbv
 refine an ?_
 (simp [ht,Hu,e4];done)
theorem N0 (ht:TT t) (a:aH) {l:List aH} {es:List (List D)} (aC:es=l.map bB) (hl:l.length<1000000000):
 FC 293 [SL es,ST a] [] (.ret (kp (t _ fun _=>HZ a l))) []:=by
 refine cr ht Tryz.func293 (N:=19) ?_
 cbv
 have aF:es.length=l.length:=by rw [aC,lgM]
 obtain ⟨J0,dz⟩:∃J0:Nat→Int→Prop,∀n i,J0 n i↔(∃k:Nat,i=k∧k+n=l.length∧∀i<k,∀y,l[i]?=some y→a≠y):=⟨fun n v=>match v with|i=>(∃k:Nat,i=k∧k+n=l.length∧∀i<k,∀y,l[i]?=some y→a≠y),fun _ _=>Iff.rfl⟩
 refine bA ⟨[0,1,7,8],[],[]⟩ (σ:=Int) (fun v=>[(8,.d (.int .i64 (t _ fun _=>v)))]) (fun v=>[]) J0 ?_
 cbv
 refine aE ⟨l.length,_,(dz _ _).2 ?_,by simp only [ht];rfl,?_⟩
 ·exact ⟨0,rfl,by simp,fun i hi=>by omega⟩
 rintro n i hj
 replace hj:=(dz _ _).1 hj
 obtain ⟨k,rfl,j1,j4⟩:=hj
 cbv
 apply ap<;>intro h1
 ·simp [ht,ah,aF] at h1
  cbv
  refine ig ht aC (cT:=gC t) (by (simp only [ht,ah];omega)) (by (simp only [ht,ah];omega)) (fun _=>rfl) (fun _=>rfl) (fun x2 gX=>?_)
  simp [ht,ah] at gX
  cbv
  apply ap<;>intro h3
  ·simp [ht] at h3
   cbv
   refine an ?_
   (simp only [ht];rw [E9 ‹_› ‹_› j4];done)
  simp [ht] at h3
  cbv
  refine bG _ (by simp only [ht];rfl) (n-1) ?_ ((dz _ _).2 ?_)
  ·omega
  simp only [ah]
  exact ⟨k+1,aB (by omega),by omega,xA j4 ‹_› ‹_›⟩
 simp [ht,ah,aF] at h1
 cbv
 refine an ?_
 (simp only [ht];rw [Fa (by omega) j4];done)
theorem N1 (ht:TT t) (a:aH) {l:List aH} {es:List (List D)} (aC:es=l.map bB) (hl:l.length<1000000000):
 FC 292 [SL es,ST a] [] (.ret (cU (t _ fun _=>l.contains a))) []:=by
 refine cr ht Tryz.func292 (N:=9) ?_
 cbv
 have aF:es.length=l.length:=by rw [aC,lgM]
 refine aG (N0 ht _ ‹_› ‹_›) trv (fun r0 cN=>?_)
 simp only [ht] at cN
 cbv
 refine an ?_
 (simp [ht,cN,BI];done)
theorem Ik (ht:TT t) (a:aH) {l:List aH} {es:List (List D)} (aC:es=l.map bB) (hl:l.length<1000000000):
 FC 291 [SL es,ST a] [] (.ret (cU (t _ fun _=>l.contains a))) []:=by
 refine cr ht Tryz.func291 (N:=8) ?_
 cbv
 have aF:es.length=l.length:=by rw [aC,lgM]
 refine aG (N1 ht _ ‹_› ‹_›) trv (fun r0 cN=>?_)
 simp only [ht] at cN
 cbv
 refine an ?_
 (simp [*];done)
theorem Il (ht:TT t) (a:aH):FC 290 [.agg [],ST a] [] (.ret (BL true)) []:=by
 refine cr ht Tryz.func290 (N:=5) ?_
 cbv
 refine an ?_
 simp
theorem Uf (ht:TT t) (k:aH) (n:Bool):FC 116 [.agg [ST k,BL n,SL []]] [] (.ret (.sS 227 (.agg []))) []:=by
 refine cr ht Tryz.func116 (N:=12) ?_
 cbv
 refine lA (by simp [ht]) ?_
 cbv
 refine an ?_
 simp
theorem Ug (ht:TT t) (k:aH) (n:Bool) {vr:List (List D)} (hv:vr.length≠0):FC 116 [.agg [ST k,BL n,SL vr]] [] (.ret (.sS 228 (SL vr))) []:=by
 refine cr ht Tryz.func116 (N:=12) ?_
 cbv
 refine pX (by simp only [ht,ah,decide_eq_false_iff_not];omega) ?_
 cbv
 refine an ?_
 simp
theorem KG (ht:TT t) (k:aH) (n:Bool) {vs:List aH} {vr:List (List D)} (HU:vr=vs.map bB) (hv:vs.length<1000000000) {l:List dj} {ls:List (List D)} (hls:ls=l.map dj.cells) (hl:l.length<1000000000) (h0:vr=[]):
 FC 76 [.agg [ST k,BL n,SL vr],SL ls] [] (.ret (cU (t _ fun _=>ld ⟨k,n,vs⟩ l))) []:=by
 have hlen:vr.length=vs.length:=by rw [HU,lgM]
 obtain ⟨H,hH⟩:∃H,H=ld ⟨k,n,vs⟩ l:=⟨_,rfl⟩
 rw [←hH]
 simp only [ld] at hH
 subst h0
 have Tx:vs.length=0:=by simpa using hlen.symm
 rw [if_pos (show vs.length=0 from Tx)] at hH
 clear HU hlen
 refine cr ht Tryz.func76 (N:=24) ?_
 cbv
 have xI:ls.length=l.length:=by rw [hls,lgM]
 refine aG (Ij ht _ ‹_› ‹_›) trv (fun r0 cN=>?_)
 simp only [ht] at cN
 cbv
 refine bS [false,false,false,false,false,false,false,false,false,true,true] ?_
 cbv
 iterate 3 refine gI (by simp) ?_
 (refine nD (fun g=>⟨by simpa [ht] using g,trv,Uf ht k n⟩) rfl rfl rfl ?_)
 cbv
 refine gI (by simp) ?_
 (refine Vm (G8 (fun g=>⟨by simpa [ht] using g,trv,Il ht _⟩) rfl rfl ?_))
 cbv
 refine gI (by simp [bU]) ?_
 iterate 2 refine gI (by simp) ?_
 refine an ?_
 (simp only [ht];grind)
theorem KH (ht:TT t) (k:aH) (n:Bool) {vs:List aH} {vr:List (List D)} (HU:vr=vs.map bB) (hv:vs.length<1000000000) {l:List dj} {ls:List (List D)} (hls:ls=l.map dj.cells) (hl:l.length<1000000000) (h0:vr.length≠0):
 FC 76 [.agg [ST k,BL n,SL vr],SL ls] [] (.ret (cU (t _ fun _=>ld ⟨k,n,vs⟩ l))) []:=by
 have hlen:vr.length=vs.length:=by rw [HU,lgM]
 obtain ⟨H,hH⟩:∃H,H=ld ⟨k,n,vs⟩ l:=⟨_,rfl⟩
 rw [←hH]
 simp only [ld] at hH
 rw [if_neg (show ¬vs.length=0 by omega)] at hH
 refine cr ht Tryz.func76 (N:=24) ?_
 cbv
 have xz:vr.length=vs.length:=by rw [HU,lgM]
 have xI:ls.length=l.length:=by rw [hls,lgM]
 refine aG (Ij ht _ ‹_› ‹_›) trv (fun r0 cN=>?_)
 simp only [ht] at cN
 cbv
 refine bS [false,false,false,false,false,false,false,false,false,true,true] ?_
 cbv
 iterate 3 refine gI (by simp) ?_
 (refine nD (fun g=>⟨by simpa [ht] using g,trv,Ug ht k n (by omega)⟩) rfl rfl rfl ?_)
 cbv
 refine gI (by simp) ?_
 (refine Vm (cj (fun g=>⟨by simpa [ht] using g,trv,Ik ht _ HU hv⟩) rfl rfl (fun r1 cM=>?_));simp only [ht] at cM)
 cbv
 refine gI (by simp [bU]) ?_
 iterate 2 refine gI (by simp) ?_
 refine an ?_
 (simp only [ht];grind)
theorem N2 (ht:TT t) (k:aH) (n:Bool) {vs:List aH} {vr:List (List D)} (HU:vr=vs.map bB) (hv:vs.length<1000000000) {l:List dj} {ls:List (List D)} (hls:ls=l.map dj.cells) (hl:l.length<1000000000):
 FC 76 [.agg [ST k,BL n,SL vr],SL ls] [] (.ret (cU (t _ fun _=>ld ⟨k,n,vs⟩ l))) []:=by
 by_cases h0:vr=[]
 ·exact KG ht k n HU hv hls hl h0
 exact KH ht k n HU hv hls hl (by intro h;exact h0 (List.length_eq_zero_iff.1 h))
theorem KI (ht:TT t) (ls:List (List D)) {l:List (Term)} {es:List (List D)} (aC:es=l.map Term.cells) (f:Nat) (p:Term→Bool) (hl:l.length<9223372036854775807)
 (hf:∀x∈l,FC f [.agg [ST x.key,BL x.no,SL (x.mU.map bB)],.ptr 0 0] [.var [SL ls]] (.ret (BL (p x))) [.var [SL ls]]) {r:Int} (hr:r=idxOf p l):FC 114 [SL es,.fn f [.ptr 0 0]] [.var [SL ls]] (.ret (bD r)) [.var [SL ls]]:=by
 have hel:es.length=l.length:=by rw [aC,lgM]
 refine jG ht (bz:=[.var [SL ls]]) Tryz.func114 rfl rfl (N:=19) rfl rfl (n:=1) rfl rfl ?_
 cbv
 refine bA ⟨[0,1,7,8],[],[]⟩ (σ:=Nat) (fun k=>[(8,bD (t _ fun _=>(k:Int)))]) (fun _=>[]) (tF p l) ?_
 cbv
 refine aE ⟨l.length,0,.nil,by simp only [ht];rfl,fun n k hj=>?_⟩
 cbv
 apply ap<;>intro h
 ·simp only [ht,ah,decide_eq_true_eq] at h
  have hk:k<es.length:=by omega
  obtain ⟨x,hx,mQ,px,hpx⟩:=hj.get (by omega)
  have gJ:=hf x mQ
  rw [←hpx] at gJ
  obtain ⟨a,b,c⟩:=x;obtain ⟨HS,mK⟩:∃lr:List (List D),lr=c.map bB:=⟨_,rfl⟩;simp only [←mK] at gJ
  cbv
  refine ix [.str a,.bool b,.sl HS] ?_ ?_ ?_
  ·simp only [ht,ah];exact pK aC hk fun _=>rfl
  ·simp [ht,ah,aC,hx,mK,Term.cells]
  cbv
  refine dx trv gJ ?_
  cbv
  apply ap<;>intro hb
  ·cbv
   refine an ?_
   simp only [ht,ah,hr,hj.hit hx (hpx▸hb)]
  cbv
  refine aE ⟨n-1,k+1,⟨hj.lt hx,hj.next hx (hpx▸hb)⟩,?_⟩
  simp only [ht,ah,aB (show k<9223372036854775807 by omega)];rfl
 simp only [ht,ah,decide_eq_false_iff_not] at h
 have hk:l.length≤k:=by omega
 clear h
 cbv
 refine an ?_
 rw [hr,hj.none hk]
theorem KJ (ht:TT t) (ls:List (List D)) {l:List (Term)} {es:List (List D)} (aC:es=l.map Term.cells) (f:Nat) (p:Term→Bool) (hl:l.length<9223372036854775807)
 (hf:∀x∈l,FC f [.agg [ST x.key,BL x.no,SL (x.mU.map bB)],.ptr 0 0] [.var [SL ls]] (.ret (BL (p x))) [.var [SL ls]]) {r:Bool} (hr:r=l.any p):FC 74 [SL es,.fn f [.ptr 0 0]] [.var [SL ls]] (.ret (BL r)) [.var [SL ls]]:=by
 obtain ⟨k,hk⟩:∃k,k=idxOf p l:=⟨_,rfl⟩
 refine jG ht (bz:=[.var [SL ls]]) Tryz.func74 rfl rfl (N:=9) rfl rfl (n:=1) rfl rfl ?_
 cbv
 refine dx trv (KI ht ls aC f p hl hf hk) ?_
 cbv
 refine an ?_
 simp only [ht,hr,fh,hk]
theorem Rk (ht:TT t) (k:aH) (n:Bool) {vs:List aH} {vr:List (List D)} (HU:vr=vs.map bB) (hv:vs.length<1000000000) {l:List dj} {ls:List (List D)} (hls:ls=l.map dj.cells) (hl:l.length<1000000000) {r:Bool} (hr:r=!ld ⟨k,n,vs⟩ l):
 FC 75 [.agg [ST k,BL n,SL vr],.ptr 0 0] [.var [SL ls]] (.ret (BL r)) [.var [SL ls]]:=by
 obtain ⟨H,hH⟩:∃H,H=ld ⟨k,n,vs⟩ l:=⟨_,rfl⟩
 rw [←hH] at hr
 refine jG ht (bz:=[.var [SL ls]]) Tryz.func75 rfl rfl (N:=8) rfl rfl (n:=1) rfl rfl ?_
 cbv
 have xz:vr.length=vs.length:=by rw [HU,lgM]
 have xI:ls.length=l.length:=by rw [hls,lgM]
 refine aG (N2 ht _ _ ‹_› ‹_› ‹_› ‹_›) trv (fun r1 cM=>?_)
 simp only [ht] at cM
 cbv
 refine an ?_
 (simp [*];done)
theorem N3 (ht:TT t) {x:List Term} {xr:List (List D)} (Fk:xr=x.map Term.cells) (hx:x.length<1000000000) (FJ:∀m∈x,m.mU.length<1000000000) {l:List dj} {ls:List (List D)} (hls:ls=l.map dj.cells) (hl:l.length<1000000000):
 FC 34 [SL xr,SL ls] [] (.ret (cU (t _ fun _=>rj x l))) []:=by
 obtain ⟨r9,gD⟩:∃r,r=x.any (fun m=>!ld m l):=⟨_,rfl⟩
 refine cr ht Tryz.func34 (N:=9) ?_
 cbv
 have KL:xr.length=x.length:=by rw [Fk,lgM]
 have xI:ls.length=l.length:=by rw [hls,lgM]
 (refine dJ [0] trv rfl rfl (KJ ht ls Fk 75 (fun m=>!ld m l) (by omega) (fun m hm=>Rk ht _ _ rfl (FJ m hm) hls hl rfl) gD) (cA ?_))
 cbv
 refine an ?_
 (simp [ht,rj,gD];done)
end Dem
end
section
open Go
namespace Dem
section
variable {P:Program} {G:Nat→Option (List D)}
theorem yZ {f:Nat} {args:List AV} {bx aL qq:List aA} {v v2:AV} (h:bt P G f args bx (.ret v) aL)
 (hs:∀β w X u,cF G β aL w X→aj β aL w (bf β aL w X) v u→Ext β aL w β qq w∧cF G β qq w X∧aj β qq w (bf β qq w X) v2 u):bt P G f args bx (.ret v2) qq:=by
 intro β w vs X cx hx
 refine jC.mono (h β w vs X cx hx) ?_
 rintro e w' ⟨β',ex,mS,hr⟩
 cases e with
 |returned u=>
  obtain ⟨a,b,c⟩:=hs β' w' X u mS hr
  exact ⟨β',ex.trans a,b,c⟩
 |panicked ch=>exact hr.elim
 |outgrown=>exact hr.elim
theorem Rl {β:Nat→Nat} {bx:List aA} {w:World} {b:Nat} {B B':aA} (hb:bx[b]?=some B) (hl:B.live=true) (dH:B'.born=true):Ext β bx w β (bx.set b B') w:=by
 refine ⟨rfl,rfl,rfl,Nat.le_refl _,fun _ _ _=>rfl,fun k c e f h=>⟨c,h,rfl⟩,fun i hi=>⟨rfl,iJ dH hi⟩,?_⟩
 intro i b' h1 h2
 rcases aK h1 with ⟨rfl,rfl,_⟩|⟨_,h3⟩
 ·exact .inr ⟨_,B,hb,hl,rfl⟩
 exact .inr ⟨i,b',h3,h2,rfl⟩
theorem BT {f b sz k c:Nat} {ex:Bool} {args:List AV} {bx aL qq:List aA} {es r:List (List D)} (hk:0<k) (hb:aL[b]?=some (.row sz es)) (WT:k≤es.length) (hr:r=es.take k) (h2:qq=aL.set b (.row sz r))
 (h:bt P G f args bx (.ret (.vw b sz 0 k c ex)) aL):bt P G f args bx (.ret (.ow b sz k)) qq:=by
 subst hr h2
 refine yZ h fun β w X u cx hv=>?_
 have hne:es≠[]:=by intro h;rw [h] at WT;simp at WT;omega
 have cz:(aA.row sz es).live=true:=by cases es with
  |nil=>exact absurd rfl hne
  |cons _ _=>rfl
 have ht:es.take k≠[]:=by
  intro h;have:=congrArg List.length h;simp at this;rcases this with h|h
  ·omega
  exact hne h
 have abx:(aA.row sz (es.take k)).live=true:=by
  cases hq:es.take k with
  |nil=>exact absurd hq ht
  |cons _ _=>rfl
 have ext:Ext β aL w β (aL.set b (.row sz (es.take k))) w:=Rl hb cz rfl
 simp only [aj] at hv
 obtain ⟨h1,base,cap,cs,e,f',rfl,h3,h4,h5,h6⟩:=hv
 refine ⟨ext,cx.step ext ?_ ?_,?_⟩
 ·intro i b' hi
  rcases aK hi with ⟨rfl,rfl,_⟩|⟨h7,h8⟩
  ·refine .inr ?_
   rcases cx.box _ _ hb with h|⟨c2,e2,g1,g2⟩
   ·exact absurd h hne
   exact .inr ⟨c2,e2,g1,ay.mono (ext.keeps X) _ _ (fun _=>rfl) _ _ (ay.FV k _ _ g2)⟩
  exact .inl ⟨h8,fun _=>rfl⟩
 ·intro i j bi bj hi hj li lj he
  rcases aK hi with ⟨rfl,rfl,_⟩|⟨h7,h8⟩<;>rcases aK hj with ⟨rfl,rfl,_⟩|⟨h9,h10⟩
  ·rfl
  ·exact cx.inj _ _ _ _ hb h10 cz lj he
  ·exact cx.inj _ _ _ _ h8 hb li cz he
  exact cx.inj _ _ _ _ h8 h10 li lj he
 simp only [aj]
 refine ⟨(ext.born b h1).2,.inr ⟨by omega,cap,?_⟩⟩
 rcases h6 with h6|⟨rfl,h7,h8⟩
 ·omega
 exact ⟨cs,e,f',by simp,h3,h7,by simpa using h8⟩
theorem BU {f b sz k c:Nat} {ex:Bool} {args:List AV} {bx aL qq:List aA} {es r:List (List D)} (hb:aL[b]?=some (.row sz es)) (WT:k≤es.length) (hr:r=es.take k) (h2:qq=aL.set b .dead)
 (h:bt P G f args bx (.ret (.vw b sz 0 k c ex)) aL):bt P G f args bx (.ret (.d (.sl r))) qq:=by
 subst hr h2
 refine yZ h fun β w X u cx hv=>?_
 have ext:Ext β aL w β (aL.set b .dead) w:=iK hb rfl rfl
 simp only [aj] at hv
 obtain ⟨h1,base,cap,cs,e,f',rfl,h3,h4,h5,h6⟩:=hv
 refine ⟨ext,j9 cx hb rfl rfl (by simp [dm]),?_⟩
 have hl:(es.take k).length=k:=by simp;omega
 simp only [aj,aJ]
 refine ⟨base,cap,by rw [hl],by rw [hl];exact h3,?_⟩
 by_cases hk:k=0
 ·exact .inl (by rw [hk];rfl)
 refine .inr ?_
 rcases h6 with h6|⟨rfl,h7,h8⟩
 ·omega
 rcases cx.box _ _ hb with h|⟨c2,e2,g1,g2⟩
 ·rw [h] at WT;simp at WT;omega
 refine ⟨β b,0,sz,by simp,⟨eW g1,?_,?_⟩,ay.mono (ext.keeps X) _ _ (fun _=>rfl) _ _ (ay.FV k _ _ g2)⟩
 ·refine cx.apart b _ hb ?_
  cases es with
  |nil=>simp at WT;omega
  |cons _ _=>rfl
 intro i b' h9 h10 he
 rcases aK h9 with ⟨rfl,rfl,_⟩|⟨h11,h12⟩
 ·simp [aA.live] at h10
 refine h11 (cx.inj i b b' _ h12 hb h10 ?_ he)
 cases es with
 |nil=>simp at WT;omega
 |cons _ _=>rfl
theorem ak.split {β:Nat→Nat} {bx:List aA} {w:World} {ok:Nat→Prop}:∀{xs ys:List AV} {vs:List Value},ak β bx w ok (xs++ys) vs→∃us ws,vs=us++ws∧ak β bx w ok xs us∧ak β bx w ok ys ws
 |[],_,vs,h=>⟨[],vs,rfl,by simp only [ak],h⟩
 |x::xs,ys,vs,h=>by
  rw [List.cons_append] at h
  simp only [ak] at h ⊢
  obtain ⟨u,us,rfl,h1,h2⟩:=h
  obtain ⟨a,b,rfl,h3,h4⟩:=ak.split h2
  exact ⟨u::a,b,rfl,⟨u,a,rfl,h1,h3⟩,h4⟩
theorem rI {f g b:Nat} {xs:List AV} {cs:List AV} {ds:List D} {bx qp aL:List aA} {res:iB} (hb:bx[b]?=some (.var cs)) (hd:iU [] cs=some ds) (h1:qp=bx.set b .dead)
 (h:bt P G f (xs++[.fn g [.ep ds]]) qp res aL):bt P G f (xs++[.fn g [.ptr b 0]]) bx res aL:=by
 subst h1
 intro β w vs X cx hx
 have ext:Ext β bx w β (bx.set b .dead) w:=iK hb rfl rfl
 have mS:cF G β (bx.set b .dead) w X:=j9 cx hb rfl rfl (by simp [dm])
 obtain ⟨c2,e2,g1,g2⟩:=cx.box _ _ hb
 have hok:bf β (bx.set b .dead) w X (β b):=by
  refine ⟨eW g1,cx.apart b _ hb rfl,?_⟩
  intro i b' h3 h4 he
  rcases aK h3 with ⟨rfl,rfl,_⟩|⟨h5,h6⟩
  ·simp [aA.live] at h4
  exact h5 (cx.inj i b b' _ h6 hb h4 rfl he)
 have hrow:aX w (bf β bx w X) (β b) ds 0:=by
  refine El ds 0 c2.toList ?_ (sB hd g2)
  intro j v hj
  simp only [World.cell?,g1]
  simpa using hj
 have DV:=aX.mono (ext.keeps X) _ (fun _=>rfl) _ _ hrow
 obtain ⟨us,ws0,rfl,hu,hw⟩:=ak.split hx
 simp only [ak,aj] at hw
 obtain ⟨v,vs',rfl,⟨ws,rfl,w1,ws',rfl,⟨rfl,Er⟩,rfl⟩,rfl⟩:=hw
 refine jC.mono (h β w _ X mS ?_) ?_
 ·refine ak.append (ak.mono (ext.eT X) _ _ hu) ?_
  simp only [ak,aj]
  exact ⟨_,_,rfl,⟨_,rfl,_,_,rfl,⟨β b,0,rfl,hok,DV⟩,rfl⟩,rfl⟩
 rintro e w' ⟨β',ex,aby,hr⟩
 exact ⟨β',ext.trans ex,aby,hr⟩
theorem pN {f g b:Nat} {x:AV} {cs:List AV} {ds:List D} {bx qp aL:List aA} {res:iB} (hb:bx[b]?=some (.var cs)) (hd:iU [] cs=some ds) (h1:qp=bx.set b .dead)
 (h:bt P G f [x,.fn g [.ep ds]] qp res aL):bt P G f [x,.fn g [.ptr b 0]] bx res aL:=rI (xs:=[x]) hb hd h1 h
end
end Dem
end
section
open Go Dem Go.Proofs
namespace Dem
variable {t:Th}
theorem zb (ht:TT t) {es:List (List D)} (aC:∀r∈es,r.length=6) (hs:es.length*72≤140737488355328) {m:Nat} (hm:m=es.length):
 FC 191 [SL es] [] (.ret (.ow 0 6 m)) [.row 6 es]:=by
 refine cr ht Tryz.func191 (N:=8) ?_
 cbv
 refine ⟨fun b hb=>?_⟩
 simp only [ht] at hb
 cbv
 apply ap<;>intro h
 ·have he:=hb h
  subst he
  cbv
  exact He trv rfl rfl (by rw [hm];rfl) rfl
 clear hb h
 cbv
 refine ⟨?_,?_⟩
 ·simp only [ht];simp;exact ⟨hs,aC⟩
 refine CD trv rfl rfl rfl rfl ?_ ?_
 ·simp only [ht];rw [hm];simp
 simp only [ht];rfl
theorem N4 (ht:TT t) (xr:List (List D)) {l:List (bM)} {es:List (List D)} (aC:es=l.map bM.cells) (f:Nat) (p:bM→Bool) (hl:l.length<9223372036854775807)
 (hf:∀x∈l,FC f [.agg [ST x.node,az x.free.a,az x.free.b,az x.free.c,az x.free.d,SL (x.labels.map dj.cells)],.ep [.sl xr]] [] (.ret (BL (p x))) []) {r:Int} (hr:r=idxOf p l):FC 216 [SL es,.fn f [.ep [.sl xr]]] [] (.ret (bD r)) []:=by
 have hel:es.length=l.length:=by rw [aC,lgM]
 refine cr ht Tryz.func216 (N:=19) ?_
 cbv
 refine bA ⟨[0,1,7,8],[],[]⟩ (σ:=Nat) (fun k=>[(8,bD (t _ fun _=>(k:Int)))]) (fun _=>[]) (tF p l) ?_
 cbv
 refine aE ⟨l.length,0,.nil,by simp only [ht];rfl,fun n k hj=>?_⟩
 cbv
 apply ap<;>intro h
 ·simp only [ht,ah,decide_eq_true_eq] at h
  have hk:k<es.length:=by omega
  obtain ⟨x,hx,mQ,px,hpx⟩:=hj.get (by omega)
  have gJ:=hf x mQ
  rw [←hpx] at gJ
  obtain ⟨nd,⟨v1,v2,v3,v4⟩,lb⟩:=x;obtain ⟨HS,mK⟩:∃lr:List (List D),lr=lb.map dj.cells:=⟨_,rfl⟩;simp only [←mK] at gJ
  cbv
  refine ix [.str nd,.int .u64 v1,.int .u64 v2,.int .u64 v3,.int .u64 v4,.sl HS] ?_ ?_ ?_
  ·simp only [ht,ah];exact pK aC hk fun _=>rfl
  ·simp [ht,ah,aC,hx,mK,bM.cells]
  cbv
  refine dx trv gJ ?_
  cbv
  apply ap<;>intro hb
  ·cbv
   refine an ?_
   simp only [ht,ah,hr,hj.hit hx (hpx▸hb)]
  cbv
  refine aE ⟨n-1,k+1,⟨hj.lt hx,hj.next hx (hpx▸hb)⟩,?_⟩
  simp only [ht,ah,aB (show k<9223372036854775807 by omega)];rfl
 simp only [ht,ah,decide_eq_false_iff_not] at h
 have hk:l.length≤k:=by omega
 clear h
 cbv
 refine an ?_
 rw [hr,hj.none hk]
theorem KM (ht:TT t) (xr:List (List D)) {l:List (bM)} {es:List (List D)} (aC:es=l.map bM.cells) {m c:Nat} (hm:m=l.length) (hc:m≤c) (f:Nat) (p:bM→Bool) (hl:l.length<9223372036854775807)
 (hf:∀x∈l,FC f [.agg [ST x.node,az x.free.a,az x.free.b,az x.free.c,az x.free.d,SL (x.labels.map dj.cells)],.ep [.sl xr]] [] (.ret (BL (p x))) []) {r:List (List D)} (hr:r=(l.filter (fun x=>!p x)).map bM.cells) {kk:Nat} (hkk:kk=r.length) {rz:List (List D)} (Im:rz=r++List.replicate (m-kk) [.str [],.int .u64 0,.int .u64 0,.int .u64 0,.int .u64 0,.sl []]):
 FC 190 [.vw 0 6 0 m c true,.fn f [.ep [.sl xr]]] [.row 6 es] (.ret (.vw 0 6 0 kk c true)) [.row 6 rz]:=by
 have hel:es.length=m:=by rw [aC,lgM,hm]
 have hrows:∀r∈es,r.length=6:=by rw [aC];intro r hr;obtain ⟨y,_,rfl⟩:=List.mem_map.1 hr;rfl
 obtain ⟨k,hk⟩:∃k,k=idxOf p l:=⟨_,rfl⟩
 have QJ:(t (List (List D)) fun _=>(es.drop 0).take m)=l.map bM.cells:=by simp only [ht];rw [List.drop_zero,List.take_of_length_le (by omega),aC]
 have hidx:=N4 ht xr QJ f p hl hf hk
 obtain ⟨J,hJ⟩:∃J:Nat→Nat×Nat×List (List D)→Prop,∀n v,J n v↔(v.2.1+n=m∧v.1<v.2.1∧v.2.2.length=m∧(∀r∈v.2.2,r.length=6)∧v.2.2.take v.1=((l.take v.2.1).filter (fun x=>!p x)).map bM.cells∧v.2.2.drop v.2.1=es.drop v.2.1):=⟨fun n v=>v.2.1+n=m∧v.1<v.2.1∧v.2.2.length=m∧(∀r∈v.2.2,r.length=6)∧v.2.2.take v.1=((l.take v.2.1).filter (fun x=>!p x)).map bM.cells∧v.2.2.drop v.2.1=es.drop v.2.1,fun _ _=>Iff.rfl⟩
 refine jG ht (bz:=[.row 6 es]) Tryz.func190 rfl rfl (N:=42) rfl rfl (n:=1) rfl rfl ?_
 cbv
 refine Qn (TT.eq ht) (v:=bD k) [true] [] trv rfl ?_ rfl rfl rfl rfl rfl rfl rfl hidx ?_
 ·simp [ht];omega
 cbv
 apply ap<;>intro h
 ·have wF:k=-1:=by simp [ht] at h;exact h
  have hnone:=nY (hk▸wF:idxOf p l=-1)
  clear h
  cbv
  have PA:r=es:=by rw [hr,filter_all hnone,←aC]
  have hkm:kk=m:=by rw [hkk,PA,hel]
  have WU:rz=es:=by rw [Im,hkm,Nat.sub_self,PA];simp
  rw [WU,hkm]
  exact JN trv rfl rfl
 have wF:k≠-1:=by simp [ht] at h;exact h
 clear h
 obtain ⟨i0,x0,Vx,hx0,Ze,hb0⟩:=nZ (hk▸wF:idxOf p l≠-1)
 rw [←hk] at Vx
 subst Vx
 have Zf:i0<m:=by rw [hm];exact (List.getElem?_eq_some_iff.1 hx0).1
 cbv
 refine bA ⟨[0,1,5,6],[],[]⟩ (σ:=Nat×Nat×List (List D)) (fun v=>[(5,bD (t _ fun _=>(v.1:Int))),(6,bD (t _ fun _=>(v.2.1:Int)))]) (fun v=>[(0,.row 6 (t _ fun _=>v.2.2))]) J ?_
 cbv
 refine aE ⟨m-(i0+1),(i0,i0+1,es),(hJ _ _).2 ⟨?_,?_,hel,hrows,?_,rfl⟩,by simp only [ht,ah,Int.ofNat_eq_natCast,aB (show i0<9223372036854775807 by omega)];rfl,?_⟩
 ·show i0+1+(m-(i0+1))=m;omega
 ·show i0<i0+1;omega
 ·show es.take i0=_
  rw [cV hx0,List.filter_append,filter_all hb0,aC,←List.map_take];simp [Ze]
 rintro n ⟨i,j,cur⟩ hj
 obtain ⟨j1,j2,j3,j4,j5,j6⟩:=(hJ _ _).1 hj
 clear hj
 simp only at j1 j2 j3 j4 j5 j6
 cbv
 apply ap<;>intro h
 ·have Vy:j<m:=by simp [ht,ah] at h;omega
  clear h
  obtain ⟨x,hx⟩:∃x,l[j]?=some x:=⟨l[j]'(by omega),by simp⟩
  have mQ:x∈l:=List.mem_of_getElem? hx
  have gJ:=hf x mQ
  have HO:cur[j]?=some (bM.cells x):=by
   have:(cur.drop j)[0]?=(es.drop j)[0]?:=by rw [j6]
   rw [List.getElem?_drop,List.getElem?_drop,Nat.add_zero,aC,List.getElem?_map,hx] at this
   exact this
  obtain ⟨px,hpx⟩:∃b,b=p x:=⟨_,rfl⟩
  rw [←hpx] at gJ
  obtain ⟨cx,E4⟩:∃cx,cx=bM.cells x:=⟨_,rfl⟩
  rw [←E4] at HO
  have hstep:(l.take (j+1)).filter (fun x=>!p x)=(l.take j).filter (fun x=>!p x)++(if px then [] else [x]):=by
   rw [cV hx,List.filter_append];cases px<;>simp [←hpx]
  obtain ⟨nd,⟨v1,v2,v3,v4⟩,lb⟩:=x;obtain ⟨HS,mK⟩:∃lr:List (List D),lr=lb.map dj.cells:=⟨_,rfl⟩;simp only [bM.cells,←mK] at gJ E4
  cbv
  refine ⟨?_,Qi [.str nd,.int .u64 v1,.int .u64 v2,.int .u64 v3,.int .u64 v4,.sl HS] ?_ ?_ ?_⟩
  ·simp [ht,ah];omega
  ·simp [ht,ah,j3];omega
  ·simp [ht,ah,List.getD_eq_getElem?_getD,HO,E4]
  cbv
  refine dJ [] trv rfl rfl gJ (cA ?_)
  cbv
  apply ap<;>intro hb
  ·have hb':px=false:=by simpa [ht] using hb
   clear hb
   obtain ⟨nc,hnc⟩:∃nc,nc=cur.set i cx:=⟨_,rfl⟩
   have qg:(cur.getD i []).length=6:=j4 _ (by rw [List.getD_eq_getElem?_getD,List.getElem?_eq_getElem (by omega)];exact List.getElem_mem _)
   cbv
   refine ⟨?_,?_⟩
   ·simp [ht,ah];omega
   refine ⟨?_,?_⟩
   ·simp [ht,ah,j3];exact ⟨by omega,by simpa using qg.symm▸(Nat.le_refl _)⟩
   refine aE ⟨n-1,(i+1,j+1,nc),⟨by omega,(hJ _ _).2 ⟨?_,?_,?_,?_,?_,?_⟩⟩,?_⟩
   ·show j+1+(n-1)=m;omega
   ·show i+1<j+1;omega
   ·show nc.length=m;rw [hnc,List.length_set];exact j3
   ·show ∀r∈nc,r.length=6
    intro r hr;rw [hnc] at hr
    rcases List.mem_or_eq_of_mem_set hr with hr|rfl
    ·exact j4 r hr
    rw [E4];rfl
   ·show nc.take (i+1)=_
    rw [hnc,kN _ _ _ (by omega),j5,hstep,hb',E4];simp [mK,bM.cells]
   ·show nc.drop (j+1)=es.drop (j+1)
    rw [hnc,nt _ _ _ _ (by omega),←List.drop_drop,j6,List.drop_drop]
   simp only [ht,ah,Int.ofNat_eq_natCast,aB (show i<9223372036854775807 by omega),aB (show j<9223372036854775807 by omega)]
   have ei:0+((i:Int)).toNat=i:=by simp
   have e:cur.set i (be (cur.getD i []) 0 [.str nd,.int .u64 v1,.int .u64 v2,.int .u64 v3,.int .u64 v4,.sl HS])=nc:=by rw [hnc,kM _ _ (by rw [qg];rfl),E4]
   simp only [ei,e];rfl
  have hb':px=true:=by simpa [ht] using hb
  clear hb
  cbv
  refine aE ⟨n-1,(i,j+1,cur),⟨by omega,(hJ _ _).2 ⟨?_,?_,j3,j4,?_,?_⟩⟩,?_⟩
  ·show j+1+(n-1)=m;omega
  ·show i<j+1;omega
  ·show cur.take i=_
   rw [j5,hstep,hb'];simp
  ·show cur.drop (j+1)=es.drop (j+1)
   rw [←List.drop_drop,j6,List.drop_drop]
  simp only [ht,ah,Int.ofNat_eq_natCast,aB (show j<9223372036854775807 by omega)];rfl
 have Vy:j=m:=by simp [ht,ah] at h;omega
 clear h
 obtain ⟨mi,yB⟩:∃mi,mi=m-i:=⟨_,rfl⟩
 obtain ⟨ci,qg⟩:∃ci,ci=c-i:=⟨_,rfl⟩
 obtain ⟨nc,hnc⟩:∃nc,nc=wrote cur i (List.replicate mi [.str [],.int .u64 0,.int .u64 0,.int .u64 0,.int .u64 0,.sl []]):=⟨_,rfl⟩
 have hnt:nc.take i=r:=by
  have hl':(cur.take i).length=i:=by simp;omega
  rw [hnc,wrote,List.append_assoc,List.take_left' hl',j5,hr,Vy,hm,List.take_length]
 have Zg:i≤nc.length:=by rw [hnc];simp [wrote];omega
 cbv
 refine bF (.vw 0 6 i mi ci true) [.row 6 cur] ?_ ?_ ?_ ?_
 ·simp [ht,ah,dR,bN];omega
 ·simp [ht,ah,aV,aP,yB,qg]
 ·simp only [ht]
 cbv
 refine bF (.ek []) [.row 6 nc] ?_ rfl ?_ ?_
 ·simp [ht,eR]
  refine ⟨by omega,?_⟩
  intro h;rw [h] at j3;simp at j3;omega
 ·simp only [ht,hnc]
 cbv
 refine bF (.vw 0 6 0 i c true) [.row 6 nc] ?_ ?_ rfl ?_
 ·simp [ht,ah,dR,bN];omega
 ·simp [ht,ah,aV,aP]
 cbv
 have hki:kk=i:=by rw [hkk,←hnt];simp;omega
 have WU:rz=nc:=by
  rw [Im,hki,←hnt,hnc,wrote]
  have hl':(cur.take i).length=i:=by simp;omega
  rw [List.append_assoc,List.take_left' hl',List.drop_of_length_le (by simp;omega),List.append_nil,yB]
 rw [WU,hki]
 exact JN trv rfl rfl
theorem KN (ht:TT t) (nd:aH) (v1 v2 v3 v4:Int) {lb:List dj} {lr:List (List D)} (hlr:lr=lb.map dj.cells) (hlb:lb.length<1000000000) {x:List Term} {xr:List (List D)} (Fk:xr=x.map Term.cells) (hx:x.length<1000000000) (FJ:∀m∈x,m.mU.length<1000000000) {r:Bool} (hr:r=!rj x lb):
 FC 192 [.agg [ST nd,az v1,az v2,az v3,az v4,SL lr],.ep [.sl xr]] [] (.ret (BL r)) []:=by
 obtain ⟨H,hH⟩:∃H,H=rj x lb:=⟨_,rfl⟩
 rw [←hH] at hr
 refine cr ht Tryz.func192 (N:=9) ?_
 cbv
 have WD:lr.length=lb.length:=by rw [hlr,lgM]
 have KL:xr.length=x.length:=by rw [Fk,lgM]
 refine aG (N3 ht ‹_› ‹_› ‹_› ‹_› ‹_›) trv (fun r0 cN=>?_)
 simp only [ht] at cN
 cbv
 refine an ?_
 (simp [ht,hr,hH,cN];done)
def Int.cells (x:Int):List D:=[.int .u64 x]
def Int.aS (_:Th) (x:Int):List D:=[.int .u64 x]
theorem Fl (ht:TT t) (x:Int):FC 102 [az x] [] (.ret (cU (t _ fun _=>false))) []:=by
 refine cr ht Tryz.func102 (N:=6) ?_
 cbv
 refine an ?_
 (simp [ht];done)
theorem Rm (ht:TT t) (x y:Int):FC 51 [az x,az y] [] (.ret (kp (t _ fun _=>iW x y))) []:=by
 refine cr ht Tryz.func51 (N:=20) ?_
 cbv
 refine aG (Fl ht _) trv (fun r0 cN=>?_)
 simp only [ht] at cN
 cbv
 refine aG (Fl ht _) trv (fun r1 cM=>?_)
 simp only [ht] at cM
 cbv
 apply ap<;>intro h2
 ·cbv
  apply ap<;>intro h3
  ·cbv
   refine an ?_
   (simp only [ht,iW];grind)
  cbv
  refine an ?_
  (simp only [ht,iW];grind)
 cbv
 apply ap<;>intro h4
 ·cbv
  refine an ?_
  (simp only [ht,iW];grind)
 cbv
 apply ap<;>intro h5
 ·simp [ht] at h5
  cbv
  refine an ?_
  (simp [iW, *];done)
 simp [ht] at h5
 cbv
 apply ap<;>intro h6
 ·simp [ht] at h6
  cbv
  refine an ?_
  (simp [iW, *];done)
 simp [ht] at h6
 cbv
 refine an ?_
 (simp only [ht,iW];grind)
def cmpL:List Int→List Int→Int
 |x::r,y::s=>if iW x y≠0 then iW x y else cmpL r s
 |_,_=>0
theorem KO (ht:TT t) {l m:List Int} {es fs:List (List D)} (aC:es=l.map Int.cells) (hfs:fs=m.map Int.cells) (hlm:l.length=m.length) (hl:l.length<1000000000):
 FC 217 [SL es,SL fs] [] (.ret (kp (t _ fun _=>cmpL l m))) []:=by
 refine cr ht Tryz.func217 (N:=36) ?_
 cbv
 have aF:es.length=l.length:=by rw [aC,lgM]
 have Fm:fs.length=m.length:=by rw [hfs,lgM]
 obtain ⟨J0,dz⟩:∃J0:Nat→Int→Prop,∀n i,J0 n i↔(∃k:Nat,i=k∧k+n=l.length∧l.length=m.length∧cmpL l m=cmpL (l.drop k) (m.drop k)):=⟨fun n v=>match v with|i=>(∃k:Nat,i=k∧k+n=l.length∧l.length=m.length∧cmpL l m=cmpL (l.drop k) (m.drop k)),fun _ _=>Iff.rfl⟩
 refine bA ⟨[0,1,9,10,11],[],[]⟩ (σ:=Int) (fun v=>[(11,.d (.int .i64 (t _ fun _=>v)))]) (fun v=>[]) J0 ?_
 cbv
 refine aE ⟨l.length,_,(dz _ _).2 ?_,by simp only [ht];rfl,?_⟩
 ·exact ⟨0,rfl,by simp,by omega,by simp⟩
 rintro n i hj
 replace hj:=(dz _ _).1 hj
 obtain ⟨k,rfl,j1,j2,j4⟩:=hj
 cbv
 apply ap<;>intro h1
 ·simp [ht,ah,aF] at h1
  cbv
  refine ig ht aC (cT:=Int.aS t) (by (simp only [ht,ah];omega)) (by (simp only [ht,ah];omega)) (fun _=>rfl) (fun _=>rfl) (fun x2 gX=>?_)
  simp [ht,ah] at gX
  rw [eI gX] at j4
  cbv
  apply ap<;>intro h3
  ·simp [ht,ah,Fm] at h3
   omega
  simp [ht,ah,Fm] at h3
  cbv
  refine ig ht hfs (cT:=Int.aS t) (by (simp only [ht,ah];omega)) (by (simp only [ht,ah];omega)) (fun _=>rfl) (fun _=>rfl) (fun x4 SA=>?_)
  simp [ht,ah] at SA
  rw [eI SA] at j4
  cbv
  refine aG (Rm ht _ _) trv (fun r5 sO=>?_)
  simp only [ht] at sO
  cbv
  apply ap<;>intro h6
  ·simp [ht] at h6
   cbv
   refine an ?_
   (simp only [ht];rw [j4,cmpL,←sO,if_pos ‹_›];done)
  simp [ht] at h6
  cbv
  refine bG _ (by simp only [ht];rfl) (n-1) ?_ ((dz _ _).2 ?_)
  ·omega
  simp only [ah]
  exact ⟨k+1,aB (by omega),by omega,by omega,by rw [j4,cmpL,←sO,if_neg (by omega)]⟩
 simp [ht,ah,aF] at h1
 cbv
 apply ap<;>intro h7
 ·simp [ht,ah,aF,Fm] at h7
  omega
 simp [ht,ah,aF,Fm] at h7
 cbv
 refine an ?_
 (simp [ht,j4,List.drop_eq_nil_of_le (show l.length≤k by omega),cmpL];done)
theorem Rn (a0 a1 a2 a3 b0 b1 b2 b3:Int):cmpL [a0,a1,a2,a3] [b0,b1,b2,b3]=rm ⟨a0,a1,a2,a3⟩ ⟨b0,b1,b2,b3⟩:=by
 simp only [cmpL,rm]
 by_cases h0:iW a0 b0=0<;>by_cases h1:iW a1 b1=0<;>by_cases h2:iW a2 b2=0<;>by_cases h3:iW a3 b3=0<;>simp [h0,h1,h2,h3]
theorem N5 (ht:TT t) (a0 a1 a2 a3 b0 b1 b2 b3:Int):FC 193 [V4 a0 a1 a2 a3,V4 b0 b1 b2 b3] [] (.ret (kp (t _ fun _=>rm ⟨a0,a1,a2,a3⟩ ⟨b0,b1,b2,b3⟩))) []:=by
 obtain ⟨o,ho⟩:∃o,o=rm ⟨a0,a1,a2,a3⟩ ⟨b0,b1,b2,b3⟩:=⟨_,rfl⟩
 rw [←ho]
 refine cr ht Tryz.func193 (N:=8) ?_
 cbv
 (apply LU [] (.more 0 (.one 1 (.one 2 (.one 3 .done))) (.one 1 (.one 0 (.one 2 (.one 3 .done)))));kernel_rfl;kernel_rfl;kernel_rfl;kernel_rfl;(next=>cbv;repeat (first|(refine Qo trv (KO ht (l:=[a0,a1,a2,a3]) (m:=[b0,b1,b2,b3]) rfl rfl rfl (by simp)) trv rfl rfl rfl (fun r0 cN=>?_);simp only [ht,Rn,←ho] at cN;subst r0;cbv)|refine And.intro ?_ ?_)))
 cbv
 refine an ?_
 (simp [ht];done)
theorem BW (ht:TT t) {l:List bM} {es:List (List D)} (aC:es=l.map bM.cells) (hl:l.length<1000000) (hlb:∀s∈l,s.labels.length<1000000000) {x:List Term} {xr:List (List D)} (Fk:xr=x.map Term.cells) (hx:x.length<1000000000) (FJ:∀m∈x,m.mU.length<1000000000)
 {m c k:Nat} (hm:m=l.length) (hc:m≤c) {r:List (List D)} (hr:r=(fitting l x).map bM.cells) (hk:k=r.length) {rz:List (List D)} (Im:rz=r++List.replicate (m-k) [.str [],.int .u64 0,.int .u64 0,.int .u64 0,.int .u64 0,.sl []]):
 FC 190 [.vw 0 6 0 m c true,.fn 192 [.ep [.sl xr]]] [.row 6 es] (.ret (.vw 0 6 0 k c true)) [.row 6 rz]:=
 KM ht xr aC hm hc 192 (fun s=>!rj x s.labels) (by omega) (fun s hs=>KN ht _ _ _ _ _ rfl (hlb s hs) Fk hx FJ rfl) (by rw [hr,fitting];simp) hk Im
theorem Uh {r z:List (List D)} {k:Nat} (hk:k=r.length):r=(r++z).take k:=by rw [hk,List.take_left]
theorem KP (ht:TT t) {l:List bM} {es:List (List D)} (aC:es=l.map bM.cells) (hl:l.length<1000000) (hlb:∀s∈l,s.labels.length<1000000000) {x:List Term} {xr:List (List D)} (Fk:xr=x.map Term.cells) (hx:x.length<1000000000) (FJ:∀m∈x,m.mU.length<1000000000)
 (h0:fitting l x=[]):FC 148 [SL es,SL xr] [] (.ret (SL [])) []:=by
 obtain ⟨m,hm⟩:∃m,m=l.length:=⟨_,rfl⟩
 have hel:m=es.length:=by rw [aC,lgM,hm]
 have hrows:∀r∈es,r.length=6:=by rw [aC];intro r hr;obtain ⟨y,_,rfl⟩:=List.mem_map.1 hr;rfl
 have hD:FC 190 [.ow 1 6 m,.fn 192 [.ptr 0 0]] [.var [SL xr],.row 6 es] (.ret (SL [])) [.dead,.dead]:=
  pN rfl rfl rfl<|cR [1] rfl rfl rfl rfl<|dX fun c hc _=>BU rfl (by simp) (by simp) rfl (BW ht aC hl hlb Fk hx FJ hm hc (r:=[]) (by rw [h0];rfl) (k:=0) rfl rfl)
 refine cr ht Tryz.func148 (N:=9) ?_
 cbv
 refine jY trv (zb ht hrows (by omega) hel) trv rfl (.inr rfl) ?_
 cbv
 refine dx trv hD ?_
 cbv
 refine an ?_
 simp
theorem N6 (ht:TT t) {l:List bM} {es:List (List D)} (aC:es=l.map bM.cells) (hl:l.length<1000000) (hlb:∀s∈l,s.labels.length<1000000000) {x:List Term} {xr:List (List D)} (Fk:xr=x.map Term.cells) (hx:x.length<1000000000) (FJ:∀m∈x,m.mU.length<1000000000)
 {r:List (List D)} (hr:r=(fitting l x).map bM.cells) {k:Nat} (hk:k=r.length) (h0:0<k):FC 148 [SL es,SL xr] [] (.ret (.ow 0 6 k)) [.row 6 r]:=by
 obtain ⟨m,hm⟩:∃m,m=l.length:=⟨_,rfl⟩
 have hel:m=es.length:=by rw [aC,lgM,hm]
 have hrows:∀r∈es,r.length=6:=by rw [aC];intro r hr;obtain ⟨y,_,rfl⟩:=List.mem_map.1 hr;rfl
 obtain ⟨rz,Im⟩:∃rz,rz=r++List.replicate (m-k) [.str [],.int .u64 0,.int .u64 0,.int .u64 0,.int .u64 0,.sl []]:=⟨_,rfl⟩
 have hD:FC 190 [.ow 1 6 m,.fn 192 [.ptr 0 0]] [.var [SL xr],.row 6 es] (.ret (.ow 1 6 k)) [.dead,.row 6 r]:=
  pN rfl rfl rfl<|cR [1] rfl rfl rfl rfl<|dX fun c hc _=>BT h0 rfl (by rw [Im,hk];simp) (by rw [Im];exact Uh hk) rfl (BW ht aC hl hlb Fk hx FJ hm hc hr hk Im)
 refine cr ht Tryz.func148 (N:=9) ?_
 cbv
 refine jY trv (zb ht hrows (by omega) hel) trv rfl (.inr rfl) ?_
 cbv
 refine dx trv hD ?_
 cbv
 exact CD trv rfl rfl rfl rfl rfl rfl
theorem Mp {x:bM} {v:bE} {B C:ET} {r:bE×Bool} {o:Int} (er:r=eH x.free v) (eo:o=rm r.1 B.left) (h:r.2=true→B.ok=true∧0≤o):
 (if (eH x.free v).2&&(!B.ok||decide (rm (eH x.free v).1 B.left<0)) then C else B)=B:=by
 rw [←er,←eo,if_neg]
 intro g
 simp only [Bool.and_eq_true,Bool.or_eq_true,Bool.not_eq_true',decide_eq_true_eq] at g
 obtain ⟨g1,g2⟩:=g
 obtain ⟨g3,g4⟩:=h g1
 rcases g2 with g2|g2
 ·rw [g3] at g2;cases g2
 omega
def Zr (r:ET):AV:=.ek [bD r.at_,V4 r.left.a r.left.b r.left.c r.left.d,BL r.ok]
theorem Mq (ht:TT t) (d1 d2 d3 d4:Int) {l:List bM} {es:List (List D)} (aC:es=l.map bM.cells) (hl:l.length<1000000):
 FC 149 [SL es,V4 d1 d2 d3 d4] [] (.ret (Zr (t _ fun _=>best l ⟨d1,d2,d3,d4⟩))) []:=by
 refine cr ht Tryz.func149 (N:=42) ?_
 cbv
 have aF:es.length=l.length:=by rw [aC,lgM]
 obtain ⟨J0,dz⟩:∃J0:Nat→Int×Bool×Int×Int×Int×Int×Int→Prop,∀n A K i a b c d,J0 n (A,K,i,a,b,c,d)↔(∃(k:Nat) (B:ET),i=k∧k+n=l.length∧A=B.at_∧K=B.ok∧a=B.left.a∧b=B.left.b∧c=B.left.c∧d=B.left.d∧best l ⟨d1,d2,d3,d4⟩=mG ⟨d1,d2,d3,d4⟩ (l.drop k) k B):=⟨fun n v=>match v with|(A,K,i,a,b,c,d)=>(∃(k:Nat) (B:ET),i=k∧k+n=l.length∧A=B.at_∧K=B.ok∧a=B.left.a∧b=B.left.b∧c=B.left.c∧d=B.left.d∧best l ⟨d1,d2,d3,d4⟩=mG ⟨d1,d2,d3,d4⟩ (l.drop k) k B),fun _ _ _ _ _ _ _ _=>Iff.rfl⟩
 refine bA ⟨[0,3,4,5,6,11,12],[],[]⟩ (σ:=Int×Bool×Int×Int×Int×Int×Int) (fun v=>[(4,.d (.int .i64 (t _ fun _=>v.1))),(6,.d (.bool (t _ fun _=>v.2.1))),(12,.d (.int .i64 (t _ fun _=>v.2.2.1)))]) (fun v=>[(1,.var [.d (.int .u64 (t _ fun _=>v.2.2.2.1)),.d (.int .u64 (t _ fun _=>v.2.2.2.2.1)),.d (.int .u64 (t _ fun _=>v.2.2.2.2.2.1)),.d (.int .u64 (t _ fun _=>v.2.2.2.2.2.2))])]) J0 ?_
 cbv
 refine aE ⟨l.length,(_,_,_,_,_,_,_),(dz _ _ _ _ _ _ _ _).2 ?_,by simp only [ht];rfl,?_⟩
 ·exact ⟨0,⟨0,bE.zero,false⟩,rfl,by simp,rfl,rfl,rfl,rfl,rfl,rfl,rfl⟩
 rintro n ⟨A,K,i,a,b,c,d⟩ hj
 replace hj:=(dz _ _ _ _ _ _ _ _).1 hj
 obtain ⟨k,⟨q1,⟨q2,q3,q4,q5⟩,q6⟩,rfl,j1,rfl,rfl,rfl,rfl,rfl,rfl,j4⟩:=hj
 cbv
 apply ap<;>intro h1
 ·simp [ht,ah,aF] at h1
  cbv
  refine rF [0,1] [0,1,7,8,9] [false,false,false,false,false,false,false,false,false,false,false,true,true] ?_
  cbv
  iterate 2 refine gI (by simp) ?_
  refine ig ht aC (cT:=bM.aS t) (by (simp only [ht,ah];omega)) (by (simp only [ht,ah];omega)) (fun _=>rfl) (fun _=>(by (simp only [ht,bM.aS];rfl))) (fun x2 gX=>?_)
  simp [ht,ah] at gX
  rw [eI gX,mG] at j4
  cbv
  iterate 3 refine gI (by simp) ?_
  refine .inl ?_
  refine cj (fun g3=>⟨trv,trv,Ub ht _ _ _ _ _ _ _ _⟩) rfl rfl (fun r4 iY=>?_)
  simp only [ht] at iY
  cbv
  iterate 6 refine gI (by simp) ?_
  iterate 2 refine gI (by simp [ht]) ?_
  refine cj (fun g5=>⟨by simp [ht] at g5 ⊢;exact g5,trv,N5 ht _ _ _ _ _ _ _ _⟩) rfl rfl (fun r6 mL=>?_)
  simp only [ht] at mL
  cbv
  refine gI (by simp [ht]) ?_
  refine gI (by simp [ht,bU];intros;simp_all) ?_
  refine pI (by simp) ?_
  apply ap<;>intro h7
  ·simp [ht] at h7
   cbv
   refine bS [false,false,false,true,true] ?_
   cbv
   iterate 3 refine gI (by simp) ?_
   refine bG (_,_,_,_,_,_,_) (by simp only [ht];rfl) (n-1) ?_ ((dz _ _ _ _ _ _ _ _).2 ?_)
   ·omega
   simp only [ah]
   first|exact ⟨k+1,⟨k,_,true⟩,aB (by omega),by omega,rfl,rfl,rfl,rfl,rfl,rfl,by rw [j4];congr 1;simp_all⟩|exact ⟨k+1,⟨q1,⟨a,b,c,d⟩,K⟩,aB (by ((try simp only [ah] at*);omega)),by ((try simp only [ah] at*);omega),rfl,rfl,rfl,rfl,rfl,rfl,by rw [j4,Mp (B:=⟨q1,⟨a,b,c,d⟩,K⟩) iY mL h7]⟩
  simp [ht] at h7
  cbv
  refine bG (_,_,_,_,_,_,_) (by simp only [ht];rfl) (n-1) ?_ ((dz _ _ _ _ _ _ _ _).2 ?_)
  ·omega
  simp only [ah]
  first|exact ⟨k+1,⟨k,_,true⟩,aB (by omega),by omega,rfl,rfl,rfl,rfl,rfl,rfl,by rw [j4];congr 1;simp_all⟩|exact ⟨k+1,⟨q1,⟨a,b,c,d⟩,K⟩,aB (by omega),by omega,rfl,rfl,rfl,rfl,rfl,rfl,by rw [j4,Mp (B:=⟨q1,⟨a,b,c,d⟩,K⟩) iY mL h7]⟩
 simp [ht,ah,aF] at h1
 cbv
 refine GW [0,2] [false,false,false,false,true,true] (by kernel_rfl) (by kernel_rfl) (by kernel_rfl) (by kernel_rfl) (by kernel_rfl) ?_
 cbv
 iterate 4 refine gI (by simp) ?_
 refine an ?_
 (rw [List.drop_eq_nil_of_le (by omega),mG] at j4;simp only [ht,j4];rfl)
theorem Io {v:bE} {n:Nat} {l:List bM} {out:List aH} (h:0<n):ul v n l out=if !(best l v).ok then ([],false) else
 ul v (n-1) (l.set (best l v).at_ {l.getD (best l v).at_ default with free:=(best l v).left}) (out++[(l.getD (best l v).at_ default).node]):=by
 obtain ⟨n',rfl⟩:∃n',n=n'+1:=⟨n-1,by omega⟩
 rfl
theorem Ip {v:bE}:∀(l:List bM) (k:Nat) (b:ET),(b.ok=true→b.at_<k)→(mG v l k b).ok=true→(mG v l k b).at_<k+l.length
 |[],k,b,h,g=>h g
 |s::r,k,b,h,g=>by
  rw [mG] at g ⊢
  have:=Ip r (k+1) _ (by
   intro g2
   split
   ·show k<k+1;omega
   rename_i hh;rw [if_neg hh] at g2;have:=h g2;omega) g
  simp only [List.length_cons];omega
theorem Ui {v:bE} {l:List bM} (h:(best l v).ok=true):(best l v).at_<l.length:=by
 have:=Ip l 0 _ (by simp) h
 simpa [best] using this
theorem Mr {l:List bM} {x:List Term} {v:bE} {c:Int} (h:8<c):fit l x v c=([],false):=by rw [fit,if_pos h]
theorem Fo {l L:List bM} {x:List Term} {v:bE} {c:Int} {m:Nat} (h:c≤8) (hm:(m:Int)=max c 0) (hL:L=fitting l x):fit l x v c=ul v m L []:=by
 rw [fit,if_neg (by omega),hL];congr 1;omega
theorem Ro {cur:List bM} {y:bM} {i:Nat} {u:List (List D)} (ju:u=cur.map bM.cells) (hy:cur[i]?=some y) (v:bE):
 u.set i (be (u.getD i []) 1 [.int .u64 v.a,.int .u64 v.b,.int .u64 v.c,.int .u64 v.d])=(cur.set i {y with free:=v}).map bM.cells:=by
 rw [List.map_set,ju];congr 1
 simp [List.getD_eq_getElem?_getD,hy,bM.cells,be]
def Iq (t:Th) (r:List aH×Bool):AV:=.ek [SL (t _ fun _=>r.1.map bB),BL r.2]
theorem Uj (ht:TT t) (d1 d2 d3 d4 c:Int) {l:List bM} {es:List (List D)} (aC:es=l.map bM.cells) (hl:l.length<1000000) (hlb:∀s∈l,s.labels.length<1000000000) {x:List Term} {xr:List (List D)} (Fk:xr=x.map Term.cells) (hx:x.length<1000000000) (FJ:∀m∈x,m.mU.length<1000000000)
 (h0:fitting l x≠[]):FC 95 [SL es,SL xr,V4 d1 d2 d3 d4,bD c] [] (.ret (Iq t (t _ fun _=>fit l x ⟨d1,d2,d3,d4⟩ c))) []:=by
 obtain ⟨L,hL⟩:∃L,L=fitting l x:=⟨_,rfl⟩
 have I1:L.length<1000000:=by rw [hL];exact Nat.lt_of_le_of_lt (List.length_filter_le _ _) hl
 obtain ⟨r,hr⟩:∃r,r=L.map bM.cells:=⟨_,rfl⟩
 obtain ⟨k,hk⟩:∃k,k=r.length:=⟨_,rfl⟩
 have hkL:k=L.length:=by rw [hk,hr,lgM]
 have hk0:0<k:=by rw [hkL,hL];exact List.length_pos_iff.2 h0
 obtain ⟨m,hm⟩:∃m:Nat,(m:Int)=max c 0:=⟨(max c 0).toNat,by omega⟩
 refine cr ht Tryz.func95 (N:=47) ?_
 cbv
 have aF:es.length=l.length:=by rw [aC,lgM]
 have KL:xr.length=x.length:=by rw [Fk,lgM]
 have Zs:r.length=L.length:=by rw [hr,lgM]
 apply ap<;>intro h0
 ·simp [ht] at h0
  cbv
  refine an ?_
  (simp only [ht];rw [Mr ‹_›];rfl)
 simp [ht] at h0
 cbv
 (refine jY trv (N6 ht aC hl hlb Fk hx FJ (hL▸hr) hk hk0) trv rfl (.inr rfl) ?_)
 cbv
 obtain ⟨J1,mR⟩:∃J1:Nat→List (List D)×Int×List (List D)→Prop,∀n o i u,J1 n (o,i,u)↔(∃(q:Nat) (cur:List bM) (out:List aH),i=q∧q+n=m∧u=cur.map bM.cells∧o=out.map bB∧cur.length=k∧out.length=q∧ul ⟨d1,d2,d3,d4⟩ m L []=ul ⟨d1,d2,d3,d4⟩ n cur out):=⟨fun n v=>match v with|(o,i,u)=>(∃(q:Nat) (cur:List bM) (out:List aH),i=q∧q+n=m∧u=cur.map bM.cells∧o=out.map bB∧cur.length=k∧out.length=q∧ul ⟨d1,d2,d3,d4⟩ m L []=ul ⟨d1,d2,d3,d4⟩ n cur out),fun _ _ _ _=>Iff.rfl⟩
 refine bA ⟨[0,6,10,20,21],[(10,1)],[]⟩ (σ:=List (List D)×Int×List (List D)) (fun v=>[(10,.ow 2 1 (t _ fun _=>(v.1).length)),(21,.d (.int .i64 (t _ fun _=>v.2.1)))]) (fun v=>[(2,.row 1 (t _ fun _=>v.1)),(0,.row 6 (t _ fun _=>v.2.2))]) J1 ?_
 cbv
 refine aE ⟨m,([],_,_),(mR _ _ _ _).2 ?_,by simp only [ht];rfl,?_⟩
 ·exact ⟨0,L,[],rfl,by simp,hr,rfl,hkL.symm,rfl,rfl⟩
 rintro n ⟨o,i,u⟩ hj
 replace hj:=(mR _ _ _ _).1 hj
 obtain ⟨q,cur,out,rfl,j1,ju,jo,j2,j3,j4⟩:=hj
 have HP:u.length=cur.length:=by rw [ju,lgM]
 have Zi:o.length=out.length:=by rw [jo,lgM]
 cbv
 apply ap<;>intro h2
 ·simp [ht,ah] at h2
  cbv
  (refine aG (Mq ht _ _ _ _ (l:=cur) (by simp only [ht];exact ju) (by omega)) (by simp only [ht];exact ⟨by rw [ju,lgM];exact j2.symm,trv⟩) (fun rb VE=>?_);simp only [ht] at VE;rw [Io (show 0<n by ((try simp only [ah] at*);omega)),←VE] at j4;have hlt:rb.ok=true→rb.at_<cur.length:=fun g=>by rw [VE] at g ⊢;exact Ui g)
  cbv
  apply ap<;>intro h3
  ·simp [ht] at h3
   cbv
   refine an ?_
   (simp only [ht];rw [Fo ‹_› hm hL,j4,h3];rfl)
  simp [ht] at h3
  cbv
  refine ⟨?_,?_⟩
  ·(simp only [ht];have Zt:rb.at_<cur.length:=hlt ‹_›;exact ⟨Int.natCast_nonneg _,by rw [←j2];exact Int.ofNat_lt.2 Zt⟩)
  cbv
  (have hl3:=hlt ‹_›;obtain ⟨y,hy⟩:∃y,cur[rb.at_]?=some y:=⟨_,List.getElem?_eq_getElem hl3⟩;have hyd:cur.getD rb.at_ default=y:=(by simp [List.getD_eq_getElem?_getD,hy]);rw [hyd] at j4;refine Qi (bM.aS t y) (by simp only [ht];rw [ju,lgM];exact hl3) (by simp only [ht];rw [ju];simp [List.getD_eq_getElem?_getD,hy,bM.cells,bM.aS,ht]) ?_)
  cbv
  refine ⟨?_,?_⟩
  ·(simp only [ht];grind)
  refine ⟨?_,?_⟩
  ·(simp only [ht];have Zt:rb.at_<cur.length:=hlt ‹_›;exact ⟨Int.natCast_nonneg _,by rw [←j2];exact Int.ofNat_lt.2 Zt⟩)
  refine ⟨?_,?_⟩
  ·(simp only [ht];rw [ju,lgM];refine ⟨hl3,?_⟩;simp [List.getD_eq_getElem?_getD,hy,bM.cells];done)
  cbv
  refine bG (_,_,_) (by simp only [ht,←List.length_append];rfl) (n-1) ?_ ((mR _ _ _ _).2 ?_)
  ·((try simp only [ah] at*);omega)
  simp only [ah]
  (exact ⟨q+1,cur.set rb.at_ {y with free:=rb.left},out++[y.node],aB (by ((try simp only [ah] at*);omega)),by ((try simp only [ah] at*);omega),Ro ju hy _,by simp [jo],by simp [j2],by simp [j3],by rw [j4,h3];rfl⟩)
 simp [ht,ah] at h2
 cbv
 refine lQ trv (by simp [ht]) rfl rfl rfl ?_
 (simp only [ht];rw [Fo ‹_› hm hL,j4,show n=0 by ((try simp only [ah] at*);omega)];simp [ul,jo];done)
theorem Uk (ht:TT t) (d1 d2 d3 d4 c:Int) {l:List bM} {es:List (List D)} (aC:es=l.map bM.cells) (hl:l.length<1000000) (hlb:∀s∈l,s.labels.length<1000000000) {x:List Term} {xr:List (List D)} (Fk:xr=x.map Term.cells) (hx:x.length<1000000000) (FJ:∀m∈x,m.mU.length<1000000000)
 (h9:fitting l x=[]):FC 95 [SL es,SL xr,V4 d1 d2 d3 d4,bD c] [] (.ret (Iq t (t _ fun _=>fit l x ⟨d1,d2,d3,d4⟩ c))) []:=by
 obtain ⟨m,hm⟩:∃m:Nat,(m:Int)=max c 0:=⟨(max c 0).toNat,by omega⟩
 refine cr ht Tryz.func95 (N:=47) ?_
 cbv
 have aF:es.length=l.length:=by rw [aC,lgM]
 have KL:xr.length=x.length:=by rw [Fk,lgM]
 apply ap<;>intro h0
 ·simp [ht] at h0
  cbv
  refine an ?_
  (simp only [ht];rw [Mr ‹_›];rfl)
 simp [ht] at h0
 cbv
 (refine L0 trv (KP ht aC hl hlb Fk hx FJ h9) trv rfl rfl rfl ?_)
 cbv
 obtain ⟨J1,mR⟩:∃J1:Nat→List (List D)×Int→Prop,∀n o i,J1 n (o,i)↔(i=0∧n=m∧o=[]):=⟨fun n v=>match v with|(o,i)=>(i=0∧n=m∧o=[]),fun _ _ _=>Iff.rfl⟩
 refine bA ⟨[0,6,10,20,21],[(10,1)],[]⟩ (σ:=List (List D)×Int) (fun v=>[(10,.ow 1 1 (t _ fun _=>(v.1).length)),(21,.d (.int .i64 (t _ fun _=>v.2)))]) (fun v=>[(1,.row 1 (t _ fun _=>v.1))]) J1 ?_
 cbv
 refine aE ⟨m,([],_),(mR _ _ _).2 ?_,by simp only [ht];rfl,?_⟩
 ·exact ⟨rfl,rfl,rfl⟩
 rintro n ⟨o,i⟩ hj
 replace hj:=(mR _ _ _).1 hj
 obtain ⟨rfl,j1,rfl⟩:=hj
 cbv
 apply ap<;>intro h2
 ·simp [ht] at h2
  cbv
  (refine aG (Mq ht _ _ _ _ (l:=[]) rfl (by simp)) (by simp) (fun rb VE=>?_);simp only [ht] at VE;replace VE:rb=⟨0,bE.zero,false⟩:=VE;subst VE)
  cbv
  apply ap<;>intro h3
  ·simp [ht] at h3
   cbv
   refine an ?_
   (simp only [ht];rw [Fo ‹_› hm h9.symm,Io (show 0<m by ((try simp only [ah] at*);omega))];rfl)
  simp [ht] at h3
 simp [ht] at h2
 cbv
 refine lQ trv (by simp [ht]) rfl rfl rfl ?_
 (simp only [ht];rw [Fo ‹_› hm h9.symm,show m=0 by ((try simp only [ah] at*);omega)];rfl)
theorem KQ (ht:TT t) (d1 d2 d3 d4 c:Int) {l:List bM} {es:List (List D)} (aC:es=l.map bM.cells) (hl:l.length<1000000) (hlb:∀s∈l,s.labels.length<1000000000) {x:List Term} {xr:List (List D)} (Fk:xr=x.map Term.cells) (hx:x.length<1000000000) (FJ:∀m∈x,m.mU.length<1000000000):
 FC 95 [SL es,SL xr,V4 d1 d2 d3 d4,bD c] [] (.ret (Iq t (t _ fun _=>fit l x ⟨d1,d2,d3,d4⟩ c))) []:=by
 by_cases h9:fitting l x=[]
 ·exact Uk ht d1 d2 d3 d4 c aC hl hlb Fk hx FJ h9
 exact Uj ht d1 d2 d3 d4 c aC hl hlb Fk hx FJ h9
theorem Ms (ht:TT t) (bu:Int) {l:List Node} {ps:List Place} {es qs:List (List D)} (aC:es=l.map Node.cells) (dF:qs=ps.map Place.cells) (hl:ps.length<1000000):
 FC 108 [.agg [SL es,SL qs],az bu] [] (.ret (L4 t (t _ fun _=>ry ⟨l,ps⟩ bu))) []:=by
 simp only [ht,L4,ry];rw [←aC];exact Km ht bu dF hl rfl
theorem Mt (ht:TT t) (rd nx ef af:Int) {nl:List Node} {pl:List Place} {tl:List aR} {jl:List Jb} {ql:List bK} {el al:List dc} {ns ps ts js qs es bH:List (List D)} (eE:ns=nl.map Node.cells) (hps:ps=pl.map Place.cells) (hts:ts=tl.map aR.cells) (dM:js=jl.map Jb.cells) (dF:qs=ql.map bK.cells) (aC:es=el.map dc.cells) (has:bH=al.map dc.cells) (ji ja jb jc jd jn jp jt jf:Int) (jq:aH) (jr:Bool) {nJ:List Term} {CM:List (List D)} (we:CM=nJ.map Term.cells) {z:Int} {k:Nat} (hz:z=k) (hk:k<jl.length) (hjl:jl.length<1000000):
 FC 79 [.agg [az rd,az nx,SL ns,SL ps,SL ts,SL js,SL qs,az ef,SL es,az af,SL bH],bD z,.agg [az ji,ST jq,az ja,az jb,az jc,az jd,bD jn,bD jp,bD jt,SL CM,BL jr,bD jf]] [] (.ret (ff t (t _ fun _=>DC ⟨rd,nx,⟨nl,pl⟩,tl,jl,ql,⟨ef,el⟩,⟨af,al⟩⟩ k ⟨ji,⟨jq,⟨ja,jb,jc,jd⟩,jn,jp,jt,nJ⟩,jr,jf⟩))) []:=by
 refine cr ht Tryz.func79 (N:=17) ?_
 cbv
 obtain ⟨cZ,de,dg,cu,bZ,aF,cw⟩:=fc eE hps hts dM dF aC has
 have zS:CM.length=nJ.length:=by rw [we,lgM]
 refine jY trv (nw ht ‹_› ‹_›) trv rfl (.inr rfl) ?_
 cbv
 refine ⟨?_,?_⟩
 ·(simp [*];done)
 refine ⟨?_,?_⟩
 ·(simp [Jb.cells, *];done)
 cbv
 refine lQ trv (by simp [ht]) rfl rfl rfl ?_
 (simp [DC,Jb.cells,List.map_set,be, *];done)
theorem Ir (ht:TT t) (rd nx ef af:Int) {nl:List Node} {pl:List Place} {tl:List aR} {jl:List Jb} {ql:List bK} {el al:List dc} {ns ps ts js qs es bH:List (List D)} (eE:ns=nl.map Node.cells) (hps:ps=pl.map Place.cells) (hts:ts=tl.map aR.cells) (dM:js=jl.map Jb.cells) (dF:qs=ql.map bK.cells) (aC:es=el.map dc.cells) (has:bH=al.map dc.cells) (ji ja jb jc jd jn jp jt jf:Int) (jq:aH) (jr:Bool) {nJ:List Term} {CM:List (List D)} (we:CM=nJ.map Term.cells) (hu:(⟨ja,jb,jc,jd⟩:bE).u') (hjq:jq.length<1000000000000) (htl:tl.length<100000) (EB:pl.length<1000000):
 FC 62 [.agg [az rd,az nx,SL ns,SL ps,SL ts,SL js,SL qs,az ef,SL es,az af,SL bH],.agg [az ji,ST jq,az ja,az jb,az jc,az jd,bD jn,bD jp,bD jt,SL CM,BL jr,bD jf]] [] (.ret (ff t (t _ fun _=>nh ⟨rd,nx,⟨nl,pl⟩,tl,jl,ql,⟨ef,el⟩,⟨af,al⟩⟩ ⟨ji,⟨jq,⟨ja,jb,jc,jd⟩,jn,jp,jt,nJ⟩,jr,jf⟩))) []:=by
 obtain ⟨⟨⟨v1,v2,v3,v4⟩,vk⟩,hv⟩:∃r,r=c8 ⟨jq,⟨ja,jb,jc,jd⟩,jn,jp,jt,nJ⟩:=⟨_,rfl⟩
 obtain ⟨⟨t9,e9⟩,h9⟩:∃r,r=sJ tl jq ⟨v1,v2,v3,v4⟩:=⟨_,rfl⟩
 have hF:nh ⟨rd,nx,⟨nl,pl⟩,tl,jl,ql,⟨ef,el⟩,⟨af,al⟩⟩ ⟨ji,⟨jq,⟨ja,jb,jc,jd⟩,jn,jp,jt,nJ⟩,jr,jf⟩=⟨rd,nx,ry ⟨nl,pl⟩ ji,(if vk then t9 else tl),jl,ql,⟨ef,el⟩,⟨af,al⟩⟩:=by
  simp only [nh,←hv,←h9]
 rw [hF]
 refine cr ht Tryz.func62 (N:=32) ?_
 cbv
 obtain ⟨cZ,de,dg,cu,bZ,aF,cw⟩:=fc eE hps hts dM dF aC has
 have zS:CM.length=nJ.length:=by rw [we,lgM]
 (refine aG (ou ht jq ja jb jc jd jn jp jt (sl:=nJ) CM hu) trv (fun r9 gD=>?_);simp only [ht] at gD;rw [←hv] at gD;subst gD)
 cbv
 apply ap<;>intro h0
 ·cbv
  refine aD (Kx ht _ _ _ _ _ ‹_› ‹_› ‹_›) trv (fun r1 cM=>?_)
  simp only [ht] at cM
  rw [←h9] at cM
  subst r1
  cbv
  refine aD (Ms ht _ ‹_› ‹_› ‹_›) trv (fun r2 iu=>?_)
  simp only [ht] at iu
  cbv
  refine an ?_
  (subst iu;simp [*];done)
 cbv
 refine aD (Ms ht _ ‹_› ‹_› ‹_›) trv (fun r3 kO=>?_)
 simp only [ht] at kO
 cbv
 refine an ?_
 (simp [*];done)
theorem Fp (ht:TT t) {es:List (List D)} {i m c:Nat} (hm:m=es.length) (hi:i<m) (hc:m≤c) (aC:∀r∈es,r.length=12) (hs:m<1000000) {r:List (List D)} (hr:r=es.take i++es.drop (i+1)):
 FC 64 [.vw 0 12 0 m c true,bD (i:Int),bD ((i+1:Nat):Int)] [.row 12 es] (.ret (SL r)) [.dead]:=by
 obtain ⟨i1,hi1⟩:∃i1,i1=i+1:=⟨_,rfl⟩
 rw [←hi1] at hr ⊢
 refine jG ht (bz:=[.row 12 es]) Tryz.func64 rfl rfl (N:=33) rfl rfl (n:=1) rfl rfl ?_
 cbv
 obtain ⟨mi,yB⟩:∃n,n=m-i:=⟨_,rfl⟩
 obtain ⟨Ul,WV⟩:∃n,n=m-i1:=⟨_,rfl⟩
 obtain ⟨xy,Kj⟩:∃n,n=c-i1:=⟨_,rfl⟩
 refine bF (.vw 0 12 i 1 mi true) [.row 12 es] ?_ ?_ rfl ?_
 ·simp [ht,ah,bN];omega
 ·simp [ht,ah,aV,yB,hi1]
 cbv
 refine pX (by simp [ht,hi1];omega) ?_
 cbv
 refine bS [false,false,false,false,false,false,true,true] ?_
 cbv
 refine gI (by simp) (gI (by simp) ?_)
 refine iy (.vw 0 12 0 i c true) (fun _=>⟨?_,?_⟩) ?_
 ·simp [ht,dR,bN];omega
 ·simp [ht,aV,aP]
 cbv
 refine gI (by simp) (gI (by simp) ?_)
 refine iy (.vw 0 12 i1 Ul xy true) (fun _=>⟨?_,?_⟩) ?_
 ·simp [ht,dR,bN];omega
 ·simp [ht,aV,aP,WV,Kj]
 cbv
 obtain ⟨m1,hm1⟩:∃n,n=m-1:=⟨_,rfl⟩
 obtain ⟨cm1,WW⟩:∃n,n=c-m1:=⟨_,rfl⟩
 obtain ⟨R1,Rp⟩:∃R,R=wrote es i (es.drop i1):=⟨_,rfl⟩
 have tk:(es.drop i1).take Ul=es.drop i1:=List.take_of_length_le (by rw [List.length_drop];omega)
 have dl:(es.drop i1).length=Ul:=by rw [List.length_drop];omega
 have xJ:R1.length=m:=by rw [Rp];simp [wrote];omega
 have WX:R1.take m1=r:=by
  rw [Rp,hr]
  unfold wrote
  rw [List.take_append_of_le_length (by simp;omega),List.take_of_length_le (by simp;omega)]
 refine bF (.vw 0 12 0 m1 c true) [.row 12 R1,.bq] ?_ ?_ ?_ ?_
 ·simp only [ht,tk,dl,eR,Nat.zero_add]
  exact ⟨by omega,⟨by omega,fun h=>by rw [h] at hm;simp at hm;omega⟩,by omega,fun r h=>aC r (List.mem_of_mem_drop h)⟩
 ·simp only [ht,tk,dl];rw [show i+Ul=m1 by omega]
 ·simp only [ht,tk,Nat.zero_add,Rp]
 cbv
 refine bF (.vw 0 12 m1 1 cm1 true) [.row 12 R1,.bq] ?_ ?_ rfl ?_
 ·simp [ht,ah,dR,bN];omega
 ·simp [ht,ah,aV,aP,WW];omega
 cbv
 obtain ⟨R2,Rq⟩:∃R,R=wrote R1 m1 (List.replicate 1 [D.int IntKind.u64 0,D.str [],D.int IntKind.u64 0,D.int IntKind.u64 0,D.int IntKind.u64 0,D.int IntKind.u64 0,D.int IntKind.i64 0,D.int IntKind.i64 0,D.int IntKind.i64 0,D.sl [],D.bool false,D.int IntKind.i64 0]):=⟨_,rfl⟩
 have Zu:R2.length=m:=by rw [Rq];simp [wrote,xJ];omega
 have WY:R2.take m1=r:=by
  rw [←WX,Rq]
  unfold wrote
  rw [List.append_assoc,List.take_append_of_le_length (by simp [xJ];omega),List.take_take,Nat.min_self]
 refine bF (.ek []) [.row 12 R2,.bq] ?_ rfl ?_ ?_
 ·simp only [ht,eR];exact ⟨by omega,fun h=>by rw [h] at xJ;simp at xJ;omega⟩
 ·simp only [ht,Rq]
 cbv
 refine zw [true] trv ?_ rfl rfl rfl ?_
 ·simp only [ht];omega
 simp only [ht,List.drop_zero,WY]
theorem wg (ht:TT t) {l:List Jb} {i:Nat} {z z1:Int} (hz:z=i) (hz1:z1=(i:Int)+1) (hi:i<l.length) (hs:l.length<1000000):
 FC 64 [.ow 0 12 (t _ fun _=>(l.map Jb.cells).length),bD z,bD z1] [.row 12 (t _ fun _=>l.map Jb.cells)] (.ret (SL (t _ fun _=>(l.eraseIdx i).map Jb.cells))) [.dead]:=by
 simp only [ht]
 have e1:z1=((i+1:Nat):Int):=by omega
 subst hz
 rw [e1]
 refine dX (fun c hc hc0=>Fp ht (es:=l.map Jb.cells) (i:=i) rfl (by simpa using hi) hc ?_ (by simpa using hs) ?_)
 ·intro r hr;obtain ⟨y,_,rfl⟩:=List.mem_map.1 hr;rfl
 rw [List.eraseIdx_eq_take_drop_succ,List.map_append,List.map_take,List.map_drop]
end Dem
end
