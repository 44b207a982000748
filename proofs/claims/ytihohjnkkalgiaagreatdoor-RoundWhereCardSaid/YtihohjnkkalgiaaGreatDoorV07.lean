/- Parts of a proof, joined. -/
import Derived.Test.YtihohjnkkalgiaaGreatDoorV06
set_option linter.all false
set_option maxRecDepth 100000
set_option maxHeartbeats 4000000
section
open Go Dem Go.Proofs
namespace Dem
variable {t:Th}
theorem Be (ht:TT t) {es:List (List D)} (aD:∀r∈es,r.length=9) (hs:es.length*80≤140737488355328) {m:Nat} (hm:m=es.length):
 FC 106 [SL es] [] (.ret (.ow 0 9 m)) [.row 9 es]:=by
 refine cL ht Tryz.func106 (N:=8) ?_
 cbv
 refine ⟨fun b hb=>?_⟩
 simp only [ht] at hb
 cbv
 apply ap<;>intro h
 ·have he:=hb h
  subst he
  cbv
  exact GN trv rfl rfl (by rw [hm];rfl) rfl
 clear hb h
 cbv
 refine ⟨?_,?_⟩
 ·simp only [ht];simp;exact ⟨hs,aD⟩
 refine Cb trv rfl rfl rfl rfl ?_ ?_
 ·simp only [ht];rw [hm];simp
 simp only [ht];rfl
theorem EP (ht:TT t) {es:List (List D)} {x:D} {row:List D} {i n c:Nat} (hn:n=es.length) (hi:i≤n) (hc:n≤c) (hc0:n=0→c=0) (aD:∀r∈es,r.length=9) (hrow:(x::row).length=9) (hs:n<1000000) {r:List (List D)} (hr:r=es.take i++(x::row)::es.drop i):
 FC 144 [.vw 0 9 0 n c true,bF (i:Int),SL [x::row]] [.row 9 es] (.ret (SL r)) [.dead]:=by
 obtain ⟨n1,Ac⟩:∃n1,n1=n+1:=⟨_,rfl⟩
 obtain ⟨i1,hi1⟩:∃i1,i1=i+1:=⟨_,rfl⟩
 obtain ⟨ni,hni⟩:∃ni,ni=n-i:=⟨_,rfl⟩
 obtain ⟨ci,pN⟩:∃ci,ci=c-i:=⟨_,rfl⟩
 obtain ⟨w9,JO⟩:∃w9,w9=c-i1:=⟨_,rfl⟩
 obtain ⟨o7,tW⟩:∃o7,o7=n1-i:=⟨_,rfl⟩
 have hW:∀P:Prop,((IntKind.i64.wrap ((n:Int)+1)=(n1:Int))→(IntKind.i64.wrap ((n1:Int)-(i:Int))=(o7:Int))→(IntKind.i64.wrap ((i:Int)+1)=(i1:Int))→P)→P:=
  fun P h=>h (by rw [wrap64 (by omega) (by omega)];omega) (by rw [wrap64 (by omega) (by omega)];omega) (by rw [wrap64 (by omega) (by omega)];omega)
 have hrl:r.length=n1:=by rw [hr,List.length_append,List.length_cons,List.length_take,List.length_drop];omega
 have VJ:n≠0→FC 186 [SL [x::row],.vw 0 9 i1 ni w9 true] [.row 9 es] (.ret (BL false)) [.row 9 es]:=fun h0=>
  iE UC Tryz.func186 rfl rfl rfl rfl (tS:=29) (tR:=4) rfl rfl (by intro h;rw [h] at hn;exact h0 hn)
 refine kM ht (bC:=[.row 9 es]) Tryz.func144 rfl rfl (N:=95) rfl rfl (n:=1) rfl rfl ?_
 cbv
 refine bH (.vw 0 9 i ni ci true) [.row 9 es] ?_ ?_ rfl ?_
 ·simp [ht,dJ,bO];omega
 ·simp [ht,aW,aT,hni,pN]
 cbv
 refine pE (by simp [ht]) ?_
 cbv
 apply ap<;>intro h
 ·have hin:i=n:=by simp [ht,ah] at h;omega
  clear h
  cbv
  refine bH (.ow 1 9 n1) [.dead,.row 9 r] ?_ ?_ ?_ ?_
  ·simp only [ht]
   refine ⟨⟨hn,by simp;omega,?_⟩,rfl,hn,fun h=>⟨hc0 (by rw [hn,h];rfl),rfl⟩⟩
   intro r hr
   rcases List.mem_append.1 hr with hr|hr
   ·exact aD r hr
   simp at hr;subst hr;exact hrow
  ·simp [ht,Ac,hn]
  ·simp only [ht];rw [hr]
   have:i=es.length:=by omega
   subst this;simp
  cbv
  refine iq trv ?_ rfl rfl rfl rfl
  simp only [ht];exact hrl.symm
 have hin:i<n:=by simp [ht,ah] at h;omega
 clear h
 have A8:r=(r.drop 0).take n1:=by rw [List.drop_zero,List.take_of_length_le (by omega)]
 cbv
 apply ap<;>intro h2
 ·have VK:c=n:=by
   refine hW _ fun e1 e2 e3=>?_
   simp [ht,ah,e1] at h2;omega
  clear h2
  obtain ⟨L,hL⟩:∃L:List (List D),L=es.take i++List.replicate (es.length+1-i) [D.str [],D.int IntKind.u64 0,D.int IntKind.u64 0,D.int IntKind.u64 0,D.int IntKind.u64 0,D.int IntKind.u64 0,D.int IntKind.u64 0,D.int IntKind.u64 0,D.int IntKind.u64 0]:=⟨_,rfl⟩
  have Iz:L.length=n1:=by rw [hL];simp;omega
  obtain ⟨L1,tX⟩:∃L1,L1=wrote L i [x::row]:=⟨_,rfl⟩
  have mF:L1.length=n1:=by rw [tX];simp [wrote,Iz];omega
  have oG:r=wrote L1 i1 (es.drop i):=by rw [hi1,tX,hL,vM (by omega),hr]
  cbv
  refine bH (.vw 0 9 0 i c true) [.row 9 es] ?_ ?_ rfl ?_
  ·simp [ht,dJ,bO];omega
  ·simp [ht,aW,aT]
  cbv
  refine bH (.vw 1 9 0 n1 n1 false) [.row 9 es,.row 9 L] ?_ ?_ ?_ ?_
  ·refine hW _ fun e1 e2 e3=>?_
   simp [ht,ah,e1,e2];omega
  ·refine hW _ fun e1 e2 e3=>?_
   simp [ht,ah,e1,e2];omega
  ·refine hW _ fun e1 e2 e3=>?_
   simp [ht,ah,e1,e2,hL];omega
  cbv
  refine bH (.vw 1 9 i o7 o7 false) [.row 9 es,.row 9 L] ?_ ?_ rfl ?_
  ·simp [ht,dJ,bO];omega
  ·simp [ht,aW,aT,tW]
  cbv
  refine bH (bF 1) [.row 9 es,.row 9 L1] ?_ ?_ ?_ ?_
  ·simp only [ht,eO]
   refine ⟨⟨by omega,?_⟩,?_⟩
   ·intro h;rw [h] at Iz;simp at Iz;omega
   intro r hr;have:=List.mem_of_mem_take hr;simp at this;rw [this];exact hrow
  ·simp [ht,ah];omega
  ·simp [ht,tX,show min 1 o7=1 by omega]
  cbv
  refine cE [false,false,false,false,false,false,false,false,true] ?_
  cbv
  repeat (refine gI (by (simp;done)) ?_)
  refine ij (.vw 1 9 i1 ni ni false) (fun _=>⟨?_,?_⟩) ?_
  ·refine hW _ fun e1 e2 e3=>?_
   simp [ht,ah,e3,dJ,bO];omega
  ·refine hW _ fun e1 e2 e3=>?_
   simp [ht,ah,e3,aW,aT];omega
  cbv
  repeat (refine gI (by (simp;done)) ?_)
  refine ij (.vw 0 9 i ni ci true) (fun _=>⟨?_,?_⟩) ?_
  ·simp [ht,dJ,bO];omega
  ·simp [ht,aW,aT,hni,pN]
  cbv
  refine bH (bF (ni:Nat)) [.row 9 es,.row 9 r,.bt] ?_ ?_ ?_ ?_
  ·simp only [ht,eO]
   refine ⟨by omega,⟨by omega,?_⟩,?_⟩
   ·intro h;rw [h] at mF;simp at mF;omega
   intro r hr;exact aD r (List.mem_of_mem_drop (List.mem_of_mem_take hr))
  ·simp [ht,ah]
  ·simp only [ht,oG]
   rw [List.take_of_length_le (by simp;omega)]
  cbv
  refine yQ [true] trv ?_ rfl rfl rfl ?_
  ·simp only [ht];omega
  simp only [ht];rw [←A8]
 have VK:n<c:=by
  refine hW _ fun e1 e2 e3=>?_
  simp [ht,ah,e1] at h2;omega
 clear h2
 obtain ⟨L1,tX⟩:∃L1,L1=wrote es i1 (es.drop i):=⟨_,rfl⟩
 have oG:r=wrote L1 i [x::row]:=by rw [tX,hi1,EF (by omega),hr]
 have mF:L1.length=n1:=by rw [tX];simp [wrote];omega
 cbv
 refine bH (.vw 0 9 0 n1 c true) [.row 9 es] ?_ ?_ rfl ?_
 ·refine hW _ fun e1 e2 e3=>?_
  simp [ht,ah,e1,dJ,bO];omega
 ·refine hW _ fun e1 e2 e3=>?_
  simp [ht,ah,e1,aW,aT]
 cbv
 refine bH (.vw 0 9 i1 ni w9 true) [.row 9 es] ?_ ?_ rfl ?_
 ·refine hW _ fun e1 e2 e3=>?_
  simp [ht,ah,e3,dJ,bO];omega
 ·refine hW _ fun e1 e2 e3=>?_
  simp [ht,ah,e3,aW,aT];omega
 cbv
 refine eE trv (VJ (by omega)) ?_
 cbv
 refine ld (by simp [ht]) ?_
 cbv
 refine cE [false,false,false,false,false,false,false,false,true] ?_
 cbv
 repeat (refine gI (by (simp;done)) ?_)
 refine ij (.vw 0 9 i1 ni w9 true) (fun _=>⟨?_,?_⟩) ?_
 ·refine hW _ fun e1 e2 e3=>?_
  simp [ht,ah,e3,dJ,bO];omega
 ·refine hW _ fun e1 e2 e3=>?_
  simp [ht,ah,e3,aW,aT];omega
 cbv
 repeat (refine gI (by (simp;done)) ?_)
 refine ij (.vw 0 9 i o7 ci true) (fun _=>⟨?_,?_⟩) ?_
 ·simp [ht,dJ,bO];omega
 ·simp [ht,aW,aT,tW,pN]
 cbv
 refine bH (bF (ni:Nat)) [.row 9 L1,.bt] ?_ ?_ ?_ ?_
 ·simp only [ht,eO]
  refine ⟨by omega,⟨by omega,?_⟩,?_⟩
  ·intro h;rw [h] at hn;simp at hn;omega
  intro r hr;exact aD r (List.mem_of_mem_drop (List.mem_of_mem_take hr))
 ·simp [ht,ah];omega
 ·simp only [ht,tX]
  rw [List.take_of_length_le (by simp;omega)]
 cbv
 refine bH (.vw 0 9 i o7 ci true) [.row 9 L1,.bt] ?_ ?_ rfl ?_
 ·simp [ht,dJ,bO];omega
 ·simp [ht,aW,aT,tW,pN]
 cbv
 refine bH (bF 1) [.row 9 r,.bt] ?_ ?_ ?_ ?_
 ·simp only [ht,eO]
  refine ⟨⟨by omega,?_⟩,?_⟩
  ·intro h;rw [h] at mF;simp at mF;omega
  intro r hr;have:=List.mem_of_mem_take hr;simp at this;rw [this];exact hrow
 ·simp [ht,ah];omega
 ·simp [ht,oG,show min 1 o7=1 by omega]
 cbv
 refine yQ [true] trv ?_ rfl rfl rfl ?_
 ·simp only [ht];omega
 simp only [ht];rw [←A8]
theorem HG (ht:TT t) {es:List (List D)} {x:D} {row:List D} {i n:Nat} (hn:n=es.length) (hi:i≤n) (aD:∀r∈es,r.length=9) (hrow:(x::row).length=9) (hs:n<1000000) {r:List (List D)} (hr:r=es.take i++(x::row)::es.drop i):
 FC 144 [.ow 0 9 n,bF (i:Int),SL [x::row]] [.row 9 es] (.ret (SL r)) [.dead]:=
 dR fun c hc hc0=>EP ht hn hi hc hc0 aD hrow hs hr
theorem Qw (ht:TT t) (q:aI) {l:List (bc)} {es:List (List D)} (aD:es=l.map bc.cells) (f:Nat) (p:bc→Bool) (hl:l.length<9223372036854775807)
 (hf:∀x∈l,FC f [.agg [ST x.path,aB x.eX.a,aB x.eX.b,aB x.eX.c,aB x.eX.d,aB x.used.a,aB x.used.b,aB x.used.c,aB x.used.d],.ptr 0 0] [.var [ST q]] (.ret (BL (p x))) [.var [ST q]]) {r:Int} (hr:r=idxOf p l):FC 135 [SL es,.fn f [.ptr 0 0]] [.var [ST q]] (.ret (bF r)) [.var [ST q]]:=by
 have hel:es.length=l.length:=by rw [aD,lgM]
 refine kM ht (bC:=[.var [ST q]]) Tryz.func135 rfl rfl (N:=19) rfl rfl (n:=1) rfl rfl ?_
 cbv
 refine bE ⟨[0,1,7,8],[],[]⟩ (σ:=Nat) (fun k=>[(8,bF (t _ fun _=>(k:Int)))]) (fun _=>[]) (vL p l) ?_
 cbv
 refine aF ⟨l.length,0,.nil,by simp only [ht];rfl,fun n k hj=>?_⟩
 cbv
 apply ap<;>intro h
 ·simp only [ht,ah,decide_eq_true_eq] at h
  have hk:k<es.length:=by omega
  obtain ⟨x,hx,pK,px,hpx⟩:=hj.get (by omega)
  have iw:=hf x pK
  rw [←hpx] at iw
  obtain ⟨nm,⟨a,b,c,d⟩,⟨e,g,u,v⟩⟩:=x
  cbv
  refine iW [.str nm,.int .u64 a,.int .u64 b,.int .u64 c,.int .u64 d,.int .u64 e,.int .u64 g,.int .u64 u,.int .u64 v] ?_ ?_ ?_
  ·simp only [ht,ah];exact sB aD hk fun _=>rfl
  ·simp [ht,ah,aD,hx]
  cbv
  refine eE trv iw ?_
  cbv
  apply ap<;>intro hb
  ·cbv
   refine an ?_
   simp only [ht,ah,hr,hj.hit hx (hpx▸hb)]
  cbv
  refine aF ⟨n-1,k+1,⟨hj.lt hx,hj.next hx (hpx▸hb)⟩,?_⟩
  simp only [ht,ah,aE (show k<9223372036854775807 by omega)];rfl
 simp only [ht,ah,decide_eq_false_iff_not] at h
 have hk:l.length≤k:=by omega
 clear h
 cbv
 refine an ?_
 rw [hr,hj.none hk]
theorem VV (ht:TT t) (q:aI) (x:bc) {r:Bool} (hr:r=!Op.bytesLess x.path q):FC 143 [.agg [ST x.path,aB x.eX.a,aB x.eX.b,aB x.eX.c,aB x.eX.d,aB x.used.a,aB x.used.b,aB x.used.c,aB x.used.d],.ptr 0 0] [.var [ST q]] (.ret (BL r)) [.var [ST q]]:=by
 obtain ⟨nm,⟨a,b,c,d⟩,⟨e,g,u,v⟩⟩:=x
 refine kM ht (bC:=[.var [ST q]]) Tryz.func143 rfl rfl (N:=8) rfl rfl (n:=1) rfl rfl ?_
 cbv
 refine an ?_
 simp only [ht,hr]
theorem yA (ht:TT t) {l:List bc} {es:List (List D)} (aD:es=l.map bc.cells) (hs:l.length<1000000000):
 FC 106 [SL es] [] (.ret (.ow 0 9 (t _ fun _=>(l.map bc.cells).length))) [.row 9 (t _ fun _=>l.map bc.cells)]:=by
 simp only [ht];subst aD
 refine Be ht ?_ ?_ (by simp)
 ·intro r hr;obtain ⟨y,_,rfl⟩:=List.mem_map.1 hr;rfl
 simp;omega
theorem vR (ht:TT t) {l:List bc} {x:bc} {k:Nat} {i:Int} (hi:i=k) (hk:k≤l.length) (hl:l.length<1000000):
 FC 144 [.ow 0 9 (t _ fun _=>(l.map bc.cells).length),bF i,.cl [bc.cells x]] [.row 9 (t _ fun _=>l.map bc.cells)] (.ret (SL (t _ fun _=>(l.take k++x::l.drop k).map bc.cells))) [.dead]:=by
 simp only [ht];subst hi
 refine oT (args':=[.ow 0 9 (l.map bc.cells).length,bF k,SL [bc.cells x]]) ?_ (HG ht (by simp) (by simpa using hk) ?_ rfl (by simpa using hl) (by simp))
 ·intro β w ok vs h
  simp only [ak] at h ⊢
  obtain ⟨u1,Y8,rfl,h1,u2,OI,rfl,h2,u3,VQ,rfl,h3,h4⟩:=h
  exact ⟨u1,_,rfl,h1,u2,_,rfl,h2,u3,VQ,rfl,LA h3,h4⟩
 intro r hr;obtain ⟨y,_,rfl⟩:=List.mem_map.1 hr;rfl
theorem UK {t:Th} (ht:TT t) {α:Type} {l:List α} {cells cT:α→List D} {es:List (List D)} {g:Bool} {c:Prop} (aD:es=l.map cells) {z:Int} {n:Nat} (i:Nat) (x:α) {K:List D→Prop} (hi:g=true→z=i∧l[i]?=some x) (hn:∀x,(cells x).length=n) (hT:∀x,cells x=cT x)
 (hc:g=true→c) (hK:K (cT x)):nL g (c∧(t Prop fun _=>0≤z∧z<es.length∧∀r∈es,r.length=n)) (t _ fun _=>es.getD z.toNat []) K:=by
 refine SI (cT x) (fun hg=>?_) hK
 obtain ⟨h1,h2⟩:=hi hg
 obtain ⟨ds,h,hk⟩:=yR (K:=fun ds=>ds=cT x) ht aD h2 h1 hn hT rfl
 obtain ⟨h3,h4⟩:=h rfl
 exact ⟨⟨hc hg,h3⟩,h4.trans hk⟩
theorem qN {l:List bc} {q:aI} {r:Int} (h:r=bU l q):(r=-1∧bU l q=-1∧l.findIdx? (fun e=>decide (e.path=q))=none)∨∃(k:Nat) (x:bc),r=k∧bU l q=k∧k<l.length∧l[k]?=some x∧l.findIdx? (fun e=>decide (e.path=q))=some k:=by
 rcases cC (p:=fun e:bc=>decide (e.path=q)) (l:=l) (r:=r) h with ⟨e1,e2,e3⟩|⟨i,x,hi,hil,e1,e2,e3,e4⟩
 ·exact .inl ⟨e1,by rw [←h,e1],e2⟩
 exact .inr ⟨i,x,hi,by rw [←h,hi],hil,e1,e3⟩
def Tj (l:List bc) (q:aI):Nat:=match l.findIdx? (fun e=>!Op.bytesLess e.path q) with
 |some k=>k
 |none=>l.length
theorem Dh {l:List bc} {q:aI} {v:bG} (h:l.findIdx? (fun e=>decide (e.path=q))=none) (h1:named q=true) (h2:¬q=[]→0≤bU l (parent q)) (h3:bU l q<0→(l.length:Int)<16):
 vt l q v=(l.take (Tj l q)++⟨q,v,bG.zero⟩::l.drop (Tj l q),0):=by
 have e0:bU l q=-1:=by unfold bU idxOf;rw [h]
 have h3:=h3 (by omega)
 unfold vt Tj
 rw [if_neg (by simp [h1]),if_neg (by simp;exact fun g=>by have:=h2 g;omega),if_neg (by simp;omega)]
 simp only [h]
 cases l.findIdx? (fun e=>!Op.bytesLess e.path q)<;>simp
theorem Nl {l:List bc} {q:aI} {v:bG} (h1:named q=true) (h2:¬q=[]→0≤bU l (parent q)) (h3:bU l q<0) (h4:(16:Int)≤l.length):vt l q v=(l,9):=by
 unfold vt
 rw [if_neg (by simp [h1]),if_neg (by simp;exact fun g=>by have:=h2 g;omega),if_pos (by simp;omega)]
theorem Di {l:List bc} {q:aI} {v:bG} {k:Nat} {x:bc} (h:l.findIdx? (fun e=>decide (e.path=q))=some k) (hx:l[k]?=some x) (h1:named q=true) (h2:¬q=[]→0≤bU l (parent q)):
 vt l q v=if lg x.used v then (l.set k {x with eX:=v},0) else (l,10):=by
 have e0:bU l q=k:=by unfold bU idxOf;rw [h]
 unfold vt
 rw [if_neg (by simp [h1]),if_neg (by simp;exact fun g=>by have:=h2 g;omega),if_neg (by simp;omega)]
 simp only [h,List.getD_eq_getElem?_getD,hx,Option.getD_some]
 cases lg x.used v<;>simp
theorem zq (ht:TT t) (q:aI) (a b c d:Int) {l:List bc} {es:List (List D)} (aD:es=l.map bc.cells) (hl:l.length<100000) (hq:q.length<1000000000000) (hpq:(parent q).length<1000000000000):
 FC 92 [SL es,ST q,V4 a b c d] [] (.ret (Bd t (t _ fun _=>vt l q ⟨a,b,c,d⟩))) []:=by
 obtain ⟨pq,Nn⟩:∃p,p=parent q:=⟨_,rfl⟩
 obtain ⟨nq,Fk⟩:∃p,p=named q:=⟨_,rfl⟩
 refine cL ht Tryz.func92 (N:=77) ?_
 cbv
 have aQ:es.length=l.length:=by rw [aD,lgM]
 refine aP (lT ht _ ‹_› (by omega)) trv (fun r0 c8=>?_)
 simp only [ht] at c8
 (rcases qN (q:=q) c8 with ⟨e1,e0,e2⟩|⟨i,x,e1,e0,hil,e3,e2⟩)
 ·cbv
  refine aP (Bc ht _ ‹_›) trv (fun r1 cR=>?_)
  simp only [ht] at cR
  rw [←Fk] at cR
  subst r1
  cbv
  apply ap<;>intro h2
  ·simp [ht] at h2
   cbv
   refine an ?_
   (subst Nn Fk;simp_all [vt];done)
  simp [ht] at h2
  cbv
  iterate 2 refine gI (by simp [ht]) ?_
  refine eR (fun g3=>⟨by simp [ht] at g3 ⊢;exact g3,trv,Df ht _ ‹_›⟩) rfl rfl (fun r4 kW=>?_)
  simp only [ht] at kW
  rw [←Nn] at kW
  subst r4
  cbv
  refine eR (fun g5=>⟨by simp [ht] at g5 ⊢;exact g5,trv,lT ht _ ‹_› (by omega)⟩) rfl rfl (fun r6 ou=>?_)
  simp only [ht] at ou
  skip
  cbv
  refine gI (by simp [ht]) ?_
  refine pI (by simp [ht]) ?_
  apply ap<;>intro h7
  ·simp [ht] at h7
   cbv
   refine an ?_
   (subst Nn Fk;simp_all [vt];done)
  simp [ht] at h7
  cbv
  iterate 3 refine gI (by simp [ht]) ?_
  refine pI (by simp [ht]) ?_
  apply ap<;>intro h8
  ·simp [ht,ah,aQ] at h8
   cbv
   refine an ?_
   (simp only [ht];rw [Nl (by rw [←Fk];assumption) (fun g=>by rw [←Nn,←ou];exact h7 g) (by omega) h8.2];simp [aD];done)
  simp [ht,ah,aQ] at h8
  cbv
  refine cE [true,true,true,false,false,false,false,false,false,true,true,true,true] ?_
  cbv
  iterate 2 refine gI (by simp [ht]) ?_
  (refine UK ht aD (cT:=bc.bw t) 0 default (fun g=>absurd g (by simp [ht,e1])) (fun _=>rfl) (fun _=>by simp only [bc.bw]) (fun g=>by exact ⟨g,g,trv⟩) ?_)
  cbv
  iterate 3 refine gI (by simp [ht]) ?_
  refine eR (fun g9=>⟨by simp [ht] at g9 ⊢;exact g9,trv,vO ht _ _ _ _ _ _ _ _⟩) rfl rfl (fun r10 aat=>?_)
  simp only [ht] at aat
  cbv
  refine gI (by simp [ht]) ?_
  refine pI (by simp [ht]) ?_
  apply ap<;>intro h11
  ·simp [ht] at h11
   omega
  simp [ht] at h11
  cbv
  refine jV trv (yA ht ‹_› (by omega)) trv rfl (.inr rfl) ?_
  cbv
  apply ap<;>intro h12
  ·simp [ht] at h12
   omega
  simp [ht] at h12
  cbv
  (obtain ⟨r9,jP⟩:∃r,r=idxOf (fun o:bc=>!Op.bytesLess o.path q) l:=⟨_,rfl⟩;refine dG [0] trv rfl rfl (Qw ht q aD 143 (fun o:bc=>!Op.bytesLess o.path q) (by omega) (fun x _=>VV ht q x rfl) jP) (cD ?_);have ec:=cC jP;clear jP;rcases ec with ⟨f1,f2,f3⟩|⟨z,y,f0,fz,f1,f2,f3,f4⟩)
  ·cbv
   apply ap<;>intro UL
   ·simp [ht] at UL
    cbv
    refine dG [3] trv rfl rfl (vR ht (l:=l) (x:=⟨q,⟨a,b,c,d⟩,bG.zero⟩) (k:=Tj l q) (by (simp [ht,Tj,f2,aQ];done)) (by (simp [Tj,f2];done)) (by simp only [ah] at*;omega)) (cD ?_)
    cbv
    refine an ?_
    (simp only [ht];rw [Dh e2 (by rw [←Fk];assumption) (fun g=>by rw [←Nn,←ou];exact h7 g) (fun g=>h8 (by omega))])
   simp [ht] at UL
   omega
  cbv
  apply ap<;>intro RM
  ·simp [ht] at RM
   (simp only [ah] at*;omega)
  simp [ht] at RM
  cbv
  refine dG [3] trv rfl rfl (vR ht (l:=l) (x:=⟨q,⟨a,b,c,d⟩,bG.zero⟩) (k:=Tj l q) (by (simp only [Tj,f3];exact f0)) (by (simp only [Tj,f3];omega)) (by simp only [ah] at*;omega)) (cD ?_)
  cbv
  refine an ?_
  (simp only [ht];rw [Dh e2 (by rw [←Fk];assumption) (fun g=>by rw [←Nn,←ou];exact h7 g) (fun g=>h8 (by omega))])
 cbv
 refine aP (Bc ht _ ‹_›) trv (fun r15 Yl=>?_)
 simp only [ht] at Yl
 rw [←Fk] at Yl
 subst r15
 cbv
 apply ap<;>intro UM
 ·simp [ht] at UM
  cbv
  refine an ?_
  (subst Nn Fk;simp_all [vt];done)
 simp [ht] at UM
 cbv
 iterate 2 refine gI (by simp [ht]) ?_
 refine eR (fun g17=>⟨by simp [ht] at g17 ⊢;exact g17,trv,Df ht _ ‹_›⟩) rfl rfl (fun r18 Ym=>?_)
 simp only [ht] at Ym
 rw [←Nn] at Ym
 subst r18
 cbv
 refine eR (fun g19=>⟨by simp [ht] at g19 ⊢;exact g19,trv,lT ht _ ‹_› (by omega)⟩) rfl rfl (fun r20 VW=>?_)
 simp only [ht] at VW
 skip
 cbv
 refine gI (by simp [ht]) ?_
 refine pI (by simp [ht]) ?_
 apply ap<;>intro Ze
 ·simp [ht] at Ze
  cbv
  refine an ?_
  (subst Nn Fk;simp_all [vt];done)
 simp [ht] at Ze
 cbv
 iterate 3 refine gI (by simp [ht]) ?_
 refine pI (by simp [ht]) ?_
 apply ap<;>intro h22
 ·simp [ht,ah,aQ] at h22
  (simp only [ah] at*;omega)
 simp [ht,ah,aQ] at h22
 cbv
 refine cE [true,true,true,false,false,false,false,false,false,true,true,true,true] ?_
 cbv
 iterate 2 refine gI (by simp [ht]) ?_
 (refine UK ht aD (cT:=bc.bw t) i x (fun g=>⟨e1,e3⟩) (fun _=>rfl) (fun _=>by simp only [bc.bw]) (fun g=>by exact ⟨g,g,trv⟩) ?_)
 cbv
 iterate 3 refine gI (by simp [ht]) ?_
 refine eR (fun g23=>⟨by simp [ht] at g23 ⊢;exact g23,trv,vO ht _ _ _ _ _ _ _ _⟩) rfl rfl (fun r24 aau=>?_)
 simp only [ht] at aau
 cbv
 refine gI (by simp [ht]) ?_
 refine pI (by simp [ht]) ?_
 apply ap<;>intro h25
 ·simp [ht] at h25
  cbv
  refine an ?_
  (have ts:=Di (v:=⟨a,b,c,d⟩) e2 e3 (by rw [←Fk];assumption) (fun g=>by rw [←Nn,←VW];exact Ze g);simp only [ht];rw [ts];simp_all;done)
 simp [ht] at h25
 cbv
 refine jV trv (yA ht ‹_› (by omega)) trv rfl (.inr rfl) ?_
 cbv
 apply ap<;>intro h26
 ·simp [ht] at h26
  cbv
  refine ⟨?_,?_⟩
  ·(subst Nn Fk;simp_all;done)
  refine ⟨?_,?_⟩
  ·(subst Nn Fk;simp_all;done)
  cbv
  refine iq trv (by simp [ht]) rfl rfl rfl ?_
  (have ts:=Di (v:=⟨a,b,c,d⟩) e2 e3 (by rw [←Fk];assumption) (fun g=>by rw [←Nn,←VW];exact Ze g);simp only [ht];rw [ts];simp_all [List.map_set,be];done)
 simp [ht] at h26
 (simp only [ah] at*;omega)
def Qx (r:bc×Int):AV:=.dV [Yj r.1,bF r.2]
theorem Tk (ht:TT t) (a0 a1 a2 a3 b0 b1 b2 b3:Int):FC 170 [V4 a0 a1 a2 a3,V4 b0 b1 b2 b3] [] (.ret (Za (t _ fun _=>dO ⟨a0,a1,a2,a3⟩ ⟨b0,b1,b2,b3⟩))) []:=by
 simp only [ht];exact EI ht _ _ _ _ _ _ _ _ rfl
theorem JZ (ht:TT t) (v1 v2 v3 v4:Int) (p:aI) (a b c d e f g h:Int):
 FC 105 [V4 v1 v2 v3 v4,.agg [ST p,aB a,aB b,aB c,aB d,aB e,aB f,aB g,aB h]] [] (.ret (Qx (t _ fun _=>fM ⟨v1,v2,v3,v4⟩ ⟨p,⟨a,b,c,d⟩,⟨e,f,g,h⟩⟩))) []:=by
 obtain ⟨⟨⟨s1,s2,s3,s4⟩,k⟩,hS⟩:∃r,r=jR ⟨e,f,g,h⟩ ⟨v1,v2,v3,v4⟩:=⟨_,rfl⟩
 refine cL ht Tryz.func105 (N:=28) ?_
 cbv
 refine gR trv (VM ht _ _ _ _ _ _ _ _ ‹_›) trv rfl rfl ?_
 cbv
 apply ap<;>intro h0
 ·simp [ht] at h0
  cbv
  refine an ?_
  (simp only [ht,fM,←hS];simp_all;done)
 simp [ht] at h0
 cbv
 refine aP (vO ht _ _ _ _ _ _ _ _) trv (fun r1 cR=>?_)
 simp only [ht] at cR
 cbv
 apply ap<;>intro h2
 ·simp [ht] at h2
  cbv
  refine an ?_
  (simp only [ht,fM,←hS];simp_all;done)
 simp [ht] at h2
 cbv
 refine an ?_
 (simp only [ht,fM,←hS];simp_all;done)
theorem J5 (ht:TT t) (v1 v2 v3 v4:Int) (p:aI) (a b c d e f g h:Int):
 FC 159 [V4 v1 v2 v3 v4,.agg [ST p,aB a,aB b,aB c,aB d,aB e,aB f,aB g,aB h]] [] (.ret (Qx (t _ fun _=>eF ⟨v1,v2,v3,v4⟩ ⟨p,⟨a,b,c,d⟩,⟨e,f,g,h⟩⟩))) []:=by
 obtain ⟨⟨⟨s1,s2,s3,s4⟩,k⟩,hS⟩:∃r,r=dO ⟨e,f,g,h⟩ ⟨v1,v2,v3,v4⟩:=⟨_,rfl⟩
 refine cL ht Tryz.func159 (N:=22) ?_
 cbv
 refine gR trv (EI ht _ _ _ _ _ _ _ _ ‹_›) trv rfl rfl ?_
 cbv
 apply ap<;>intro h0
 ·simp [ht] at h0
  cbv
  refine an ?_
  (simp only [ht,eF,←hS];simp_all;done)
 simp [ht] at h0
 cbv
 refine an ?_
 (simp only [ht,eF,←hS];simp_all;done)
theorem Tl (ht:TT t) (q:aI) {l:List bc} {es:List (List D)} (aD:es=l.map bc.cells) (hl:l.length<1000000000) {r:Bool} (hr:r=decide (bU l q<0)):
 FC 157 [ST q,.ptr 0 0] [.var [SL es]] (.ret (BL r)) [.var [SL es]]:=by
 refine kM ht (bC:=[.var [SL es]]) Tryz.func157 rfl rfl (N:=8) rfl rfl (n:=1) rfl rfl ?_
 cbv
 have aQ:es.length=l.length:=by rw [aD,lgM]
 refine aP (lT ht _ ‹_› ‹_›) trv (fun r0 c8=>?_)
 simp only [ht] at c8
 cbv
 refine an ?_
 (simp [*];done)
theorem No (ht:TT t) (ts:List (List D)) {l:List (aI)} {es:List (List D)} (aD:es=l.map bf) (f:Nat) (p:aI→Bool) (hl:l.length<9223372036854775807)
 (hf:∀x∈l,FC f [.d (.str x),.ptr 0 0] [.var [SL ts]] (.ret (BL (p x))) [.var [SL ts]]) {r:Int} (hr:r=idxOf p l):FC 199 [SL es,.fn f [.ptr 0 0]] [.var [SL ts]] (.ret (bF r)) [.var [SL ts]]:=by
 have hel:es.length=l.length:=by rw [aD,lgM]
 refine kM ht (bC:=[.var [SL ts]]) Tryz.func199 rfl rfl (N:=19) rfl rfl (n:=1) rfl rfl ?_
 cbv
 refine bE ⟨[0,1,7,8],[],[]⟩ (σ:=Nat) (fun k=>[(8,bF (t _ fun _=>(k:Int)))]) (fun _=>[]) (vL p l) ?_
 cbv
 refine aF ⟨l.length,0,.nil,by simp only [ht];rfl,fun n k hj=>?_⟩
 cbv
 apply ap<;>intro h
 ·simp only [ht,ah,decide_eq_true_eq] at h
  have hk:k<es.length:=by omega
  obtain ⟨x,hx,pK,px,hpx⟩:=hj.get (by omega)
  have iw:=hf x pK
  rw [←hpx] at iw
  skip
  cbv
  refine iW [.str x] ?_ ?_ ?_
  ·simp only [ht,ah];exact sB aD hk fun _=>rfl
  ·simp [ht,ah,aD,hx]
  cbv
  refine eE trv iw ?_
  cbv
  apply ap<;>intro hb
  ·cbv
   refine an ?_
   simp only [ht,ah,hr,hj.hit hx (hpx▸hb)]
  cbv
  refine aF ⟨n-1,k+1,⟨hj.lt hx,hj.next hx (hpx▸hb)⟩,?_⟩
  simp only [ht,ah,aE (show k<9223372036854775807 by omega)];rfl
 simp only [ht,ah,decide_eq_false_iff_not] at h
 have hk:l.length≤k:=by omega
 clear h
 cbv
 refine an ?_
 rw [hr,hj.none hk]
theorem Np (ht:TT t) (ts:List (List D)) {l:List (aI)} {es:List (List D)} (aD:es=l.map bf) (f:Nat) (p:aI→Bool) (hl:l.length<9223372036854775807)
 (hf:∀x∈l,FC f [.d (.str x),.ptr 0 0] [.var [SL ts]] (.ret (BL (p x))) [.var [SL ts]]) {r:Bool} (hr:r=l.any p):FC 156 [SL es,.fn f [.ptr 0 0]] [.var [SL ts]] (.ret (BL r)) [.var [SL ts]]:=by
 obtain ⟨k,hk⟩:∃k,k=idxOf p l:=⟨_,rfl⟩
 refine kM ht (bC:=[.var [SL ts]]) Tryz.func156 rfl rfl (N:=9) rfl rfl (n:=1) rfl rfl ?_
 cbv
 refine eE trv (No ht ts aD f p hl hf hk) ?_
 cbv
 refine an ?_
 simp only [ht,hr,iR,hk]
theorem Nq (ht:TT t) {l:List bc} {qs:List aI} {es ss:List (List D)} (aD:es=l.map bc.cells) (hss:ss=qs.map bf) (hl:l.length<1000000000) (hq:qs.length<1000000000) {r:Bool} (hr:r=qs.any (fun q=>decide (bU l q<0))):
 FC 156 [SL ss,.fn 157 [.ptr 0 0]] [.var [SL es]] (.ret (BL r)) [.var [SL es]]:=
 Np ht es hss 157 (fun q=>decide (bU l q<0)) (by omega) (fun x _=>Tl ht x aD hl rfl) hr
theorem HH (ht:TT t) {es:List (List D)} (aD:∀r∈es,r.length=9) (hs:es.length*80≤140737488355328) {m:Nat} (hm:m=es.length):
 FC 158 [SL es] [] (.ret (.ow 0 9 m)) [.row 9 es]:=by
 refine cL ht Tryz.func158 (N:=8) ?_
 cbv
 refine ⟨fun b hb=>?_⟩
 simp only [ht] at hb
 cbv
 apply ap<;>intro h
 ·have he:=hb h
  subst he
  cbv
  exact GN trv rfl rfl (by rw [hm];rfl) rfl
 clear hb h
 cbv
 refine ⟨?_,?_⟩
 ·simp only [ht];simp;exact ⟨hs,aD⟩
 refine Cb trv rfl rfl rfl rfl ?_ ?_
 ·simp only [ht];rw [hm];simp
 simp only [ht];rfl
theorem EQ (ht:TT t) {l:List bc} {es:List (List D)} (aD:es=l.map bc.cells) (hs:l.length<1000000000):
 FC 158 [SL es] [] (.ret (.ow 0 9 (t _ fun _=>(l.map bc.cells).length))) [.row 9 (t _ fun _=>l.map bc.cells)]:=by
 simp only [ht];subst aD
 refine HH ht ?_ ?_ (by simp)
 ·intro r hr;obtain ⟨y,_,rfl⟩:=List.mem_map.1 hr;rfl
 simp;omega
theorem Nr (q:aI):(above q).length≤4:=by
 have h1:=iu q
 have h2:=ki q
 simp only [above,List.length_cons];omega
theorem VX {l:List bc} {qs:List aI} {k:Nat} {x:aI} (h:qs.any (fun q=>decide (bU l q<0))=false) (hx:qs[k]?=some x):∃(i:Nat) (y:bc),bU l x=i∧l[i]?=some y∧i<l.length:=by
 have h1:¬bU l x<0:=by
  intro h2
  have:qs.any (fun q=>decide (bU l q<0))=true:=List.any_eq_true.2 ⟨x,List.mem_of_getElem? hx,by simpa using h2⟩
  rw [h] at this;cases this
 rcases qN (q:=x) (r:=bU l x) rfl with ⟨e1,_,_⟩|⟨i,y,e1,_,e2,e3,_⟩
 ·omega
 exact ⟨i,y,e1,e3,e2⟩
theorem LY (ht:TT t) (f:Nat) (g:bc→bc×Int) (v1 v2 v3 v4:Int) (q:aI) {l:List bc} {es:List (List D)} (aD:es=l.map bc.cells) (hl:l.length<100000) (hq:q.length<1000000000000)
 (hf:∀(p:aI) (a b c d e z g0 h:Int),FC f [V4 v1 v2 v3 v4,.agg [ST p,aB a,aB b,aB c,aB d,aB e,aB z,aB g0,aB h]] [] (.ret (Qx (t _ fun _=>g ⟨p,⟨a,b,c,d⟩,⟨e,z,g0,h⟩⟩))) []):
 FC 104 [SL es,ST q,.fn f [.dV [V4 v1 v2 v3 v4]]] [] (.ret (Bd t (t _ fun _=>pF g l q))) []:=by
 have hal:=Nr q
 obtain ⟨nq,Fk⟩:∃p,p=named q:=⟨_,rfl⟩
 obtain ⟨aq,Yn⟩:∃p,p=above q:=⟨_,rfl⟩
 rw [←Yn] at hal
 refine cL ht Tryz.func104 (N:=55) ?_
 cbv
 have aQ:es.length=l.length:=by rw [aD,lgM]
 refine aP (Bc ht _ ‹_›) trv (fun r0 c8=>?_)
 simp only [ht] at c8
 rw [←Fk] at c8
 subst r0
 cbv
 apply ap<;>intro h1
 ·simp [ht] at h1
  cbv
  refine an ?_
  (simp only [ht,pF,←Fk,←Yn];simp_all;done)
 simp [ht] at h1
 cbv
 refine aC (HE ht _ ‹_›) trv (fun r2 ix=>?_)
 simp only [ht] at ix
 rw [←Yn] at ix
 subst r2
 cbv
 (obtain ⟨r9,jP⟩:∃r,r=aq.any (fun q=>decide (bU l q<0)):=⟨_,rfl⟩;refine dG [0] trv rfl rfl (Nq ht aD (qs:=aq) (by simp only [ht]) (by omega) (by omega) jP) (cD ?_))
 cbv
 apply ap<;>intro h3
 ·cbv
  refine an ?_
  (simp only [ht,pF,←Fk,←Yn];simp_all;done)
 cbv
 refine jV trv (EQ ht ‹_› (by omega)) trv rfl (.inr rfl) ?_
 cbv
 obtain ⟨J4,Oj⟩:∃J4:Nat→Int×List (List D)→Prop,∀n i u,J4 n (i,u)↔(∃(k:Nat) (o:List bc),i=k∧k+n=aq.length∧u=o.map bc.cells∧o.length=l.length∧pF g l q=kj g l (aq.drop k) o):=⟨fun n v=>match v with|(i,u)=>(∃(k:Nat) (o:List bc),i=k∧k+n=aq.length∧u=o.map bc.cells∧o.length=l.length∧pF g l q=kj g l (aq.drop k) o),fun _ _ _=>Iff.rfl⟩
 refine bE ⟨[2,3,9,27,28,29],[],[]⟩ (σ:=Int×List (List D)) (fun v=>[(29,.d (.int .i64 (t _ fun _=>v.1)))]) (fun v=>[(1,.row 9 (t _ fun _=>v.2))]) J4 ?_
 cbv
 refine aF ⟨aq.length,(_,_),(Oj _ _ _).2 ?_,by simp only [ht];rfl,?_⟩
 ·exact ⟨0,l,rfl,by simp,rfl,rfl,by rw [pF,←Fk,←Yn,←jP];simp_all⟩
 rintro n ⟨i,u⟩ hj
 replace hj:=(Oj _ _ _).1 hj
 obtain ⟨k,o,rfl,j1,j2,j3,j4⟩:=hj
 have LP:u.length=o.length:=by rw [j2,lgM]
 cbv
 apply ap<;>intro h5
 ·simp [ht,ah] at h5
  cbv
  (refine kL ht (l:=aq) (cells:=bf) (cT:=eL t) (by simp only [ht];done) (by simp only [ht,ah];omega) (by simp only [ht,ah];omega) (fun _=>rfl) (fun _=>rfl) (fun xn UN=>?_);simp only [ht] at UN;replace UN:aq[k]?=some xn:=UN;rw [gW UN,kj] at j4;obtain ⟨zz,y,e1,e2,e3⟩:=VX (jP.symm.trans ‹_›) UN;rw [e1] at j4;simp only [Int.toNat_natCast,List.getD_eq_getElem?_getD,e2,Option.getD_some] at j4)
  cbv
  refine aP (lT ht _ ‹_› (by omega)) trv (fun r6 ou=>?_)
  simp only [ht] at ou
  rw [e1] at ou
  cbv
  refine yR ht aD (cT:=bc.bw t) e2 ‹_› (fun _=>rfl) (fun _=>rfl) ?_
  cbv
  (refine aP (hf _ _ _ _ _ _ _ _ _) trv (fun rg Zf=>?_);simp only [ht] at Zf;obtain ⟨⟨gp,⟨ga,gb,gc,gd⟩,⟨ge,gf,gg,gh⟩⟩,ge0⟩:=rg;replace Zf:_=g y:=Zf;rw [←Zf] at j4;simp only at j4)
  cbv
  apply ap<;>intro h8
  ·simp [ht] at h8
   cbv
   refine an ?_
   (simp [*];done)
  simp [ht] at h8
  cbv
  refine ⟨?_,?_⟩
  ·(simp only [ht];simp_all;done)
  refine ⟨?_,?_⟩
  ·(simp only [ht];simp_all;done)
  cbv
  refine cr (_,_) (by simp only [ht];rfl) (n-1) ?_ ((Oj _ _ _).2 ?_)
  ·omega
  simp only [ah]
  (refine ⟨k+1,o.set zz ⟨gp,⟨ga,gb,gc,gd⟩,⟨ge,gf,gg,gh⟩⟩,aE (by omega),by omega,?_,by simp [j3],?_⟩<;>simp_all [be,List.map_set])
 simp [ht,ah] at h5
 cbv
 (refine iq trv (by simp only [ht];simp [LP,j3]) rfl rfl rfl ?_;rw [List.drop_eq_nil_of_le (by omega),kj] at j4;simp only [ht,j4,j2];done)
theorem tY (ht:TT t) (q:aI) (v1 v2 v3 v4:Int) {l:List bc} {es:List (List D)} (aD:es=l.map bc.cells) (hl:l.length<100000) (hq:q.length<1000000000000):
 FC 58 [SL es,ST q,V4 v1 v2 v3 v4] [] (.ret (Bd t (t _ fun _=>cY l q ⟨v1,v2,v3,v4⟩))) []:=by
 have hc:=LY ht 105 (fM ⟨v1,v2,v3,v4⟩) v1 v2 v3 v4 q aD hl hq (fun p a b c d e z g0 h=>JZ ht v1 v2 v3 v4 p a b c d e z g0 h)
 refine cL ht Tryz.func58 (N:=16) ?_
 cbv
 have aQ:es.length=l.length:=by rw [aD,lgM]
 (refine aC hc trv (fun r9 jP=>?_);simp only [ht] at jP)
 cbv
 refine an ?_
 (simp [cY, *];done)
theorem J7 (ht:TT t) (q:aI) (v1 v2 v3 v4:Int) {l:List bc} {es:List (List D)} (aD:es=l.map bc.cells) (hl:l.length<100000) (hq:q.length<1000000000000):
 FC 107 [SL es,ST q,V4 v1 v2 v3 v4] [] (.ret (Bd t (t _ fun _=>rR l q ⟨v1,v2,v3,v4⟩))) []:=by
 have hc:=LY ht 159 (eF ⟨v1,v2,v3,v4⟩) v1 v2 v3 v4 q aD hl hq (fun p a b c d e z g0 h=>J5 ht v1 v2 v3 v4 p a b c d e z g0 h)
 refine cL ht Tryz.func107 (N:=16) ?_
 cbv
 have aQ:es.length=l.length:=by rw [aD,lgM]
 (refine aC hc trv (fun r9 jP=>?_);simp only [ht] at jP)
 cbv
 refine an ?_
 (simp [rR, *];done)
def ct.bw (_:Th) (q:ct):List D:=[.int .u64 q.id,.int .i64 q.prio]
def Yo (t:Th) (r:List ct×Int):AV:=.dV [SL (t _ fun _=>r.1.map ct.cells),bF r.2]
def Yp (t:Th) (r:List ct×Bool):AV:=.dV [SL (t _ fun _=>r.1.map ct.cells),BL r.2]
theorem Qy (ht:TT t) (id:Int) {l:List (ct)} {es:List (List D)} (aD:es=l.map ct.cells) (f:Nat) (p:ct→Bool) (hl:l.length<9223372036854775807)
 (hf:∀x∈l,FC f [.agg [aB x.id,bF x.prio],.ptr 0 0] [.var [aB id]] (.ret (BL (p x))) [.var [aB id]]) {r:Int} (hr:r=idxOf p l):FC 162 [SL es,.fn f [.ptr 0 0]] [.var [aB id]] (.ret (bF r)) [.var [aB id]]:=by
 have hel:es.length=l.length:=by rw [aD,lgM]
 refine kM ht (bC:=[.var [aB id]]) Tryz.func162 rfl rfl (N:=19) rfl rfl (n:=1) rfl rfl ?_
 cbv
 refine bE ⟨[0,1,7,8],[],[]⟩ (σ:=Nat) (fun k=>[(8,bF (t _ fun _=>(k:Int)))]) (fun _=>[]) (vL p l) ?_
 cbv
 refine aF ⟨l.length,0,.nil,by simp only [ht];rfl,fun n k hj=>?_⟩
 cbv
 apply ap<;>intro h
 ·simp only [ht,ah,decide_eq_true_eq] at h
  have hk:k<es.length:=by omega
  obtain ⟨x,hx,pK,px,hpx⟩:=hj.get (by omega)
  have iw:=hf x pK
  rw [←hpx] at iw
  obtain ⟨a,b⟩:=x
  cbv
  refine iW [.int .u64 a,.int .i64 b] ?_ ?_ ?_
  ·simp only [ht,ah];exact sB aD hk fun _=>rfl
  ·simp [ht,ah,aD,hx,ct.cells]
  cbv
  refine eE trv iw ?_
  cbv
  apply ap<;>intro hb
  ·cbv
   refine an ?_
   simp only [ht,ah,hr,hj.hit hx (hpx▸hb)]
  cbv
  refine aF ⟨n-1,k+1,⟨hj.lt hx,hj.next hx (hpx▸hb)⟩,?_⟩
  simp only [ht,ah,aE (show k<9223372036854775807 by omega)];rfl
 simp only [ht,ah,decide_eq_false_iff_not] at h
 have hk:l.length≤k:=by omega
 clear h
 cbv
 refine an ?_
 rw [hr,hj.none hk]
theorem Ns (ht:TT t) (id:Int) (x:ct):FC 163 [.agg [aB x.id,bF x.prio],.ptr 0 0] [.var [aB id]] (.ret (BL (decide (x.id=id)))) [.var [aB id]]:=by
 obtain ⟨a,b⟩:=x
 refine kM ht (bC:=[.var [aB id]]) Tryz.func163 rfl rfl (N:=8) rfl rfl (n:=1) rfl rfl ?_
 cbv
 refine an ?_
 simp [ht]
theorem Dj (ht:TT t) (id:Int) {l:List ct} {es:List (List D)} (aD:es=l.map ct.cells) (hl:l.length<1000000000):
 FC 109 [SL es,aB id] [] (.ret (kS (t _ fun _=>nG l id))) []:=by
 obtain ⟨r,hr⟩:∃r,r=nG l id:=⟨_,rfl⟩
 refine cL ht Tryz.func109 (N:=8) ?_
 cbv
 refine eE trv (Qy ht id aD 163 (fun x=>decide (x.id=id)) (by omega) (fun x _=>Ns ht id x) (r:=r) hr) ?_
 cbv
 exact an (by simp [ht,hr])
theorem Nt (ht:TT t) (a b:Int):FC 130 [.agg [aB a,bF b]] [] (.ret (dH (t _ fun _=>kU ⟨a,b⟩))) []:=by
 refine cL ht Tryz.func130 (N:=11) ?_
 cbv
 iterate 3 refine gI (by simp [ht]) ?_
 refine pI (by simp [ht]) ?_
 refine an ?_
 (simp [ht,kU];done)
theorem Nu (ht:TT t) (a b c d:Int):FC 131 [.agg [aB a,bF b],.agg [aB c,bF d]] [] (.ret (dH (t _ fun _=>bQ ⟨a,b⟩ ⟨c,d⟩))) []:=by
 refine cL ht Tryz.func131 (N:=24) ?_
 cbv
 iterate 11 refine gI (by simp [ht]) ?_
 refine gI (by simp [ht,aJ];intros;simp_all) ?_
 refine pI (by simp [ht]) ?_
 refine an ?_
 (simp [ht,bQ];done)
theorem VY {l:List ct} {e x:ct} {k:Nat} (hx:l[k]?=some x) (h:bQ e x=true) (h3:∀i<k,∀y,l[i]?=some y→bQ e y=false):vq l e=k:=by
 simp only [vq];rw [vn hx h h3]
theorem VZ {l:List ct} {e:ct} {k:Nat} (hk:l.length≤k) (h3:∀i<k,∀y,l[i]?=some y→bQ e y=false):vq l e=l.length:=by
 simp only [vq]
 rw [AI]
 intro i y hy
 have:i<l.length:=(List.getElem?_eq_some_iff.1 hy).1
 exact h3 i (by omega) y hy
theorem Qz {l:List ct} {e x:ct} {k:Nat} (h3:∀i<k,∀y,l[i]?=some y→bQ e y=false) (hx:l[k]?=some x) (h:bQ e x=false):∀i<k+1,∀y,l[i]?=some y→bQ e y=false:=by
 intro i hi y hy
 rcases Nat.lt_or_ge i k with h1|h1
 ·exact h3 i h1 y hy
 have:i=k:=by omega
 subst this;rw [hx] at hy;cases hy;exact h
theorem V0 (ht:TT t) (a b:Int) {l:List ct} {es:List (List D)} (aD:es=l.map ct.cells) (hl:l.length<1000000000):
 FC 141 [.agg [.fn 131 []],SL es,.agg [aB a,bF b]] [] (.ret (kS (t _ fun _=>(vq l ⟨a,b⟩:Int)))) []:=by
 refine cL ht Tryz.func141 (N:=25) ?_
 cbv
 have aQ:es.length=l.length:=by rw [aD,lgM]
 obtain ⟨J0,fK⟩:∃J0:Nat→Int→Prop,∀n i,J0 n i↔(∃k:Nat,i=k∧k+n=l.length∧∀i<k,∀y,l[i]?=some y→bQ ⟨a,b⟩ y=false):=⟨fun n v=>match v with|i=>(∃k:Nat,i=k∧k+n=l.length∧∀i<k,∀y,l[i]?=some y→bQ ⟨a,b⟩ y=false),fun _ _=>Iff.rfl⟩
 refine bE ⟨[1,3,5,9,10,11],[],[]⟩ (σ:=Int) (fun v=>[(11,.d (.int .i64 (t _ fun _=>v)))]) (fun v=>[]) J0 ?_
 cbv
 refine aF ⟨l.length,_,(fK _ _).2 ?_,by simp only [ht];rfl,?_⟩
 ·exact ⟨0,rfl,by simp,fun i hi=>by omega⟩
 rintro n i hj
 replace hj:=(fK _ _).1 hj
 obtain ⟨k,rfl,j1,j4⟩:=hj
 cbv
 apply ap<;>intro h1
 ·simp [ht,ah,aQ] at h1
  cbv
  refine kL ht aD (cT:=ct.bw t) (by (simp only [ht,ah];omega)) (by (simp only [ht,ah];omega)) (fun _=>rfl) (fun _=>rfl) (fun x2 oc=>?_)
  simp [ht,ah] at oc
  cbv
  refine aP (Nu ht _ _ _ _) trv (fun r3 lm=>?_)
  simp only [ht] at lm
  cbv
  apply ap<;>intro h4
  ·cbv
   refine an ?_
   (simp only [ht];rw [VY oc (by rw [h4] at lm;exact lm.symm) j4])
  cbv
  refine cr _ (by simp only [ht];rfl) (n-1) ?_ ((fK _ _).2 ?_)
  ·omega
  simp only [ah]
  exact ⟨k+1,aE (by omega),by omega,Qz j4 ‹_› (by simp_all)⟩
 simp [ht,ah,aQ] at h1
 cbv
 refine an ?_
 (simp only [ht];rw [VZ (by omega) j4];simp [aD];done)
theorem J9 (ht:TT t) {es:List (List D)} (aD:∀r∈es,r.length=2) (hs:es.length*16≤140737488355328) {m:Nat} (hm:m=es.length):
 FC 140 [SL es] [] (.ret (.ow 0 2 m)) [.row 2 es]:=by
 refine cL ht Tryz.func140 (N:=8) ?_
 cbv
 refine ⟨fun b hb=>?_⟩
 simp only [ht] at hb
 cbv
 apply ap<;>intro h
 ·have he:=hb h
  subst he
  cbv
  exact GN trv rfl rfl (by rw [hm];rfl) rfl
 clear hb h
 cbv
 refine ⟨?_,?_⟩
 ·simp only [ht];simp;exact ⟨hs,aD⟩
 refine Cb trv rfl rfl rfl rfl ?_ ?_
 ·simp only [ht];rw [hm];simp
 simp only [ht];rfl
theorem ER (ht:TT t) {es:List (List D)} {x:D} {row:List D} {i n c:Nat} (hn:n=es.length) (hi:i≤n) (hc:n≤c) (hc0:n=0→c=0) (aD:∀r∈es,r.length=2) (hrow:(x::row).length=2) (hs:n<1000000) {r:List (List D)} (hr:r=es.take i++(x::row)::es.drop i):
 FC 139 [.vw 0 2 0 n c true,bF (i:Int),SL [x::row]] [.row 2 es] (.ret (SL r)) [.dead]:=by
 obtain ⟨n1,Ac⟩:∃n1,n1=n+1:=⟨_,rfl⟩
 obtain ⟨i1,hi1⟩:∃i1,i1=i+1:=⟨_,rfl⟩
 obtain ⟨ni,hni⟩:∃ni,ni=n-i:=⟨_,rfl⟩
 obtain ⟨ci,pN⟩:∃ci,ci=c-i:=⟨_,rfl⟩
 obtain ⟨w9,JO⟩:∃w9,w9=c-i1:=⟨_,rfl⟩
 obtain ⟨o7,tW⟩:∃o7,o7=n1-i:=⟨_,rfl⟩
 have hW:∀P:Prop,((IntKind.i64.wrap ((n:Int)+1)=(n1:Int))→(IntKind.i64.wrap ((n1:Int)-(i:Int))=(o7:Int))→(IntKind.i64.wrap ((i:Int)+1)=(i1:Int))→P)→P:=
  fun P h=>h (by rw [wrap64 (by omega) (by omega)];omega) (by rw [wrap64 (by omega) (by omega)];omega) (by rw [wrap64 (by omega) (by omega)];omega)
 have hrl:r.length=n1:=by rw [hr,List.length_append,List.length_cons,List.length_take,List.length_drop];omega
 have VJ:n≠0→FC 184 [SL [x::row],.vw 0 2 i1 ni w9 true] [.row 2 es] (.ret (BL false)) [.row 2 es]:=fun h0=>
  iE UC Tryz.func184 rfl rfl rfl rfl (tS:=31) (tR:=4) rfl rfl (by intro h;rw [h] at hn;exact h0 hn)
 refine kM ht (bC:=[.row 2 es]) Tryz.func139 rfl rfl (N:=95) rfl rfl (n:=1) rfl rfl ?_
 cbv
 refine bH (.vw 0 2 i ni ci true) [.row 2 es] ?_ ?_ rfl ?_
 ·simp [ht,dJ,bO];omega
 ·simp [ht,aW,aT,hni,pN]
 cbv
 refine pE (by simp [ht]) ?_
 cbv
 apply ap<;>intro h
 ·have hin:i=n:=by simp [ht,ah] at h;omega
  clear h
  cbv
  refine bH (.ow 1 2 n1) [.dead,.row 2 r] ?_ ?_ ?_ ?_
  ·simp only [ht]
   refine ⟨⟨hn,by simp;omega,?_⟩,rfl,hn,fun h=>⟨hc0 (by rw [hn,h];rfl),rfl⟩⟩
   intro r hr
   rcases List.mem_append.1 hr with hr|hr
   ·exact aD r hr
   simp at hr;subst hr;exact hrow
  ·simp [ht,Ac,hn]
  ·simp only [ht];rw [hr]
   have:i=es.length:=by omega
   subst this;simp
  cbv
  refine iq trv ?_ rfl rfl rfl rfl
  simp only [ht];exact hrl.symm
 have hin:i<n:=by simp [ht,ah] at h;omega
 clear h
 have A8:r=(r.drop 0).take n1:=by rw [List.drop_zero,List.take_of_length_le (by omega)]
 cbv
 apply ap<;>intro h2
 ·have VK:c=n:=by
   refine hW _ fun e1 e2 e3=>?_
   simp [ht,ah,e1] at h2;omega
  clear h2
  obtain ⟨L,hL⟩:∃L:List (List D),L=es.take i++List.replicate (es.length+1-i) [D.int IntKind.u64 0,D.int IntKind.i64 0]:=⟨_,rfl⟩
  have Iz:L.length=n1:=by rw [hL];simp;omega
  obtain ⟨L1,tX⟩:∃L1,L1=wrote L i [x::row]:=⟨_,rfl⟩
  have mF:L1.length=n1:=by rw [tX];simp [wrote,Iz];omega
  have oG:r=wrote L1 i1 (es.drop i):=by rw [hi1,tX,hL,vM (by omega),hr]
  cbv
  refine bH (.vw 0 2 0 i c true) [.row 2 es] ?_ ?_ rfl ?_
  ·simp [ht,dJ,bO];omega
  ·simp [ht,aW,aT]
  cbv
  refine bH (.vw 1 2 0 n1 n1 false) [.row 2 es,.row 2 L] ?_ ?_ ?_ ?_
  ·refine hW _ fun e1 e2 e3=>?_
   simp [ht,ah,e1,e2];omega
  ·refine hW _ fun e1 e2 e3=>?_
   simp [ht,ah,e1,e2];omega
  ·refine hW _ fun e1 e2 e3=>?_
   simp [ht,ah,e1,e2,hL];omega
  cbv
  refine bH (.vw 1 2 i o7 o7 false) [.row 2 es,.row 2 L] ?_ ?_ rfl ?_
  ·simp [ht,dJ,bO];omega
  ·simp [ht,aW,aT,tW]
  cbv
  refine bH (bF 1) [.row 2 es,.row 2 L1] ?_ ?_ ?_ ?_
  ·simp only [ht,eO]
   refine ⟨⟨by omega,?_⟩,?_⟩
   ·intro h;rw [h] at Iz;simp at Iz;omega
   intro r hr;have:=List.mem_of_mem_take hr;simp at this;rw [this];exact hrow
  ·simp [ht,ah];omega
  ·simp [ht,tX,show min 1 o7=1 by omega]
  cbv
  refine cE [false,false,false,false,false,false,false,false,true] ?_
  cbv
  repeat (refine gI (by (simp;done)) ?_)
  refine ij (.vw 1 2 i1 ni ni false) (fun _=>⟨?_,?_⟩) ?_
  ·refine hW _ fun e1 e2 e3=>?_
   simp [ht,ah,e3,dJ,bO];omega
  ·refine hW _ fun e1 e2 e3=>?_
   simp [ht,ah,e3,aW,aT];omega
  cbv
  repeat (refine gI (by (simp;done)) ?_)
  refine ij (.vw 0 2 i ni ci true) (fun _=>⟨?_,?_⟩) ?_
  ·simp [ht,dJ,bO];omega
  ·simp [ht,aW,aT,hni,pN]
  cbv
  refine bH (bF (ni:Nat)) [.row 2 es,.row 2 r,.bt] ?_ ?_ ?_ ?_
  ·simp only [ht,eO]
   refine ⟨by omega,⟨by omega,?_⟩,?_⟩
   ·intro h;rw [h] at mF;simp at mF;omega
   intro r hr;exact aD r (List.mem_of_mem_drop (List.mem_of_mem_take hr))
  ·simp [ht,ah]
  ·simp only [ht,oG]
   rw [List.take_of_length_le (by simp;omega)]
  cbv
  refine yQ [true] trv ?_ rfl rfl rfl ?_
  ·simp only [ht];omega
  simp only [ht];rw [←A8]
 have VK:n<c:=by
  refine hW _ fun e1 e2 e3=>?_
  simp [ht,ah,e1] at h2;omega
 clear h2
 obtain ⟨L1,tX⟩:∃L1,L1=wrote es i1 (es.drop i):=⟨_,rfl⟩
 have oG:r=wrote L1 i [x::row]:=by rw [tX,hi1,EF (by omega),hr]
 have mF:L1.length=n1:=by rw [tX];simp [wrote];omega
 cbv
 refine bH (.vw 0 2 0 n1 c true) [.row 2 es] ?_ ?_ rfl ?_
 ·refine hW _ fun e1 e2 e3=>?_
  simp [ht,ah,e1,dJ,bO];omega
 ·refine hW _ fun e1 e2 e3=>?_
  simp [ht,ah,e1,aW,aT]
 cbv
 refine bH (.vw 0 2 i1 ni w9 true) [.row 2 es] ?_ ?_ rfl ?_
 ·refine hW _ fun e1 e2 e3=>?_
  simp [ht,ah,e3,dJ,bO];omega
 ·refine hW _ fun e1 e2 e3=>?_
  simp [ht,ah,e3,aW,aT];omega
 cbv
 refine eE trv (VJ (by omega)) ?_
 cbv
 refine ld (by simp [ht]) ?_
 cbv
 refine cE [false,false,false,false,false,false,false,false,true] ?_
 cbv
 repeat (refine gI (by (simp;done)) ?_)
 refine ij (.vw 0 2 i1 ni w9 true) (fun _=>⟨?_,?_⟩) ?_
 ·refine hW _ fun e1 e2 e3=>?_
  simp [ht,ah,e3,dJ,bO];omega
 ·refine hW _ fun e1 e2 e3=>?_
  simp [ht,ah,e3,aW,aT];omega
 cbv
 repeat (refine gI (by (simp;done)) ?_)
 refine ij (.vw 0 2 i o7 ci true) (fun _=>⟨?_,?_⟩) ?_
 ·simp [ht,dJ,bO];omega
 ·simp [ht,aW,aT,tW,pN]
 cbv
 refine bH (bF (ni:Nat)) [.row 2 L1,.bt] ?_ ?_ ?_ ?_
 ·simp only [ht,eO]
  refine ⟨by omega,⟨by omega,?_⟩,?_⟩
  ·intro h;rw [h] at hn;simp at hn;omega
  intro r hr;exact aD r (List.mem_of_mem_drop (List.mem_of_mem_take hr))
 ·simp [ht,ah];omega
 ·simp only [ht,tX]
  rw [List.take_of_length_le (by simp;omega)]
 cbv
 refine bH (.vw 0 2 i o7 ci true) [.row 2 L1,.bt] ?_ ?_ rfl ?_
 ·simp [ht,dJ,bO];omega
 ·simp [ht,aW,aT,tW,pN]
 cbv
 refine bH (bF 1) [.row 2 r,.bt] ?_ ?_ ?_ ?_
 ·simp only [ht,eO]
  refine ⟨⟨by omega,?_⟩,?_⟩
  ·intro h;rw [h] at mF;simp at mF;omega
  intro r hr;have:=List.mem_of_mem_take hr;simp at this;rw [this];exact hrow
 ·simp [ht,ah];omega
 ·simp [ht,oG,show min 1 o7=1 by omega]
 cbv
 refine yQ [true] trv ?_ rfl rfl rfl ?_
 ·simp only [ht];omega
 simp only [ht];rw [←A8]
theorem HI (ht:TT t) {es:List (List D)} {x:D} {row:List D} {i n:Nat} (hn:n=es.length) (hi:i≤n) (aD:∀r∈es,r.length=2) (hrow:(x::row).length=2) (hs:n<1000000) {r:List (List D)} (hr:r=es.take i++(x::row)::es.drop i):
 FC 139 [.ow 0 2 n,bF (i:Int),SL [x::row]] [.row 2 es] (.ret (SL r)) [.dead]:=
 dR fun c hc hc0=>ER ht hn hi hc hc0 aD hrow hs hr
theorem HJ (ht:TT t) {l:List ct} {es:List (List D)} (aD:es=l.map ct.cells) (hs:l.length<1000000000):
 FC 140 [SL es] [] (.ret (.ow 0 2 (t _ fun _=>(l.map ct.cells).length))) [.row 2 (t _ fun _=>l.map ct.cells)]:=by
 simp only [ht];subst aD
 refine J9 ht ?_ ?_ (by simp)
 ·intro r hr;obtain ⟨y,_,rfl⟩:=List.mem_map.1 hr;rfl
 simp;omega
theorem ES (ht:TT t) {l:List ct} {x:ct} {k:Nat} {i:Int} (hi:i=k) (hk:k≤l.length) (hl:l.length<1000000):
 FC 139 [.ow 0 2 (t _ fun _=>(l.map ct.cells).length),bF i,.cl [ct.cells x]] [.row 2 (t _ fun _=>l.map ct.cells)] (.ret (SL (t _ fun _=>(l.take k++x::l.drop k).map ct.cells))) [.dead]:=by
 simp only [ht];subst hi
 refine oT (args':=[.ow 0 2 (l.map ct.cells).length,bF k,SL [ct.cells x]]) ?_ (HI ht (by simp) (by simpa using hk) ?_ rfl (by simpa using hl) (by simp [ct.cells]))
 ·intro β w ok vs h
  simp only [ak] at h ⊢
  obtain ⟨u1,Y8,rfl,h1,u2,OI,rfl,h2,u3,VQ,rfl,h3,h4⟩:=h
  exact ⟨u1,_,rfl,h1,u2,_,rfl,h2,u3,VQ,rfl,LA h3,h4⟩
 intro r hr;obtain ⟨y,_,rfl⟩:=List.mem_map.1 hr;rfl
theorem V1 (l:List ct) (e:ct):vq l e≤l.length:=by
 unfold vq
 cases h:l.findIdx? (fun x=>bQ e x) with
 |none=>exact Nat.le_refl _
 |some k=>exact Nat.le_of_lt (List.findIdx?_eq_some_iff_getElem.1 h).1
theorem Bf (ht:TT t) (a b:Int) {l:List ct} {es:List (List D)} (aD:es=l.map ct.cells) (hl:l.length<1000000):
 FC 91 [SL es,.agg [aB a,bF b]] [] (.ret (Yo t (t _ fun _=>jW l ⟨a,b⟩))) []:=by
 have hq:=V1 l ⟨a,b⟩
 obtain ⟨qa,hqa⟩:∃n,n=vq l ⟨a,b⟩:=⟨_,rfl⟩
 refine cL ht Tryz.func91 (N:=31) ?_
 cbv
 have aQ:es.length=l.length:=by rw [aD,lgM]
 refine aP (Nt ht _ _) trv (fun r0 c8=>?_)
 simp only [ht] at c8
 cbv
 apply ap<;>intro h1
 ·cbv
  refine an ?_
  (simp only [ht];simp_all [jW];done)
 cbv
 refine aP (Dj ht _ ‹_› (by omega)) trv (fun r2 ix=>?_)
 simp only [ht] at ix
 cbv
 apply ap<;>intro h3
 ·simp [ht] at h3
  cbv
  refine an ?_
  (simp only [ht];simp_all [jW];done)
 simp [ht] at h3
 cbv
 apply ap<;>intro h4
 ·simp [ht,ah,aQ] at h4
  cbv
  refine an ?_
  (simp only [ht,jW];grind)
 simp [ht,ah,aQ] at h4
 cbv
 refine cE [false,false,false,false,false,false,false,false,true,true,true] ?_
 cbv
 refine gI (by simp) ?_
 refine .inr (GM trv (HJ ht ‹_› (by omega)) trv rfl (.inr rfl) rfl ?_)
 cbv
 iterate 3 refine gI (by simp) ?_
 refine .inl ?_
 refine eR (fun g5=>⟨trv,trv,V0 ht _ _ ‹_› (by omega)⟩) rfl rfl (fun r6 ou=>?_)
 simp only [ht] at ou
 rw [←hqa] at ou
 cbv
 iterate 2 refine gI (by simp) ?_
 refine dG [1] trv rfl rfl (ES ht (l:=l) (x:=⟨a,b⟩) (k:=qa) ‹_› (by omega) (by omega)) (cD ?_)
 cbv
 refine an ?_
 (simp only [ht,jW];grind)
def fZ (t:Th) (s:aU):AV:=.agg [aB s.round,aB s.next,SL (t _ fun _=>s.aG.nodes.map Node.cells),SL (t _ fun _=>s.aG.places.map Place.cells),SL (t _ fun _=>s.tree.map bc.cells),SL (t _ fun _=>s.av.map Jb.cells),SL (t _ fun _=>s.queue.map ct.cells),aB s.ev.first,SL (t _ fun _=>s.ev.l.map dU.cells),aB s.au.first,SL (t _ fun _=>s.au.l.map dU.cells)]
def LZ (t:Th) (r:aU×Int):AV:=.dV [fZ t r.1,bF r.2]
def QA (t:Th) (r:aU×Int×Int):AV:=.dV [fZ t r.1,aB r.2.1,bF r.2.2]
theorem og (ht:TT t) (rd nx ef af id kd:Int) {nl:List Node} {pl:List Place} {tl:List bc} {jl:List Jb} {ql:List ct} {el al:List dU} {ns ps ts js qs es cu:List (List D)}
 (fI:ns=nl.map Node.cells) (hps:ps=pl.map Place.cells) (hts:ts=tl.map bc.cells) (eW:js=jl.map Jb.cells) (dZ:qs=ql.map ct.cells) (aD:es=el.map dU.cells) (has:cu=al.map dU.cells) (hel:el.length<1000000):
 FC 65 [.agg [aB rd,aB nx,SL ns,SL ps,SL ts,SL js,SL qs,aB ef,SL es,aB af,SL cu],aB id,bF kd] [] (.ret (fZ t (t _ fun _=>iM ⟨rd,nx,⟨nl,pl⟩,tl,jl,ql,⟨ef,el⟩,⟨af,al⟩⟩ id kd))) []:=by
 obtain ⟨⟨f9,l9⟩,h9⟩:∃r,r=tell ⟨ef,el⟩ ⟨rd,id,kd⟩:=⟨_,rfl⟩
 refine cL ht Tryz.func65 (N:=17) ?_
 cbv
 obtain ⟨dS,eU,ej,eV,cW,aQ,dw⟩:=gF fI hps hts eW dZ aD has
 refine aC (Tc ht _ _ _ _ ‹_› ‹_›) trv (fun r0 c8=>?_)
 simp only [ht] at c8
 rw [←h9] at c8
 subst r0
 cbv
 refine an ?_
 (simp only [ht,iM];grind)
theorem L0 (ht:TT t):FC 38 [] [] (.ret (fZ t (t _ fun _=>Cg))) []:=by
 refine cL ht Tryz.func38 (N:=4) ?_
 cbv
 refine aC (Ti ht _ _ _ _) trv (fun r0 c8=>?_)
 simp only [ht] at c8
 cbv
 refine an ?_
 (simp [Cg,aU.zero,bG.zero, *];done)
theorem tZ (ht:TT t) {es:List (List D)} (aD:∀r∈es,r.length=12) (hs:es.length*120≤140737488355328) {m:Nat} (hm:m=es.length):
 FC 45 [SL es] [] (.ret (.ow 0 12 m)) [.row 12 es]:=by
 refine cL ht Tryz.func45 (N:=8) ?_
 cbv
 refine ⟨fun b hb=>?_⟩
 simp only [ht] at hb
 cbv
 apply ap<;>intro h
 ·have he:=hb h
  subst he
  cbv
  exact GN trv rfl rfl (by rw [hm];rfl) rfl
 clear hb h
 cbv
 refine ⟨?_,?_⟩
 ·simp only [ht];simp;exact ⟨hs,aD⟩
 refine Cb trv rfl rfl rfl rfl ?_ ?_
 ·simp only [ht];rw [hm];simp
 simp only [ht];rfl
theorem nu (ht:TT t) {l:List Jb} {es:List (List D)} (aD:es=l.map Jb.cells) (hs:l.length<1000000):
 FC 45 [SL es] [] (.ret (.ow 0 12 (t _ fun _=>(l.map Jb.cells).length))) [.row 12 (t _ fun _=>l.map Jb.cells)]:=by
 simp only [ht];subst aD
 refine tZ ht ?_ ?_ (by simp)
 ·intro r hr;obtain ⟨y,_,rfl⟩:=List.mem_map.1 hr;rfl
 simp;omega
theorem Nv:∀c<8,∀i<4,(fc (c*32) i).nodes.length≤4:=by decide+kernel
theorem Bg {N i:Nat} (hN:N<256) (hi:i<4):(fc N i).nodes.length<1000000000:=by
 rw [Hh]
 have:=Nv (N / 32) (by omega) i hi
 omega
theorem Ka:∀k,∀p∈A6 k,p.sm:=by
 intro k p hp
 unfold A6 at hp
 split at hp
 ·rw [List.mem_singleton.1 hp]
  rename_i h
  have:k=0∨k=1:=by omega
  rcases this with rfl|rfl<;>exact ⟨by decide,by decide⟩
 cases hp
theorem QB:∀k<3,∀N<256,(((N:Nat):Int).fdiv (2^min (IntKind.i64.wrap (5+((k:Nat):Int))).toNat IntKind.u8.bits)).tmod 2=0↔SZ N k=true:=by decide+kernel
theorem xg {a z:Int} {N k:Nat} (hN:N<256) (ea:a=N) (h:(a.fdiv (2^min (IntKind.i64.wrap z).toNat IntKind.u8.bits)).tmod 2=0) (hk:k<3) (hz:z=5+((k:Nat):Int)):SZ N k=true:=by
 subst ea hz;exact (QB k hk N hN).1 h
theorem Dk {a z:Int} {N k:Nat} (hN:N<256) (ea:a=N) (h:¬(a.fdiv (2^min (IntKind.i64.wrap z).toNat IntKind.u8.bits)).tmod 2=0) (hk:k<3) (hz:z=5+((k:Nat):Int)):¬SZ N k=true:=by
 subst ea hz;exact fun g=>h ((QB k hk N hN).2 g)
theorem oh {N k:Nat} {nm:aI} {w:Int} {r:cA×Int} (h:r=qz ⟨(fc N k).nodes,(fc N k).places⟩ ⟨nm,⟨w,9,9,9⟩,A6 k,false⟩) (hnm:nm=kV.getD k []) (hw:w=((4+2*k:Nat):Int)) (hu:SZ N k=true):fc N (k+1)=r.1:=by
 subst hw hnm h;rw [fc,if_pos hu]
theorem rZ {N k:Nat} (hu:¬SZ N k=true):fc N (k+1)=fc N k:=by rw [fc,if_neg hu]
theorem Bh:∀k<3,∀m<5,IntKind.u64.wrap (IntKind.i64.wrap (IntKind.i64.wrap (6+IntKind.i64.wrap (4*((k:Nat):Int)))+IntKind.i64.wrap ((m:Nat):Int)))=((6+4*k+m:Nat):Int):=by decide+kernel
theorem xj {m k:Nat} {p:aI} {w:Int} {r:List bc×Int} (h:r=vt (qK m k) p ⟨w,20,20,20⟩) (hp:p=UH.getD k []) (hw:w=((6+4*k+m:Nat):Int)):r.1=qK m (k+1):=by subst hw hp h;rfl
theorem vS (ht:TT t) (k a b c d:Int) (x:jU) (hx:x.u) (hk:k=x.kind) (ha:a=x.a) (hb:b=x.b) (hc:c=x.c) (hd:d=x.d):
 FC 111 [.agg [U8 k,U8 a,U8 b,U8 c,U8 d]] [] (.ret (aao t (t _ fun _=>Ch x))) []:=by
 obtain ⟨u1,u2,u3,u4,u5⟩:=hx
 obtain ⟨nm,hnm⟩:∃nm,nm=A5.getD (x.a%4) []:=⟨_,rfl⟩
 have w1:IntKind.u64.wrap (b.tmod 5)=((x.b%5:Nat):Int):=by rw [hb,WR,S9 _ (by omega)]
 have w2:IntKind.u64.wrap ((IntKind.u8.wrap (b.tdiv 5)).tmod 5)=((x.b / 5%5:Nat):Int):=by rw [hb,td5,wu8 _ (by omega),WR,S9 _ (by omega)]
 have w3:IntKind.u64.wrap ((IntKind.u8.wrap (b.tdiv 25)).tmod 3)=((x.b / 25%3:Nat):Int):=by rw [hb,aam,wu8 _ (by omega),tm3,S9 _ (by omega)]
 have w4:IntKind.i64.wrap (1+IntKind.i64.wrap (c.tmod 3))=((1+x.c%3:Nat):Int):=by rw [hc,tm3,M4 _ (by omega),show (1:Int)+((x.c%3:Nat):Int)=((1+x.c%3:Nat):Int) by omega,M4 _ (by omega)]
 have w5:IntKind.i64.wrap ((IntKind.u8.wrap (c.tdiv 3)).tmod 4)=((x.c / 3%4:Nat):Int):=by rw [hc,td3,wu8 _ (by omega),tm4,M4 _ (by omega)]
 have w6:IntKind.i64.wrap (1+IntKind.i64.wrap (d.tmod 5))=((1+x.d%5:Nat):Int):=by rw [hd,WR,M4 _ (by omega),show (1:Int)+((x.d%5:Nat):Int)=((1+x.d%5:Nat):Int) by omega,M4 _ (by omega)]
 have w7:decide (d.tmod 2=1)=decide (x.d%2=1):=by rw [decide_eq_decide,hd,tm2];omega
 refine cL ht Tryz.func111 (N:=53) ?_
 cbv
 refine cE [false,false,false,false,false,false,false,false,false,false,false,false,false,false,false,false,false,false,false,false,false,false,false,false,false,false,false,false,false,false,false,false,false,false,false,false,false,false,true] ?_
 cbv
 iterate 3 refine gI (by simp) ?_
 refine gI (by simp [ht]) ?_
 (refine iW [.str nm] (by simp only [ht,ha,tm4];exact Qi x.a) (by simp only [ht,ha,tm4];rw [hnm];exact Qj x.a) ?_)
 cbv
 iterate 3 refine gI (by simp) ?_
 refine gI (by simp [ht]) ?_
 iterate 3 refine gI (by simp) ?_
 iterate 2 refine gI (by simp [ht]) ?_
 iterate 3 refine gI (by simp) ?_
 iterate 2 refine gI (by simp [ht]) ?_
 iterate 4 refine gI (by simp) ?_
 refine gI (by simp [ht]) ?_
 iterate 4 refine gI (by simp) ?_
 iterate 2 refine gI (by simp [ht]) ?_
 iterate 3 refine gI (by simp) ?_
 refine gI (by simp [ht]) ?_
 iterate 3 refine gI (by simp) ?_
 apply ap<;>intro h0
 ·simp [ht] at h0
  cbv
  refine ⟨?_,?_⟩
  ·(simp only [ht,ah] at*;omega)
  cbv
  refine an ?_
  (simp only [ht,w1,w2,w3,w4,w5,w6,w7,hnm,Ch];rw [if_pos (show 200<x.d by ((try simp only [ah] at*);omega))];rfl)
 simp [ht] at h0
 cbv
 refine an ?_
 (simp only [ht,w1,w2,w3,w4,w5,w6,hnm,Ch];rw [if_neg (show ¬200<x.d by ((try simp only [ah] at*);omega))];rfl)
theorem yB (ht:TT t) (N:Nat) (hN:N<256) {a:Int} (ea:a=N):FC 67 [.d (.int .u8 a)] [] (.ret (fZ t (t _ fun _=>jL N))) []:=by
 have hm:N%5<5:=Nat.mod_lt _ (by decide)
 have hl0:=P7 (N%5) hm
 refine cL ht Tryz.func67 (N:=81) ?_
 cbv
 refine aC (L0 ht) trv (fun r0 c8=>?_)
 simp only [ht] at c8
 cbv
 ((refine aC (zq ht _ _ _ _ _ (l:=[⟨[],bG.zero,bG.zero⟩]) (by simp only [ht,c8];rfl) (by decide) (by decide) (by decide)) (by simp) (fun r1 cR=>?_)))
 cbv
 obtain ⟨J1,oe⟩:∃J1:Nat→Int×List (List D)→Prop,∀m i tr,J1 m (i,tr)↔((i=0∧m=3∧tr=(qK (N%5) 0).map bc.cells)∨(i=1∧m=2∧tr=(qK (N%5) 1).map bc.cells)∨(i=2∧m=1∧tr=(qK (N%5) 2).map bc.cells)∨(i=3∧m=0∧tr=(qK (N%5) 3).map bc.cells)):=⟨fun m v=>match v with|(i,tr)=>((i=0∧m=3∧tr=(qK (N%5) 0).map bc.cells)∨(i=1∧m=2∧tr=(qK (N%5) 1).map bc.cells)∨(i=2∧m=1∧tr=(qK (N%5) 2).map bc.cells)∨(i=3∧m=0∧tr=(qK (N%5) 3).map bc.cells)),fun _ _ _=>Iff.rfl⟩
 refine bE ⟨[0,2,3,18,19,20],[],[]⟩ (σ:=Int×List (List D)) (fun v=>[(20,.d (.int .i64 (t _ fun _=>v.1)))]) (fun v=>[(1,.var [AV.d (D.int IntKind.u64 r0.1),AV.d (D.int IntKind.u64 r0.2),AV.d (D.sl (t (List (List D)) fun x=>List.map (fun x=>[D.str (Node.name x),D.int IntKind.u64 (bG.a (Node.cap x)),D.int IntKind.u64 (bG.b (Node.cap x)),D.int IntKind.u64 (bG.c (Node.cap x)),D.int IntKind.u64 (bG.d (Node.cap x)),D.sl (List.map (fun p=>[D.str (dh.key p),D.str (dh.value p)]) (Node.labels x)),D.bool (Node.up x)]) (cA.nodes (aU.aG r0)))),AV.d (D.sl (t (List (List D)) fun x=>List.map (fun x=>[D.int IntKind.u64 (Place.bz x),D.str (Place.node x),D.int IntKind.u64 (bG.a (Place.v x)),D.int IntKind.u64 (bG.b (Place.v x)),D.int IntKind.u64 (bG.c (Place.v x)),D.int IntKind.u64 (bG.d (Place.v x))]) (cA.places (aU.aG r0)))),.d (.sl (t _ fun _=>v.2)),AV.d (D.sl (t (List (List D)) fun x=>List.map Jb.cells (aU.av r0))),AV.d (D.sl (t (List (List D)) fun x=>List.map ct.cells (aU.queue r0))),AV.d (D.int IntKind.u64 r0.7.1),AV.d (D.sl (t (List (List D)) fun x=>List.map dU.cells (Cf.l (aU.ev r0)))),AV.d (D.int IntKind.u64 r0.8.1),AV.d (D.sl (t (List (List D)) fun x=>List.map dU.cells (Cf.l (aU.au r0))))])]) J1 ?_
 cbv
 refine aF ⟨3,(_,_),(oe _ _ _).2 ?_,by simp only [ht];rfl,?_⟩
 ·exact .inl ⟨rfl,rfl,by simp only [ht,cR];rfl⟩
 rintro m ⟨i,tr⟩ hj
 replace hj:=(oe _ _ _).1 hj
 (rcases hj with ⟨rfl,jm,jt⟩|⟨rfl,jm,jt⟩|⟨rfl,jm,jt⟩|⟨rfl,jm,jt⟩)
 ·cbv
  apply ap<;>intro h2
  ·simp [ht] at h2
   cbv
   ((refine iW [.str [97]] (by simp only [ht];decide) (by simp only [ht];rfl) ?_))
   cbv
   refine ⟨?_,?_⟩
   ·(simp only [ht];decide)
   cbv
   ((refine aC (zq ht _ _ _ _ _ (l:=qK (N%5) 0) (by simp only [ht];exact jt) (by have:=hl0 0 (by decide);((try simp only [ah] at*);omega)) (by decide) (by decide)) (by simp) (fun r2 ix=>?_)))
   cbv
   refine cr (_,_) (by simp only [ht];rfl) (m-1) ?_ ((oe _ _ _).2 ?_)
   ·omega
   exact .inr (.inl ⟨by rw [lK (by decide) (by decide)];rfl,by omega,congrArg _ (xj (k:=0) (ix.trans (ht _ _)) rfl (by simp only [ht,ea,WR];exact Bh 0 (by decide) _ hm))⟩)
  simp [ht] at h2
 ·cbv
  apply ap<;>intro h3
  ·simp [ht] at h3
   cbv
   ((refine iW [.str [97,47,98]] (by simp only [ht];decide) (by simp only [ht];rfl) ?_))
   cbv
   refine ⟨?_,?_⟩
   ·(simp only [ht];decide)
   cbv
   ((refine aC (zq ht _ _ _ _ _ (l:=qK (N%5) 1) (by simp only [ht];exact jt) (by have:=hl0 1 (by decide);((try simp only [ah] at*);omega)) (by decide) (by decide)) (by simp) (fun r2 ix=>?_)))
   cbv
   refine cr (_,_) (by simp only [ht];rfl) (m-1) ?_ ((oe _ _ _).2 ?_)
   ·omega
   exact .inr (.inr (.inl ⟨by rw [lK (by decide) (by decide)];rfl,by omega,congrArg _ (xj (k:=1) (ix.trans (ht _ _)) rfl (by simp only [ht,ea,WR];exact Bh 1 (by decide) _ hm))⟩))
  simp [ht] at h3
 ·cbv
  apply ap<;>intro h4
  ·simp [ht] at h4
   cbv
   ((refine iW [.str [98]] (by simp only [ht];decide) (by simp only [ht];rfl) ?_))
   cbv
   refine ⟨?_,?_⟩
   ·(simp only [ht];decide)
   cbv
   ((refine aC (zq ht _ _ _ _ _ (l:=qK (N%5) 2) (by simp only [ht];exact jt) (by have:=hl0 2 (by decide);((try simp only [ah] at*);omega)) (by decide) (by decide)) (by simp) (fun r2 ix=>?_)))
   cbv
   refine cr (_,_) (by simp only [ht];rfl) (m-1) ?_ ((oe _ _ _).2 ?_)
   ·omega
   exact .inr (.inr (.inr ⟨by rw [lK (by decide) (by decide)];rfl,by omega,congrArg _ (xj (k:=2) (ix.trans (ht _ _)) rfl (by simp only [ht,ea,WR];exact Bh 2 (by decide) _ hm))⟩))
  simp [ht] at h4
 cbv
 apply ap<;>intro h5
 ·simp [ht] at h5
 simp [ht] at h5
 cbv
 obtain ⟨J6,UO⟩:∃J6:Nat→Int×List (List D)×List (List D)→Prop,∀m i x y,J6 m (i,x,y)↔((i=0∧m=3∧x=(fc N 0).nodes.map Node.cells∧y=(fc N 0).places.map Place.cells)∨(i=1∧m=2∧x=(fc N 1).nodes.map Node.cells∧y=(fc N 1).places.map Place.cells)∨(i=2∧m=1∧x=(fc N 2).nodes.map Node.cells∧y=(fc N 2).places.map Place.cells)∨(i=3∧m=0∧x=(fc N 3).nodes.map Node.cells∧y=(fc N 3).places.map Place.cells)):=⟨fun m v=>match v with|(i,x,y)=>((i=0∧m=3∧x=(fc N 0).nodes.map Node.cells∧y=(fc N 0).places.map Place.cells)∨(i=1∧m=2∧x=(fc N 1).nodes.map Node.cells∧y=(fc N 1).places.map Place.cells)∨(i=2∧m=1∧x=(fc N 2).nodes.map Node.cells∧y=(fc N 2).places.map Place.cells)∨(i=3∧m=0∧x=(fc N 3).nodes.map Node.cells∧y=(fc N 3).places.map Place.cells)),fun _ _ _ _=>Iff.rfl⟩
 refine bE ⟨[0,2,3,43,44,45],[],[]⟩ (σ:=Int×List (List D)×List (List D)) (fun v=>[(45,.d (.int .i64 (t _ fun _=>v.1)))]) (fun v=>[(1,.var [AV.d (D.int IntKind.u64 r0.1),AV.d (D.int IntKind.u64 r0.2),.d (.sl (t _ fun _=>v.2.1)),.d (.sl (t _ fun _=>v.2.2)),AV.d (D.sl (t (List (List D)) fun x=>Prod.snd (3,tr))),AV.d (D.sl (t (List (List D)) fun x=>List.map Jb.cells (aU.av r0))),AV.d (D.sl (t (List (List D)) fun x=>List.map ct.cells (aU.queue r0))),AV.d (D.int IntKind.u64 r0.7.1),AV.d (D.sl (t (List (List D)) fun x=>List.map dU.cells (Cf.l (aU.ev r0)))),AV.d (D.int IntKind.u64 r0.8.1),AV.d (D.sl (t (List (List D)) fun x=>List.map dU.cells (Cf.l (aU.au r0))))])]) J6 ?_
 cbv
 refine aF ⟨3,(_,_,_),(UO _ _ _ _).2 ?_,by simp only [ht];rfl,?_⟩
 ·exact .inl ⟨rfl,rfl,by rw [c8];rfl,by rw [c8];rfl⟩
 rintro m ⟨i,x,y⟩ hj
 replace hj:=(UO _ _ _ _).1 hj
 (rcases hj with ⟨rfl,jm,jx,jy⟩|⟨rfl,jm,jx,jy⟩|⟨rfl,jm,jx,jy⟩|⟨rfl,jm,jx,jy⟩)
 ·cbv
  apply ap<;>intro h7
  ·simp [ht] at h7
   cbv
   ((refine iW [.str [110,49]] (by simp only [ht];decide) (by simp only [ht];rfl) ?_))
   cbv
   refine ⟨?_,?_⟩
   ·(simp only [ht];decide)
   refine ⟨?_,?_⟩
   ·(simp only [ht];decide)
   cbv
   apply ap<;>intro h8
   ·simp [ht] at h8
    cbv
    apply ap<;>intro h9
    ·simp [ht] at h9
     cbv
     ((refine iW [.str [97]] (by simp only [ht];decide) (by simp only [ht];rfl) ?_))
     cbv
     ((refine aC (JT ht (l:=(fc N 0).nodes) (ps:=(fc N 0).places) (by simp only [ht];exact jx) (by simp only [ht];exact jy) _ _ _ _ _ (lb:=A6 0) rfl false (Bg hN (by decide)) (by decide) (by decide) (Ka _)) (by simp) (fun r4 kW=>?_)))
     cbv
     refine cr (_,_,_) (by simp only [ht];rfl) (m-1) ?_ ((UO _ _ _ _).2 ?_)
     ·omega
     (refine .inr (.inl ⟨(by rw [lK (by decide) (by decide)];rfl),by omega,?_,?_⟩);((exact congrArg (fun p:cA=>List.map Node.cells p.nodes) (oh (k:=0) (kW.trans (ht _ _)) rfl (by simp only [ht];decide) (xg hN ea ‹_› (by decide) (by decide))).symm));((exact congrArg (fun p:cA=>List.map Place.cells p.places) (oh (k:=0) (kW.trans (ht _ _)) rfl (by simp only [ht];decide) (xg hN ea ‹_› (by decide) (by decide))).symm)))
    simp [ht] at h9
   simp [ht] at h8
   cbv
   refine cr (_,_,_) (by simp only [ht];rfl) (m-1) ?_ ((UO _ _ _ _).2 ?_)
   ·omega
   (refine .inr (.inl ⟨(by rw [lK (by decide) (by decide)];rfl),by omega,?_,?_⟩);((exact jx.trans (congrArg (fun p:cA=>List.map Node.cells p.nodes) (rZ (N:=N) (k:=0) (Dk hN ea ‹_› (by decide) (by decide))).symm)));((exact jy.trans (congrArg (fun p:cA=>List.map Place.cells p.places) (rZ (N:=N) (k:=0) (Dk hN ea ‹_› (by decide) (by decide))).symm))))
  simp [ht] at h7
 ·cbv
  apply ap<;>intro h10
  ·simp [ht] at h10
   cbv
   ((refine iW [.str [110,50]] (by simp only [ht];decide) (by simp only [ht];rfl) ?_))
   cbv
   refine ⟨?_,?_⟩
   ·(simp only [ht];decide)
   refine ⟨?_,?_⟩
   ·(simp only [ht];decide)
   cbv
   apply ap<;>intro h11
   ·simp [ht] at h11
    cbv
    apply ap<;>intro h12
    ·simp [ht] at h12
     cbv
     ((refine iW [.str [98]] (by simp only [ht];decide) (by simp only [ht];rfl) ?_))
     cbv
     ((refine aC (JT ht (l:=(fc N 1).nodes) (ps:=(fc N 1).places) (by simp only [ht];exact jx) (by simp only [ht];exact jy) _ _ _ _ _ (lb:=A6 1) rfl false (Bg hN (by decide)) (by decide) (by decide) (Ka _)) (by simp) (fun r4 kW=>?_)))
     cbv
     refine cr (_,_,_) (by simp only [ht];rfl) (m-1) ?_ ((UO _ _ _ _).2 ?_)
     ·omega
     (refine .inr (.inr (.inl ⟨(by rw [lK (by decide) (by decide)];rfl),by omega,?_,?_⟩));((exact congrArg (fun p:cA=>List.map Node.cells p.nodes) (oh (k:=1) (kW.trans (ht _ _)) rfl (by simp only [ht];decide) (xg hN ea ‹_› (by decide) (by decide))).symm));((exact congrArg (fun p:cA=>List.map Place.cells p.places) (oh (k:=1) (kW.trans (ht _ _)) rfl (by simp only [ht];decide) (xg hN ea ‹_› (by decide) (by decide))).symm)))
    simp [ht] at h12
   simp [ht] at h11
   cbv
   refine cr (_,_,_) (by simp only [ht];rfl) (m-1) ?_ ((UO _ _ _ _).2 ?_)
   ·omega
   (refine .inr (.inr (.inl ⟨(by rw [lK (by decide) (by decide)];rfl),by omega,?_,?_⟩));((exact jx.trans (congrArg (fun p:cA=>List.map Node.cells p.nodes) (rZ (N:=N) (k:=1) (Dk hN ea ‹_› (by decide) (by decide))).symm)));((exact jy.trans (congrArg (fun p:cA=>List.map Place.cells p.places) (rZ (N:=N) (k:=1) (Dk hN ea ‹_› (by decide) (by decide))).symm))))
  simp [ht] at h10
 ·cbv
  apply ap<;>intro UL
  ·simp [ht] at UL
   cbv
   ((refine iW [.str [110,51]] (by simp only [ht];decide) (by simp only [ht];rfl) ?_))
   cbv
   refine ⟨?_,?_⟩
   ·(simp only [ht];decide)
   refine ⟨?_,?_⟩
   ·(simp only [ht];decide)
   cbv
   apply ap<;>intro RM
   ·simp [ht] at RM
    cbv
    apply ap<;>intro h15
    ·simp [ht] at h15
    simp [ht] at h15
    cbv
    ((refine aC (JT ht (l:=(fc N 2).nodes) (ps:=(fc N 2).places) (by simp only [ht];exact jx) (by simp only [ht];exact jy) _ _ _ _ _ (lb:=A6 2) rfl false (Bg hN (by decide)) (by decide) (by decide) (Ka _)) (by simp) (fun r4 kW=>?_)))
    cbv
    refine cr (_,_,_) (by simp only [ht];rfl) (m-1) ?_ ((UO _ _ _ _).2 ?_)
    ·omega
    (refine .inr (.inr (.inr ⟨(by rw [lK (by decide) (by decide)];rfl),by omega,?_,?_⟩));((exact congrArg (fun p:cA=>List.map Node.cells p.nodes) (oh (k:=2) (kW.trans (ht _ _)) rfl (by simp only [ht];decide) (xg hN ea ‹_› (by decide) (by decide))).symm));((exact congrArg (fun p:cA=>List.map Place.cells p.places) (oh (k:=2) (kW.trans (ht _ _)) rfl (by simp only [ht];decide) (xg hN ea ‹_› (by decide) (by decide))).symm)))
   simp [ht] at RM
   cbv
   refine cr (_,_,_) (by simp only [ht];rfl) (m-1) ?_ ((UO _ _ _ _).2 ?_)
   ·omega
   (refine .inr (.inr (.inr ⟨(by rw [lK (by decide) (by decide)];rfl),by omega,?_,?_⟩));((exact jx.trans (congrArg (fun p:cA=>List.map Node.cells p.nodes) (rZ (N:=N) (k:=2) (Dk hN ea ‹_› (by decide) (by decide))).symm)));((exact jy.trans (congrArg (fun p:cA=>List.map Place.cells p.places) (rZ (N:=N) (k:=2) (Dk hN ea ‹_› (by decide) (by decide))).symm))))
  simp [ht] at UL
 cbv
 apply ap<;>intro UM
 ·simp [ht] at UM
 simp [ht] at UM
 cbv
 refine an ?_
 (simp only [ht,c8,jt,jx,jy];rfl)
end Dem
end
section
open Go
namespace Dem
def eG (s:aU) (id:Int):Jb×Bool:=((bD s.av id).1,(bD s.av id).2&&!(bD s.av id).1.runs)
def gV (s:aU) (id:Int) (of:cA) (within:aI→bG→Bool):List aI×Bool:=
 if !(eG s id).2 then ([],false) else
 if !(cV (eG s id).1.x).2||!(fit (eT of) (eG s id).1.x.cg (eG s id).1.x.fY (eG s id).1.x.count).2||!within (eG s id).1.x.path (cV (eG s id).1.x).1 then ([],false) else
 ((fit (eT of) (eG s id).1.x.cg (eG s id).1.x.fY (eG s id).1.x.count).1,true)
def fo (s:aU) (id:Int):List aI×Bool:=gV s id s.aG fun p v=>decide ((cY s.tree p v).2=0)
def ol (t:List bc):List bc:=t.map fun e=>{e with used:=bG.zero}
def qO (t:List bc) (p:aI) (v:bG):Bool:=decide ((cY (ol t) p v).2=0)
def cO (s:aU) (id:Int):Bool:=(gV s id ⟨s.aG.nodes,[]⟩ fun p v=>qO s.tree p v).2
def fq (a b:Jb):Bool:=decide (a.x.prio<b.x.prio)||(decide (a.x.prio=b.x.prio)&&decide (b.id≤a.id))
def bX (s:aU) (id:Int):List Int:=
 if !(bD s.av id).2 then [] else
 ((s.av.filter fun o=>o.runs&&decide (o.x.prio<(bD s.av id).1.x.prio)).mergeSort fq).map (·.id)
def aH (s:aU) (l:List Int):aU:=l.foldl (fun s id=>(gC s id 5).1) s
def gi (s:aU) (id:Int) (l:List Int):List aI×Bool:=fo (aH s l) id
def kX (s:aU) (id:Int) (all:List Int):Nat→Nat→Option (List Int×List aI)
 |0,_=>none
 |n+1,k=>if (gi s id (all.take k)).2 then some (all.take k,(gi s id (all.take k)).1) else kX s id all n (k+1)
def gu (s:aU) (id:Int):Nat→Nat→List Int→List aI→List Int×List aI
 |0,_,l,nodes=>(l,nodes)
 |n+1,k,l,nodes=>if k<l.length then
  (if (gi s id (l.eraseIdx k)).2 then gu s id n k (l.eraseIdx k) (gi s id (l.eraseIdx k)).1 else gu s id n (k+1) l nodes)
  else (l,nodes)
def aA (s:aU) (id:Int):List Int×List aI×Bool:=match kX s id (bX s id) ((bX s id).length+1) 0 with
 |none=>([],[],false)
 |some (l,nodes)=>((gu s id (l.length+1) 0 l nodes).1,(gu s id (l.length+1) 0 l nodes).2,true)
end Dem
end
section
open Go Dem Go.Proofs
namespace Dem
variable {t:Th}
def bc.bare (e:bc):bc:={e with used:=bG.zero}
theorem QC (l:List bc):ol l=l.map bc.bare:=rfl
theorem Nw {l:List bc} {k:Nat} {x:bc} {u:List (List D)} (hx:l[k]?=some x) (hu:u=((l.take k).map bc.bare++l.drop k).map bc.cells):
 u.set k (be (u.getD k []) 5 [.int .u64 0,.int .u64 0,.int .u64 0,.int .u64 0])=((l.take (k+1)).map bc.bare++l.drop (k+1)).map bc.cells:=by
 have hk:k<l.length:=(List.getElem?_eq_some_iff.1 hx).1
 have e1:u.getD k []=bc.cells x:=by
  rw [hu,List.getD_eq_getElem?_getD,List.getElem?_map,List.getElem?_append_right (by simp;omega),List.getElem?_drop]
  simp [show min k l.length=k by omega,hx]
 rw [e1,hu,dy hx,gW hx]
 simp only [List.map_append,List.map_cons,List.map_nil,List.append_assoc,List.singleton_append]
 rw [List.set_append_right _ _ (by simp;omega)]
 simp [show min k l.length=k by omega,bc.bare,bc.cells,be,bG.zero]
theorem QD {l:List bc} {k:Nat} {u:List (List D)} (hk:k<l.length) (hu:u=((l.take k).map bc.bare++l.drop k).map bc.cells):k<u.length∧5+4≤(u.getD k []).length:=by
 obtain ⟨x,hx⟩:∃x,l[k]?=some x:=⟨l[k],by simp⟩
 have e1:u.getD k []=bc.cells x:=by
  rw [hu,List.getD_eq_getElem?_getD,List.getElem?_map,List.getElem?_append_right (by simp;omega),List.getElem?_drop]
  simp [show min k l.length=k by omega,hx]
 rw [e1]
 exact ⟨by rw [hu];simp;omega,Nat.le_refl _⟩
theorem QE (ht:TT t) (q:aI) (v1 v2 v3 v4:Int) {l:List bc} {es:List (List D)} (aD:es=l.map bc.cells) (hl:l.length<100000) (hq:q.length<1000000000000):
 FC 61 [SL es,ST q,V4 v1 v2 v3 v4] [] (.ret (dH (t _ fun _=>qO l q ⟨v1,v2,v3,v4⟩))) []:=by
 obtain ⟨m,hm⟩:∃m,m=l.length:=⟨_,rfl⟩
 have hel:m=es.length:=by rw [aD,lgM,hm]
 have hrows:∀r∈es,r.length=9:=by rw [aD];intro r hr;obtain ⟨y,_,rfl⟩:=List.mem_map.1 hr;rfl
 obtain ⟨R,hR⟩:∃R,R=qO l q ⟨v1,v2,v3,v4⟩:=⟨_,rfl⟩
 rw [←hR]
 refine cL ht Tryz.func61 (N:=33) ?_
 cbv
 have aQ:es.length=l.length:=by rw [aD,lgM]
 (refine jV trv (Be ht hrows (by omega) hel) trv rfl (.inr rfl) ?_)
 cbv
 refine ⟨?_,?_⟩
 ·(simp only [ht] at*;omega)
 cbv
 obtain ⟨J0,fK⟩:∃J0:Nat→Int×List (List D)→Prop,∀n i u,J0 n (i,u)↔(∃k:Nat,i=k∧k+n=m∧u=((l.take k).map bc.bare++l.drop k).map bc.cells):=⟨fun n v=>match v with|(i,u)=>(∃k:Nat,i=k∧k+n=m∧u=((l.take k).map bc.bare++l.drop k).map bc.cells),fun _ _ _=>Iff.rfl⟩
 refine bE ⟨[1,5,7,14,15],[],[]⟩ (σ:=Int×List (List D)) (fun v=>[(15,.d (.int .i64 (t _ fun _=>v.1)))]) (fun v=>[(1,.row 9 (t _ fun _=>v.2))]) J0 ?_
 cbv
 refine aF ⟨m,(_,_),(fK _ _ _).2 ?_,by simp only [ht];rfl,?_⟩
 ·exact ⟨0,rfl,by simp,by simp [aD]⟩
 rintro n ⟨i,u⟩ hj
 replace hj:=(fK _ _ _).1 hj
 obtain ⟨k,rfl,j1,j4⟩:=hj
 cbv
 apply ap<;>intro h1
 ·simp [ht,ah,aQ] at h1
  cbv
  refine ⟨?_,?_⟩
  ·(simp only [ht,ah] at*;omega)
  refine ⟨?_,?_⟩
  ·(simp only [ht,ah,Int.toNat_natCast];exact QD (by omega) j4)
  cbv
  refine cr (_,_) (by simp only [ht];rfl) (n-1) ?_ ((fK _ _ _).2 ?_)
  ·omega
  simp only [ah]
  (obtain ⟨x,hx⟩:∃x,l[k]?=some x:=⟨l[k]'(by omega),by simp⟩;exact ⟨k+1,aE (by omega),by omega,Nw hx j4⟩)
 simp [ht,ah,aQ] at h1
 cbv
 (have j5:u=(ol l).map bc.cells:=(by rw [j4,List.take_of_length_le (by omega),List.drop_eq_nil_of_le (by omega)];simp [QC]);have h5:(ol l).length=l.length:=(by simp [ol]);refine Jp (E:=Bd t) (r0:=t _ fun _=>cY (ol l) q ⟨v1,v2,v3,v4⟩) trv rfl (by simp [ht,j5,h5,hm]) (by exact dD [] rfl rfl rfl rfl (tY ht q v1 v2 v3 v4 (l:=ol l) (by simp only [ht];exact j5) (by omega) hq)) (fun r1 cR=>?_);simp only [ht] at cR)
 cbv
 refine an ?_
 (simp only [ht,hR,qO,←cR];done)
end Dem
end
section
open Go
namespace Dem
theorem HK {l m:List ct} (hl:yT l) (hm:yT m) (h:∀q,q∈l↔q∈m):l=m:=by
 have hn:∀{r:List ct},yT r→r.Nodup:=fun {r} hr=>by
  rw [List.nodup_iff_pairwise_ne]
  exact hr.imp fun {a b} g e=>by subst e;rw [fD] at g;omega
 exact ((List.perm_ext_iff_of_nodup (hn hl) (hn hm)).2 h).eq_of_pairwise (fun a b _ _ h1 h2=>by rw [fD] at h1 h2;omega) hl hm
theorem bV.trans {a b c:List bc} (h:bV a b) (g:bV b c):bV a c:=⟨by rw [g.len,h.len],fun i e hi=>by
 obtain ⟨x,h1,h2,h3⟩:=h.at_ i e hi
 obtain ⟨y,g1,g2,g3⟩:=g.at_ i x h1
 exact ⟨y,g1,by rw [g2,h2],by rw [g3,h3]⟩⟩
theorem bV.refl (a:List bc):bV a a:=⟨rfl,fun _ e hi=>⟨e,hi,rfl,rfl⟩⟩
theorem dP {l:List Jb} (ha:sA l) {i:Nat} {j:Jb} (hj:l[i]?=some j):l.findIdx? (fun x=>decide (x.id=j.id))=some i∧l.getD i Jb.zero=j∧bD l j.id=(j,true):=by
 have h1:l.findIdx? (fun x=>decide (x.id=j.id))=some i:=by
  cases h:l.findIdx? (fun x=>decide (x.id=j.id)) with
  |none=>rw [List.findIdx?_eq_none_iff] at h;have:=h j (List.mem_of_getElem? hj);simp at this
  |some k=>
   obtain ⟨y,a,b,_⟩:=nJ h
   rw [vG ha a hj b]
 refine ⟨h1,by rw [List.getD_eq_getElem?_getD,hj];rfl,?_⟩
 unfold bD
 cases h:l.find? (fun x=>decide (x.id=j.id)) with
 |none=>rw [List.find?_eq_none] at h;have:=h j (List.mem_of_getElem? hj);simp at this
 |some y=>
  have e:=List.find?_some h
  simp only [decide_eq_true_eq] at e
  simp only
  rw [cm ha (List.mem_of_find?_eq_some h) (List.mem_of_getElem? hj) e]
abbrev Jb.begun (j:Jb):Jb:={j with runs:=true,left:=j.x.eI}
abbrev Jb.halted (j:Jb):Jb:={j with runs:=false,left:=0}
theorem om {s:aU} (h:s.ok) {id:Int} {names:List aI} (e:(bS s id names).2=0):
 ∃(i:Nat) (j:Jb) (T:List bc),s.av[i]?=some j∧j.id=id∧j.runs=false∧(names.length:Int)=j.x.count∧bV s.tree T∧
  (bS s id names).1=iM ⟨s.round,s.next,⟨s.aG.nodes,s.aG.places++names.map (fun n=>⟨id,n,j.x.fY⟩)⟩,T,s.av.set i j.begun,s.queue.filter (fun q=>!decide (q.id=id)),s.ev,s.au⟩ id 2:=by
 unfold bS at e ⊢
 cases hf:s.av.findIdx? (fun j=>decide (j.id=id)) with
 |none=>rw [hf] at e;cases e
 |some i=>
  obtain ⟨j,hj,hid,c⟩:=nJ hf
  rw [hf] at e
  simp only at e ⊢
  rw [c] at e ⊢
  unfold jI at e ⊢
  by_cases h1:j.runs=true
  ·rw [if_pos h1] at e;cases e
  rw [if_neg h1] at e ⊢
  by_cases h2:(names.length:Int)≠j.x.count
  ·rw [if_pos h2] at e;cases e
  rw [if_neg h2] at e ⊢
  by_cases h3:(!(cV j.x).2)=true
  ·rw [if_pos h3] at e;cases e
  rw [if_neg h3] at e ⊢
  by_cases h4:(cY s.tree j.x.path (cV j.x).1).2≠0
  ·rw [if_pos h4] at e;exact absurd e h4
  rw [if_neg h4] at e ⊢
  simp only [Decidable.not_not] at h2 h4
  rcases A2 s.aG id names j.x.fY with ⟨_,e2⟩|⟨e2,_⟩
  ·rw [if_pos e2] at e;exact absurd e e2
  rw [if_neg (by rw [e2];simp)]
  refine ⟨i,j,_,hj,hid,by simpa using h1,h2,(C9 h h4).2.1,?_⟩
  rw [lM h.kO,e2];rfl
theorem Bk {s:aU} (h:s.ok) {i:Nat} {j:Jb} (hj:s.av[i]?=some j) (hr:j.runs=true) (kind:Int):
 ∃T Q,bV s.tree T∧gC s j.id kind=(iM ⟨s.round,s.next,qE s.aG j.id,T,s.av.set i j.halted,Q,s.ev,s.au⟩ j.id kind,0):=by
 obtain ⟨h1,h2,_⟩:=dP h.ids hj
 refine ⟨_,(jW s.queue ⟨j.id,j.x.prio⟩).1,(oa h hj hr).2.2.1,?_⟩
 unfold gC
 rw [h1]
 simp only
 rw [h2,if_neg (by simp [hr]),h.jK hj hr]
 simp [C2]
theorem vT {s:aU} (h:s.ok) {i:Nat} {j:Jb} (hj:s.av[i]?=some j) (kind:Int):
 (send s j.id kind).2=0∧(j.runs=false→send s j.id kind=(iM ⟨s.round,s.next,s.aG,s.tree,s.av.eraseIdx i,s.queue.filter (fun q=>!decide (q.id=j.id)),s.ev,s.au⟩ j.id kind,0))∧
 (j.runs=true→∃T,bV s.tree T∧send s j.id kind=(iM ⟨s.round,s.next,qE s.aG j.id,T,s.av.eraseIdx i,s.queue,s.ev,s.au⟩ j.id kind,0)):=by
 obtain ⟨h1,h2,_⟩:=dP h.ids hj
 unfold send
 rw [h1]
 simp only
 rw [h2]
 refine ⟨trv,fun hr=>?_,fun hr=>?_⟩
 ·rw [hr,if_neg (by simp),lM h.kO]
 refine ⟨_,(oa h hj hr).2.2.1,?_⟩
 rw [if_pos hr,h.jK hj hr]
theorem Kb {s:aU} (h:s.ok) {x:Ask} (e:(c7 s x).2.2=0):
 (c7 s x).2.1=s.next∧s.next+1<18446744073709551616∧
 (c7 s x).1=iM ⟨s.round,s.next+1,s.aG,s.tree,s.av++[⟨s.next,x,false,0⟩],s.queue.take (vq s.queue ⟨s.next,x.prio⟩)++⟨s.next,x.prio⟩::s.queue.drop (vq s.queue ⟨s.next,x.prio⟩),s.ev,s.au⟩ s.next 1:=by
 unfold c7 at e ⊢
 by_cases h1:eS x≠0
 ·rw [if_pos h1] at e;exact absurd e h1
 rw [if_neg h1] at e ⊢
 by_cases h2:(!jH s.tree x.path)=true
 ·rw [if_pos h2] at e;cases e
 rw [if_neg h2] at e ⊢
 by_cases h3:32≤s.av.length∨s.next=18446744073709551615
 ·rw [if_pos h3] at e;cases e
 rw [if_neg h3] at e ⊢
 have hnx:=h.next
 rcases qJ s.queue ⟨s.next,x.prio⟩ with ⟨_,e2,_⟩|⟨e2,_⟩
 ·rw [if_pos e2] at e;exact absurd e e2
 rw [e2,if_neg (by simp)]
 have hu:u64 (s.next+1)=s.next+1:=by unfold u64;omega
 rw [hu]
 exact ⟨rfl,by omega,rfl⟩
theorem Dl {s:aU} {x:Ask} (e:(c7 s x).2.2≠0):(c7 s x).1=s∧(c7 s x).2.1=0∧(eS x=0∨(c7 s x).2.2=eS x):=by
 unfold c7 at e ⊢
 by_cases h1:eS x≠0
 ·rw [if_pos h1];exact ⟨rfl,rfl,.inr rfl⟩
 rw [if_neg h1] at e ⊢
 simp only [Decidable.not_not] at h1
 by_cases h2:(!jH s.tree x.path)=true
 ·rw [if_pos h2];exact ⟨rfl,rfl,.inl h1⟩
 rw [if_neg h2] at e ⊢
 by_cases h3:32≤s.av.length∨s.next=18446744073709551615
 ·rw [if_pos h3];exact ⟨rfl,rfl,.inl h1⟩
 rw [if_neg h3] at e ⊢
 by_cases h4:(jW s.queue ⟨s.next,x.prio⟩).2≠0
 ·rw [if_pos h4];exact ⟨rfl,rfl,.inl h1⟩
 rw [if_neg h4] at e;exact absurd rfl e
structure aU.eX (A:Ask→Prop) (s:aU):Prop where
 names:∀n∈s.aG.nodes,n.sm
 paths:∀e∈s.tree,e.path.length<1000
 xs:∀j∈s.av,A j.x
structure fF (s t:aU):Prop where
 nodes:t.aG.nodes=s.aG.nodes
 paths:∀e∈t.tree,∃f∈s.tree,e.path=f.path
 xs:∀j∈t.av,∃k∈s.av,j.x=k.x
theorem fF.refl (s:aU):fF s s:=⟨rfl,fun e h=>⟨e,h,rfl⟩,fun j h=>⟨j,h,rfl⟩⟩
theorem fF.eX {A:Ask→Prop} {s t:aU} (h:fF s t) (l:s.eX A):t.eX A:=by
 refine ⟨by rw [h.nodes];exact l.names,fun e he=>?_,fun j hj=>?_⟩
 ·obtain ⟨f,hf,e1⟩:=h.paths e he;rw [e1];exact l.paths f hf
 obtain ⟨k,hk,e1⟩:=h.xs j hj;rw [e1];exact l.xs k hk
theorem Kc {l:List Jb} {k:Nat} {j y:Jb} (hk:l[k]?=some y) (hx:j.x=y.x):∀z∈l.set k j,∃w∈l,z.x=w.x:=by
 intro z hz
 rcases List.mem_or_eq_of_mem_set hz with h|rfl
 ·exact ⟨z,h,rfl⟩
 exact ⟨y,List.mem_of_getElem? hk,hx⟩
theorem oo {t u:List bc} (h:bV t u):∀e∈u,∃f∈t,e.path=f.path:=fun e he=>by
 obtain ⟨f,hf,h1,_⟩:=h.back he
 exact ⟨f,hf,h1⟩
theorem Dm {s:aU} {id:Int} {names:List aI} (e:(bS s id names).2≠0):(bS s id names).1=s:=by
 unfold bS at e ⊢
 split
 ·rfl
 rename_i k hk
 rw [hk] at e
 simp only at e
 unfold jI at e ⊢
 by_cases h1:(s.av.getD k Jb.zero).runs=true
 ·rw [if_pos h1]
 rw [if_neg h1] at e ⊢
 by_cases h2:(names.length:Int)≠(s.av.getD k Jb.zero).x.count
 ·rw [if_pos h2]
 rw [if_neg h2] at e ⊢
 by_cases h3:(!(cV (s.av.getD k Jb.zero).x).2)=true
 ·rw [if_pos h3]
 rw [if_neg h3] at e ⊢
 split
 ·rfl
 rename_i h4
 rw [if_neg h4] at e
 split
 ·rfl
 rename_i h5
 rw [if_neg h5] at e
 exact absurd rfl e
theorem yC {s:aU} (h:s.ok) (id:Int) (names:List aI):fF s (bS s id names).1:=by
 by_cases e:(bS s id names).2=0
 ·obtain ⟨i,j,T,h1,h2,h3,h4,h5,h6⟩:=om h e
  rw [h6]
  exact ⟨rfl,oo h5,Kc h1 rfl⟩
 rw [Dm e];exact fF.refl s
theorem Ke {s:aU} (h:s.ok) (id kind:Int):fF s (gC s id kind).1:=by
 cases hf:s.av.findIdx? (fun j=>decide (j.id=id)) with
 |none=>unfold gC;rw [hf];exact fF.refl s
 |some i=>
  obtain ⟨j,hj,rfl,c⟩:=nJ hf
  by_cases hr:j.runs=true
  ·obtain ⟨T,Q,h1,h2⟩:=Bk h hj hr kind
   rw [h2]
   exact ⟨rfl,oo h1,Kc hj rfl⟩
  unfold gC;rw [hf];simp only;rw [c,if_pos (by simpa using hr)];exact fF.refl s
theorem Dn {s:aU} (h:s.ok) (id kind:Int):fF s (send s id kind).1:=by
 cases hf:s.av.findIdx? (fun j=>decide (j.id=id)) with
 |none=>unfold send;rw [hf];exact fF.refl s
 |some i=>
  obtain ⟨j,hj,rfl,c⟩:=nJ hf
  obtain ⟨h1,h2,h3⟩:=vT h hj kind
  have hx:∀z∈s.av.eraseIdx i,∃w∈s.av,z.x=w.x:=fun z hz=>⟨z,List.mem_of_mem_eraseIdx hz,rfl⟩
  by_cases hr:j.runs=true
  ·obtain ⟨T,h4,h5⟩:=h3 hr
   rw [h5]
   exact ⟨rfl,oo h4,hx⟩
  rw [h2 (by simpa using hr)]
  exact ⟨rfl,fun e he=>⟨e,he,rfl⟩,hx⟩
theorem Bl {A:Ask→Prop} {s:aU} (l:s.eX A) {x:Ask} (hx:A x):(c7 s x).1.eX A:=by
 by_cases e:(c7 s x).2.2=0
 ·unfold c7 at e ⊢
  split
  ·exact l
  split
  ·exact l
  split
  ·exact l
  split
  ·exact l
  refine ⟨l.names,l.paths,fun j hj=>?_⟩
  rcases List.mem_append.1 hj with h|h
  ·exact l.xs j h
  rw [List.mem_singleton.1 h];exact hx
 rw [(Dl e).1];exact l
structure sQ (x:Ask):Prop where
 path:x.path.length≤4
 fY:x.fY.w
 cg:x.cg.length≤1
 key:∀m∈x.cg,m.key.length≤4∧m.mR.length≤1∧∀v∈m.mR,v.length≤1
theorem mI (x:jU):sQ (Ch x):=by
 refine ⟨?_,P8 x,?_,?_⟩
 ·unfold Ch
  simp only
  have:∀k<4,(A5.getD k []).length≤4:=by decide
  exact this _ (Nat.mod_lt _ (by decide))
 ·unfold Ch;simp only;split<;>simp
 unfold Ch;simp only;split
 ·intro m hm
  rw [List.mem_singleton.1 hm]
  exact ⟨by show SU.length≤4;decide,by simp,by simp⟩
 intro m hm;cases hm
theorem Kf {p:cA} (h:∀n∈p.nodes,n.sm) {y:Node} (hy:y.sm):∀n∈(qz p y).1.nodes,n.sm:=by
 rcases tP p y with ⟨e,_⟩|⟨_,_,_,e⟩
 ·rw [e];exact h
 rw [e]
 intro n hn
 rcases List.mem_append.1 hn with h1|h1
 ·exact h n (List.mem_of_mem_take h1)
 rcases List.mem_cons.1 h1 with rfl|h1
 ·exact hy
 exact h n (List.mem_of_mem_drop h1)
theorem HL (i:Nat):(⟨kV.getD i [],⟨(4+2*i:Nat),9,9,9⟩,A6 i,false⟩:Node).sm:=by
 have h1:∀i,(kV.getD i []).length≤2
  |0=>by decide
  |1=>by decide
  |2=>by decide
  |i+3=>by simp [kV]
 have h2:∀i,(A6 i).length≤1∧∀q∈A6 i,q.sm:=by
  intro i
  unfold A6
  split
  ·refine ⟨by simp,fun q hq=>?_⟩
   rw [List.mem_singleton.1 hq]
   have h3:∀i,(([[97],[98]]:List aI).getD i []).length≤1
    |0=>by decide
    |1=>by decide
    |i+2=>by simp
   have:=h3 i
   exact ⟨by show SU.length<_;decide,by simp only;omega⟩
  exact ⟨by simp,fun q hq=>by cases hq⟩
 exact ⟨by have:=h1 i;simp only;omega,by have:=(h2 i).1;simp only;omega,(h2 i).2⟩
theorem uc (n:Nat):∀i,∀x∈(fc n i).nodes,x.sm
 |0=>fun x hx=>by cases hx
 |i+1=>by
  unfold fc
  split
  ·exact Kf (uc n i) (HL i)
  exact uc n i
theorem yD (A:Ask→Prop) (n:Nat):(jL n).eX A:=by
 refine ⟨uc n 3,fun e he=>?_,fun j hj=>by cases hj⟩
 unfold jL at he
 rw [LK _ (Nat.mod_lt _ (by decide))] at he
 simp only [pH,List.mem_cons,List.not_mem_nil,or_false] at he
 rcases he with rfl|rfl|rfl|rfl<;>simp
theorem Tm (id:Int) (x:Place) (l:List Place):sy id (x::l)=(if x.bz=id then 1 else 0)+sy id l:=by
 unfold sy
 rw [List.filter_cons]
 split<;>simp_all<;>omega
theorem V2 {js:List Jb} {f g:Jb→Nat} (h:∀j∈js,f j≤g j):(js.map f).sum≤(js.map g).sum:=by
 induction js with
 |nil=>simp
 |cons a l ih=>
  simp only [List.map_cons,List.sum_cons]
  have:=h a (List.mem_cons_self ..)
  have:=ih fun j hj=>h j (List.mem_cons_of_mem _ hj)
  omega
theorem QF {js:List Jb} (f g:Jb→Nat):(js.map fun j=>f j+g j).sum=(js.map f).sum+(js.map g).sum:=by
 induction js with
 |nil=>simp
 |cons a l ih=>simp only [List.map_cons,List.sum_cons,ih];omega
theorem Tn {js:List Jb} {id:Int} {j:Jb} (hj:j∈js) (e:j.id=id):1≤(js.map fun j=>if id=j.id then 1 else 0).sum:=by
 induction js with
 |nil=>cases hj
 |cons a l ih=>
  simp only [List.map_cons,List.sum_cons]
  rcases List.mem_cons.1 hj with rfl|hj
  ·rw [if_pos e.symm];omega
  have:=ih hj;omega
theorem Bn {js:List Jb}:∀{l:List Place},(∀x∈l,∃j∈js,j.id=x.bz)→l.length≤(js.map fun j=>sy j.id l).sum
 |[],_=>by simp
 |x::l,h=>by
  have ih:=Bn (js:=js) (l:=l) fun y hy=>h y (List.mem_cons_of_mem _ hy)
  obtain ⟨j,hj,e⟩:=h x (List.mem_cons_self ..)
  have h1:=Tn hj e
  have:(fun j:Jb=>sy j.id (x::l))=fun j=>(if x.bz=j.id then 1 else 0)+sy j.id l:=by funext j;rw [Tm]
  rw [this,QF]
  simp only [List.length_cons]
  omega
theorem aU.ok.Kg {s:aU} (h:s.ok):s.aG.places.length≤256:=by
 have h1:=Bn (js:=s.av) (l:=s.aG.places) fun x hx=>by
  obtain ⟨j,hj,_,e,_⟩:=h.places x hx
  exact ⟨j,hj,e⟩
 have h2:∀j∈s.av,sy j.id s.aG.places≤8:=by
  intro j hj
  cases hr:j.runs with
  |true=>
   have e1:=h.count j hj hr
   have e2:=cZ.1 (h.pG j hj).1
   omega
  |false=>
   have e1:=h.ED hj hr
   have:sy j.id s.aG.places=0:=by
    unfold sy
    rw [List.length_eq_zero_iff,List.filter_eq_nil_iff]
    intro x hx;simpa using e1 x hx
   omega
 have h3:=V2 (f:=fun j=>sy j.id s.aG.places) (g:=fun _=>8) h2
 have h4:(s.av.map fun _=>8).sum=8*s.av.length:=by
  generalize s.av=l
  induction l with
  |nil=>rfl
  |cons a l ih=>simp only [List.map_cons,List.sum_cons,List.length_cons,ih];omega
 have:=h.most
 omega
end Dem
end
section
open Go Dem Go.Proofs
namespace Dem
variable {t:Th}
theorem Nx (ht:TT t) (q:aI) {l:List (dh)} {es:List (List D)} (aD:es=l.map dh.cells) (f:Nat) (p:dh→Bool) (hl:l.length<9223372036854775807)
 (hf:∀x∈l,FC f [.agg [ST x.key,ST x.value],.ptr 0 0] [.var [ST q]] (.ret (BL (p x))) [.var [ST q]]) {r:Int} (hr:r=idxOf p l):FC 165 [SL es,.fn f [.ptr 0 0]] [.var [ST q]] (.ret (bF r)) [.var [ST q]]:=by
 have hel:es.length=l.length:=by rw [aD,lgM]
 refine kM ht (bC:=[.var [ST q]]) Tryz.func165 rfl rfl (N:=19) rfl rfl (n:=1) rfl rfl ?_
 cbv
 refine bE ⟨[0,1,7,8],[],[]⟩ (σ:=Nat) (fun k=>[(8,bF (t _ fun _=>(k:Int)))]) (fun _=>[]) (vL p l) ?_
 cbv
 refine aF ⟨l.length,0,.nil,by simp only [ht];rfl,fun n k hj=>?_⟩
 cbv
 apply ap<;>intro h
 ·simp only [ht,ah,decide_eq_true_eq] at h
  have hk:k<es.length:=by omega
  obtain ⟨x,hx,pK,px,hpx⟩:=hj.get (by omega)
  have iw:=hf x pK
  rw [←hpx] at iw
  obtain ⟨k',v'⟩:=x
  cbv
  refine iW [.str k',.str v'] ?_ ?_ ?_
  ·simp only [ht,ah];exact sB aD hk fun _=>rfl
  ·simp [ht,ah,aD,hx]
  cbv
  refine eE trv iw ?_
  cbv
  apply ap<;>intro hb
  ·cbv
   refine an ?_
   simp only [ht,ah,hr,hj.hit hx (hpx▸hb)]
  cbv
  refine aF ⟨n-1,k+1,⟨hj.lt hx,hj.next hx (hpx▸hb)⟩,?_⟩
  simp only [ht,ah,aE (show k<9223372036854775807 by omega)];rfl
 simp only [ht,ah,decide_eq_false_iff_not] at h
 have hk:l.length≤k:=by omega
 clear h
 cbv
 refine an ?_
 rw [hr,hj.none hk]
theorem QG (ht:TT t) (q k v:aI):FC 166 [.agg [ST k,ST v],.ptr 0 0] [.var [ST q]] (.ret (BL (decide (k=q)))) [.var [ST q]]:=by
 refine kM ht (bC:=[.var [ST q]]) Tryz.func166 rfl rfl (N:=8) rfl rfl (n:=1) rfl rfl ?_
 cbv
 refine an ?_
 simp [ht]
def ESB (r:aI×Bool):AV:=.dV [ST r.1,BL r.2]
theorem HM (ht:TT t) (q:aI) {l:List dh} {es:List (List D)} (aD:es=l.map dh.cells) (hl:l.length<1000000000):
 FC 115 [SL es,ST q] [] (.ret (ESB (t _ fun _=>GY l q))) []:=by
 obtain ⟨r9,jP⟩:∃r,r=idxOf (fun x:dh=>decide (x.key=q)) l:=⟨_,rfl⟩
 refine cL ht Tryz.func115 (N:=17) ?_
 cbv
 have aQ:es.length=l.length:=by rw [aD,lgM]
 (refine dG [0] trv rfl rfl (Nx ht q aD 166 (fun x=>decide (x.key=q)) (by omega) (fun x _=>QG ht q _ _) jP) (cD ?_);have ec:=cC jP;clear jP;rcases ec with ⟨e1,e2,e3⟩|⟨i,x,hi,hil,e1,e2,e3,e4⟩)
 ·cbv
  apply ap<;>intro h0
  ·simp [ht] at h0
   cbv
   refine an ?_
   (simp [ht,GY,e3];done)
  simp [ht] at h0
  omega
 cbv
 apply ap<;>intro h1
 ·simp [ht] at h1
  (simp only [ah] at*;omega)
 simp [ht] at h1
 cbv
 refine yR ht aD (cT:=dh.bw t) e1 ‹_› (fun _=>rfl) (fun _=>rfl) ?_
 cbv
 refine an ?_
 (simp [ht,GY,e4];done)
theorem Ny (ht:TT t) (a:aI) {l:List aI} {es:List (List D)} (aD:es=l.map bf) (hl:l.length<1000000000):
 FC 293 [SL es,ST a] [] (.ret (kS (t _ fun _=>JX a l))) []:=by
 refine cL ht Tryz.func293 (N:=19) ?_
 cbv
 have aQ:es.length=l.length:=by rw [aD,lgM]
 obtain ⟨J0,fK⟩:∃J0:Nat→Int→Prop,∀n i,J0 n i↔(∃k:Nat,i=k∧k+n=l.length∧∀i<k,∀y,l[i]?=some y→a≠y):=⟨fun n v=>match v with|i=>(∃k:Nat,i=k∧k+n=l.length∧∀i<k,∀y,l[i]?=some y→a≠y),fun _ _=>Iff.rfl⟩
 refine bE ⟨[0,1,7,8],[],[]⟩ (σ:=Int) (fun v=>[(8,.d (.int .i64 (t _ fun _=>v)))]) (fun v=>[]) J0 ?_
 cbv
 refine aF ⟨l.length,_,(fK _ _).2 ?_,by simp only [ht];rfl,?_⟩
 ·exact ⟨0,rfl,by simp,fun i hi=>by omega⟩
 rintro n i hj
 replace hj:=(fK _ _).1 hj
 obtain ⟨k,rfl,j1,j4⟩:=hj
 cbv
 apply ap<;>intro h1
 ·simp [ht,ah,aQ] at h1
  cbv
  refine kL ht aD (cT:=eL t) (by (simp only [ht,ah];omega)) (by (simp only [ht,ah];omega)) (fun _=>rfl) (fun _=>rfl) (fun x2 oc=>?_)
  simp [ht,ah] at oc
  cbv
  apply ap<;>intro h3
  ·simp [ht] at h3
   cbv
   refine an ?_
   (simp only [ht];rw [LU ‹_› ‹_› j4];done)
  simp [ht] at h3
  cbv
  refine cr _ (by simp only [ht];rfl) (n-1) ?_ ((fK _ _).2 ?_)
  ·omega
  simp only [ah]
  exact ⟨k+1,aE (by omega),by omega,Dc j4 ‹_› ‹_›⟩
 simp [ht,ah,aQ] at h1
 cbv
 refine an ?_
 (simp only [ht];rw [LV (by omega) j4];done)
theorem Nz (ht:TT t) (a:aI) {l:List aI} {es:List (List D)} (aD:es=l.map bf) (hl:l.length<1000000000):
 FC 292 [SL es,ST a] [] (.ret (dH (t _ fun _=>l.contains a))) []:=by
 refine cL ht Tryz.func292 (N:=9) ?_
 cbv
 have aQ:es.length=l.length:=by rw [aD,lgM]
 refine aP (Ny ht _ ‹_› ‹_›) trv (fun r0 c8=>?_)
 simp only [ht] at c8
 cbv
 refine an ?_
 (simp [ht,c8,HA];done)
theorem HN (ht:TT t) (a:aI) {l:List aI} {es:List (List D)} (aD:es=l.map bf) (hl:l.length<1000000000):
 FC 291 [SL es,ST a] [] (.ret (dH (t _ fun _=>l.contains a))) []:=by
 refine cL ht Tryz.func291 (N:=8) ?_
 cbv
 have aQ:es.length=l.length:=by rw [aD,lgM]
 refine aP (Nz ht _ ‹_› ‹_›) trv (fun r0 c8=>?_)
 simp only [ht] at c8
 cbv
 refine an ?_
 (simp [*];done)
theorem HO (ht:TT t) (a:aI):FC 290 [.agg [],ST a] [] (.ret (BL true)) []:=by
 refine cL ht Tryz.func290 (N:=5) ?_
 cbv
 refine an ?_
 simp
theorem To (ht:TT t) (k:aI) (n:Bool):FC 116 [.agg [ST k,BL n,SL []]] [] (.ret (.sj 227 (.agg []))) []:=by
 refine cL ht Tryz.func116 (N:=12) ?_
 cbv
 refine ld (by simp [ht]) ?_
 cbv
 refine an ?_
 simp
theorem Tp (ht:TT t) (k:aI) (n:Bool) {vr:List (List D)} (hv:vr.length≠0):FC 116 [.agg [ST k,BL n,SL vr]] [] (.ret (.sj 228 (SL vr))) []:=by
 refine cL ht Tryz.func116 (N:=12) ?_
 cbv
 refine pE (by simp only [ht,ah,decide_eq_false_iff_not];omega) ?_
 cbv
 refine an ?_
 simp
theorem Kh (ht:TT t) (k:aI) (n:Bool) {vs:List aI} {vr:List (List D)} (Hv:vr=vs.map bf) (hv:vs.length<1000000000) {l:List dh} {ls:List (List D)} (hls:ls=l.map dh.cells) (hl:l.length<1000000000) (h0:vr=[]):
 FC 76 [.agg [ST k,BL n,SL vr],SL ls] [] (.ret (dH (t _ fun _=>kT ⟨k,n,vs⟩ l))) []:=by
 have hlen:vr.length=vs.length:=by rw [Hv,lgM]
 obtain ⟨H,hH⟩:∃H,H=kT ⟨k,n,vs⟩ l:=⟨_,rfl⟩
 rw [←hH]
 simp only [kT] at hH
 subst h0
 have Vw:vs.length=0:=by simpa using hlen.symm
 rw [if_pos (show vs.length=0 from Vw)] at hH
 clear Hv hlen
 refine cL ht Tryz.func76 (N:=24) ?_
 cbv
 have xk:ls.length=l.length:=by rw [hls,lgM]
 refine aP (HM ht _ ‹_› ‹_›) trv (fun r0 c8=>?_)
 simp only [ht] at c8
 cbv
 refine cE [false,false,false,false,false,false,false,false,false,true,true] ?_
 cbv
 iterate 3 refine gI (by simp) ?_
 (refine nE (fun g=>⟨by simpa [ht] using g,trv,To ht k n⟩) rfl rfl rfl ?_)
 cbv
 refine gI (by simp) ?_
 (refine Us (GL (fun g=>⟨by simpa [ht] using g,trv,HO ht _⟩) rfl rfl ?_))
 cbv
 refine gI (by simp [aJ]) ?_
 iterate 2 refine gI (by simp) ?_
 refine an ?_
 (simp only [ht];grind)
theorem Ki (ht:TT t) (k:aI) (n:Bool) {vs:List aI} {vr:List (List D)} (Hv:vr=vs.map bf) (hv:vs.length<1000000000) {l:List dh} {ls:List (List D)} (hls:ls=l.map dh.cells) (hl:l.length<1000000000) (h0:vr.length≠0):
 FC 76 [.agg [ST k,BL n,SL vr],SL ls] [] (.ret (dH (t _ fun _=>kT ⟨k,n,vs⟩ l))) []:=by
 have hlen:vr.length=vs.length:=by rw [Hv,lgM]
 obtain ⟨H,hH⟩:∃H,H=kT ⟨k,n,vs⟩ l:=⟨_,rfl⟩
 rw [←hH]
 simp only [kT] at hH
 rw [if_neg (show ¬vs.length=0 by omega)] at hH
 refine cL ht Tryz.func76 (N:=24) ?_
 cbv
 have xe:vr.length=vs.length:=by rw [Hv,lgM]
 have xk:ls.length=l.length:=by rw [hls,lgM]
 refine aP (HM ht _ ‹_› ‹_›) trv (fun r0 c8=>?_)
 simp only [ht] at c8
 cbv
 refine cE [false,false,false,false,false,false,false,false,false,true,true] ?_
 cbv
 iterate 3 refine gI (by simp) ?_
 (refine nE (fun g=>⟨by simpa [ht] using g,trv,Tp ht k n (by omega)⟩) rfl rfl rfl ?_)
 cbv
 refine gI (by simp) ?_
 (refine Us (eR (fun g=>⟨by simpa [ht] using g,trv,HN ht _ Hv hv⟩) rfl rfl (fun r1 cR=>?_));simp only [ht] at cR)
 cbv
 refine gI (by simp [aJ]) ?_
 iterate 2 refine gI (by simp) ?_
 refine an ?_
 (simp only [ht];grind)
theorem NA (ht:TT t) (k:aI) (n:Bool) {vs:List aI} {vr:List (List D)} (Hv:vr=vs.map bf) (hv:vs.length<1000000000) {l:List dh} {ls:List (List D)} (hls:ls=l.map dh.cells) (hl:l.length<1000000000):
 FC 76 [.agg [ST k,BL n,SL vr],SL ls] [] (.ret (dH (t _ fun _=>kT ⟨k,n,vs⟩ l))) []:=by
 by_cases h0:vr=[]
 ·exact Kh ht k n Hv hv hls hl h0
 exact Ki ht k n Hv hv hls hl (by intro h;exact h0 (List.length_eq_zero_iff.1 h))
theorem Kj (ht:TT t) (ls:List (List D)) {l:List (Term)} {es:List (List D)} (aD:es=l.map Term.cells) (f:Nat) (p:Term→Bool) (hl:l.length<9223372036854775807)
 (hf:∀x∈l,FC f [.agg [ST x.key,BL x.no,SL (x.mR.map bf)],.ptr 0 0] [.var [SL ls]] (.ret (BL (p x))) [.var [SL ls]]) {r:Int} (hr:r=idxOf p l):FC 114 [SL es,.fn f [.ptr 0 0]] [.var [SL ls]] (.ret (bF r)) [.var [SL ls]]:=by
 have hel:es.length=l.length:=by rw [aD,lgM]
 refine kM ht (bC:=[.var [SL ls]]) Tryz.func114 rfl rfl (N:=19) rfl rfl (n:=1) rfl rfl ?_
 cbv
 refine bE ⟨[0,1,7,8],[],[]⟩ (σ:=Nat) (fun k=>[(8,bF (t _ fun _=>(k:Int)))]) (fun _=>[]) (vL p l) ?_
 cbv
 refine aF ⟨l.length,0,.nil,by simp only [ht];rfl,fun n k hj=>?_⟩
 cbv
 apply ap<;>intro h
 ·simp only [ht,ah,decide_eq_true_eq] at h
  have hk:k<es.length:=by omega
  obtain ⟨x,hx,pK,px,hpx⟩:=hj.get (by omega)
  have iw:=hf x pK
  rw [←hpx] at iw
  obtain ⟨a,b,c⟩:=x;obtain ⟨Ht,mG⟩:∃lr:List (List D),lr=c.map bf:=⟨_,rfl⟩;simp only [←mG] at iw
  cbv
  refine iW [.str a,.bool b,.sl Ht] ?_ ?_ ?_
  ·simp only [ht,ah];exact sB aD hk fun _=>rfl
  ·simp [ht,ah,aD,hx,mG,Term.cells]
  cbv
  refine eE trv iw ?_
  cbv
  apply ap<;>intro hb
  ·cbv
   refine an ?_
   simp only [ht,ah,hr,hj.hit hx (hpx▸hb)]
  cbv
  refine aF ⟨n-1,k+1,⟨hj.lt hx,hj.next hx (hpx▸hb)⟩,?_⟩
  simp only [ht,ah,aE (show k<9223372036854775807 by omega)];rfl
 simp only [ht,ah,decide_eq_false_iff_not] at h
 have hk:l.length≤k:=by omega
 clear h
 cbv
 refine an ?_
 rw [hr,hj.none hk]
theorem Kk (ht:TT t) (ls:List (List D)) {l:List (Term)} {es:List (List D)} (aD:es=l.map Term.cells) (f:Nat) (p:Term→Bool) (hl:l.length<9223372036854775807)
 (hf:∀x∈l,FC f [.agg [ST x.key,BL x.no,SL (x.mR.map bf)],.ptr 0 0] [.var [SL ls]] (.ret (BL (p x))) [.var [SL ls]]) {r:Bool} (hr:r=l.any p):FC 74 [SL es,.fn f [.ptr 0 0]] [.var [SL ls]] (.ret (BL r)) [.var [SL ls]]:=by
 obtain ⟨k,hk⟩:∃k,k=idxOf p l:=⟨_,rfl⟩
 refine kM ht (bC:=[.var [SL ls]]) Tryz.func74 rfl rfl (N:=9) rfl rfl (n:=1) rfl rfl ?_
 cbv
 refine eE trv (Kj ht ls aD f p hl hf hk) ?_
 cbv
 refine an ?_
 simp only [ht,hr,iR,hk]
theorem QH (ht:TT t) (k:aI) (n:Bool) {vs:List aI} {vr:List (List D)} (Hv:vr=vs.map bf) (hv:vs.length<1000000000) {l:List dh} {ls:List (List D)} (hls:ls=l.map dh.cells) (hl:l.length<1000000000) {r:Bool} (hr:r=!kT ⟨k,n,vs⟩ l):
 FC 75 [.agg [ST k,BL n,SL vr],.ptr 0 0] [.var [SL ls]] (.ret (BL r)) [.var [SL ls]]:=by
 obtain ⟨H,hH⟩:∃H,H=kT ⟨k,n,vs⟩ l:=⟨_,rfl⟩
 rw [←hH] at hr
 refine kM ht (bC:=[.var [SL ls]]) Tryz.func75 rfl rfl (N:=8) rfl rfl (n:=1) rfl rfl ?_
 cbv
 have xe:vr.length=vs.length:=by rw [Hv,lgM]
 have xk:ls.length=l.length:=by rw [hls,lgM]
 refine aP (NA ht _ _ ‹_› ‹_› ‹_› ‹_›) trv (fun r1 cR=>?_)
 simp only [ht] at cR
 cbv
 refine an ?_
 (simp [*];done)
theorem Dp (ht:TT t) {x:List Term} {xr:List (List D)} (ET:xr=x.map Term.cells) (hx:x.length<1000000000) (Fh:∀m∈x,m.mR.length<1000000000) {l:List dh} {ls:List (List D)} (hls:ls=l.map dh.cells) (hl:l.length<1000000000):
 FC 34 [SL xr,SL ls] [] (.ret (dH (t _ fun _=>iL x l))) []:=by
 obtain ⟨r9,jP⟩:∃r,r=x.any (fun m=>!kT m l):=⟨_,rfl⟩
 refine cL ht Tryz.func34 (N:=9) ?_
 cbv
 have Kl:xr.length=x.length:=by rw [ET,lgM]
 have xk:ls.length=l.length:=by rw [hls,lgM]
 (refine dG [0] trv rfl rfl (Kk ht ls ET 75 (fun m=>!kT m l) (by omega) (fun m hm=>QH ht _ _ rfl (Fh m hm) hls hl rfl) jP) (cD ?_))
 cbv
 refine an ?_
 (simp [ht,iL,jP];done)
end Dem
end
section
open Go
namespace Dem
section
variable {P:Program} {G:Nat→Option (List D)}
theorem yE {f:Nat} {args:List AV} {bx aR pT:List az} {v v2:AV} (h:bA P G f args bx (.ret v) aR)
 (hs:∀β w X u,cJ G β aR w X→aj β aR w (bg β aR w X) v u→Ext β aR w β pT w∧cJ G β pT w X∧aj β pT w (bg β pT w X) v2 u):bA P G f args bx (.ret v2) pT:=by
 intro β w vs X cx hx
 refine jB.mono (h β w vs X cx hx) ?_
 rintro e w' ⟨β',ex,mP,hr⟩
 cases e with
 |returned u=>
  obtain ⟨a,b,c⟩:=hs β' w' X u mP hr
  exact ⟨β',ex.trans a,b,c⟩
 |panicked ch=>exact hr.elim
 |outgrown=>exact hr.elim
theorem QI {β:Nat→Nat} {bx:List az} {w:World} {b:Nat} {B B':az} (hb:bx[b]?=some B) (hl:B.live=true) (dL:B'.born=true):Ext β bx w β (bx.set b B') w:=by
 refine ⟨rfl,rfl,rfl,Nat.le_refl _,fun _ _ _=>rfl,fun k c e f h=>⟨c,h,rfl⟩,fun i hi=>⟨rfl,iH dL hi⟩,?_⟩
 intro i b' h1 h2
 rcases aM h1 with ⟨rfl,rfl,_⟩|⟨_,h3⟩
 ·exact .inr ⟨_,B,hb,hl,rfl⟩
 exact .inr ⟨i,b',h3,h2,rfl⟩
theorem Bo {f b sz k c:Nat} {ex:Bool} {args:List AV} {bx aR pT:List az} {es r:List (List D)} (hk:0<k) (hb:aR[b]?=some (.row sz es)) (V3:k≤es.length) (hr:r=es.take k) (h2:pT=aR.set b (.row sz r))
 (h:bA P G f args bx (.ret (.vw b sz 0 k c ex)) aR):bA P G f args bx (.ret (.ow b sz k)) pT:=by
 subst hr h2
 refine yE h fun β w X u cx hv=>?_
 have hne:es≠[]:=by intro h;rw [h] at V3;simp at V3;omega
 have cz:(az.row sz es).live=true:=by cases es with
  |nil=>exact absurd rfl hne
  |cons _ _=>rfl
 have ht:es.take k≠[]:=by
  intro h;have:=congrArg List.length h;simp at this;rcases this with h|h
  ·omega
  exact hne h
 have aaw:(az.row sz (es.take k)).live=true:=by
  cases hq:es.take k with
  |nil=>exact absurd hq ht
  |cons _ _=>rfl
 have ext:Ext β aR w β (aR.set b (.row sz (es.take k))) w:=QI hb cz rfl
 simp only [aj] at hv
 obtain ⟨h1,base,cap,cs,e,f',rfl,h3,h4,h5,h6⟩:=hv
 refine ⟨ext,cx.step ext ?_ ?_,?_⟩
 ·intro i b' hi
  rcases aM hi with ⟨rfl,rfl,_⟩|⟨h7,h8⟩
  ·refine .inr ?_
   rcases cx.box _ _ hb with h|⟨c2,e2,g1,g2⟩
   ·exact absurd h hne
   exact .inr ⟨c2,e2,g1,ay.mono (ext.keeps X) _ _ (fun _=>rfl) _ _ (ay.Fx k _ _ g2)⟩
  exact .inl ⟨h8,fun _=>rfl⟩
 ·intro i j bi bj hi hj li lj he
  rcases aM hi with ⟨rfl,rfl,_⟩|⟨h7,h8⟩<;>rcases aM hj with ⟨rfl,rfl,_⟩|⟨h9,h10⟩
  ·rfl
  ·exact cx.inj _ _ _ _ hb h10 cz lj he
  ·exact cx.inj _ _ _ _ h8 hb li cz he
  exact cx.inj _ _ _ _ h8 h10 li lj he
 simp only [aj]
 refine ⟨(ext.born b h1).2,.inr ⟨by omega,cap,?_⟩⟩
 rcases h6 with h6|⟨rfl,h7,h8⟩
 ·omega
 exact ⟨cs,e,f',by simp,h3,h7,by simpa using h8⟩
theorem Bp {f b sz k c:Nat} {ex:Bool} {args:List AV} {bx aR pT:List az} {es r:List (List D)} (hb:aR[b]?=some (.row sz es)) (V3:k≤es.length) (hr:r=es.take k) (h2:pT=aR.set b .dead)
 (h:bA P G f args bx (.ret (.vw b sz 0 k c ex)) aR):bA P G f args bx (.ret (.d (.sl r))) pT:=by
 subst hr h2
 refine yE h fun β w X u cx hv=>?_
 have ext:Ext β aR w β (aR.set b .dead) w:=iI hb rfl rfl
 simp only [aj] at hv
 obtain ⟨h1,base,cap,cs,e,f',rfl,h3,h4,h5,h6⟩:=hv
 refine ⟨ext,jZ cx hb rfl rfl (by simp [dj]),?_⟩
 have hl:(es.take k).length=k:=by simp;omega
 simp only [aj,aL]
 refine ⟨base,cap,by rw [hl],by rw [hl];exact h3,?_⟩
 by_cases hk:k=0
 ·exact .inl (by rw [hk];rfl)
 refine .inr ?_
 rcases h6 with h6|⟨rfl,h7,h8⟩
 ·omega
 rcases cx.box _ _ hb with h|⟨c2,e2,g1,g2⟩
 ·rw [h] at V3;simp at V3;omega
 refine ⟨β b,0,sz,by simp,⟨ff g1,?_,?_⟩,ay.mono (ext.keeps X) _ _ (fun _=>rfl) _ _ (ay.Fx k _ _ g2)⟩
 ·refine cx.apart b _ hb ?_
  cases es with
  |nil=>simp at V3;omega
  |cons _ _=>rfl
 intro i b' h9 h10 he
 rcases aM h9 with ⟨rfl,rfl,_⟩|⟨h11,h12⟩
 ·simp [az.live] at h10
 refine h11 (cx.inj i b b' _ h12 hb h10 ?_ he)
 cases es with
 |nil=>simp at V3;omega
 |cons _ _=>rfl
theorem ak.split {β:Nat→Nat} {bx:List az} {w:World} {ok:Nat→Prop}:∀{xs ys:List AV} {vs:List Value},ak β bx w ok (xs++ys) vs→∃us ws,vs=us++ws∧ak β bx w ok xs us∧ak β bx w ok ys ws
 |[],_,vs,h=>⟨[],vs,rfl,by simp only [ak],h⟩
 |x::xs,ys,vs,h=>by
  rw [List.cons_append] at h
  simp only [ak] at h ⊢
  obtain ⟨u,us,rfl,h1,h2⟩:=h
  obtain ⟨a,b,rfl,h3,h4⟩:=ak.split h2
  exact ⟨u::a,b,rfl,⟨u,a,rfl,h1,h3⟩,h4⟩
theorem qP {f g b:Nat} {xs:List AV} {cs:List AV} {ds:List D} {bx pS aR:List az} {res:iU} (hb:bx[b]?=some (.var cs)) (hd:iV [] cs=some ds) (h1:pS=bx.set b .dead)
 (h:bA P G f (xs++[.fn g [.ep ds]]) pS res aR):bA P G f (xs++[.fn g [.ptr b 0]]) bx res aR:=by
 subst h1
 intro β w vs X cx hx
 have ext:Ext β bx w β (bx.set b .dead) w:=iI hb rfl rfl
 have mP:cJ G β (bx.set b .dead) w X:=jZ cx hb rfl rfl (by simp [dj])
 obtain ⟨c2,e2,g1,g2⟩:=cx.box _ _ hb
 have hok:bg β (bx.set b .dead) w X (β b):=by
  refine ⟨ff g1,cx.apart b _ hb rfl,?_⟩
  intro i b' h3 h4 he
  rcases aM h3 with ⟨rfl,rfl,_⟩|⟨h5,h6⟩
  ·simp [az.live] at h4
  exact h5 (cx.inj i b b' _ h6 hb h4 rfl he)
 have hrow:aX w (bg β bx w X) (β b) ds 0:=by
  refine DR ds 0 c2.toList ?_ (rJ hd g2)
  intro j v hj
  simp only [World.cell?,g1]
  simpa using hj
 have Dq:=aX.mono (ext.keeps X) _ (fun _=>rfl) _ _ hrow
 obtain ⟨us,ws0,rfl,hu,hw⟩:=ak.split hx
 simp only [ak,aj] at hw
 obtain ⟨v,vs',rfl,⟨ws,rfl,w1,ws',rfl,⟨rfl,DX⟩,rfl⟩,rfl⟩:=hw
 refine jB.mono (h β w _ X mP ?_) ?_
 ·refine ak.append (ak.mono (ext.eY X) _ _ hu) ?_
  simp only [ak,aj]
  exact ⟨_,_,rfl,⟨_,rfl,_,_,rfl,⟨β b,0,rfl,hok,Dq⟩,rfl⟩,rfl⟩
 rintro e w' ⟨β',ex,aax,hr⟩
 exact ⟨β',ext.trans ex,aax,hr⟩
theorem o9 {f g b:Nat} {x:AV} {cs:List AV} {ds:List D} {bx pS aR:List az} {res:iU} (hb:bx[b]?=some (.var cs)) (hd:iV [] cs=some ds) (h1:pS=bx.set b .dead)
 (h:bA P G f [x,.fn g [.ep ds]] pS res aR):bA P G f [x,.fn g [.ptr b 0]] bx res aR:=qP (xs:=[x]) hb hd h1 h
end
end Dem
end
section
open Go Dem Go.Proofs
namespace Dem
variable {t:Th}
theorem yF (ht:TT t) {es:List (List D)} (aD:∀r∈es,r.length=6) (hs:es.length*72≤140737488355328) {m:Nat} (hm:m=es.length):
 FC 191 [SL es] [] (.ret (.ow 0 6 m)) [.row 6 es]:=by
 refine cL ht Tryz.func191 (N:=8) ?_
 cbv
 refine ⟨fun b hb=>?_⟩
 simp only [ht] at hb
 cbv
 apply ap<;>intro h
 ·have he:=hb h
  subst he
  cbv
  exact GN trv rfl rfl (by rw [hm];rfl) rfl
 clear hb h
 cbv
 refine ⟨?_,?_⟩
 ·simp only [ht];simp;exact ⟨hs,aD⟩
 refine Cb trv rfl rfl rfl rfl ?_ ?_
 ·simp only [ht];rw [hm];simp
 simp only [ht];rfl
theorem NB (ht:TT t) (xr:List (List D)) {l:List (bL)} {es:List (List D)} (aD:es=l.map bL.cells) (f:Nat) (p:bL→Bool) (hl:l.length<9223372036854775807)
 (hf:∀x∈l,FC f [.agg [ST x.node,aB x.free.a,aB x.free.b,aB x.free.c,aB x.free.d,SL (x.labels.map dh.cells)],.ep [.sl xr]] [] (.ret (BL (p x))) []) {r:Int} (hr:r=idxOf p l):FC 216 [SL es,.fn f [.ep [.sl xr]]] [] (.ret (bF r)) []:=by
 have hel:es.length=l.length:=by rw [aD,lgM]
 refine cL ht Tryz.func216 (N:=19) ?_
 cbv
 refine bE ⟨[0,1,7,8],[],[]⟩ (σ:=Nat) (fun k=>[(8,bF (t _ fun _=>(k:Int)))]) (fun _=>[]) (vL p l) ?_
 cbv
 refine aF ⟨l.length,0,.nil,by simp only [ht];rfl,fun n k hj=>?_⟩
 cbv
 apply ap<;>intro h
 ·simp only [ht,ah,decide_eq_true_eq] at h
  have hk:k<es.length:=by omega
  obtain ⟨x,hx,pK,px,hpx⟩:=hj.get (by omega)
  have iw:=hf x pK
  rw [←hpx] at iw
  obtain ⟨nd,⟨v1,v2,v3,v4⟩,lb⟩:=x;obtain ⟨Ht,mG⟩:∃lr:List (List D),lr=lb.map dh.cells:=⟨_,rfl⟩;simp only [←mG] at iw
  cbv
  refine iW [.str nd,.int .u64 v1,.int .u64 v2,.int .u64 v3,.int .u64 v4,.sl Ht] ?_ ?_ ?_
  ·simp only [ht,ah];exact sB aD hk fun _=>rfl
  ·simp [ht,ah,aD,hx,mG,bL.cells]
  cbv
  refine eE trv iw ?_
  cbv
  apply ap<;>intro hb
  ·cbv
   refine an ?_
   simp only [ht,ah,hr,hj.hit hx (hpx▸hb)]
  cbv
  refine aF ⟨n-1,k+1,⟨hj.lt hx,hj.next hx (hpx▸hb)⟩,?_⟩
  simp only [ht,ah,aE (show k<9223372036854775807 by omega)];rfl
 simp only [ht,ah,decide_eq_false_iff_not] at h
 have hk:l.length≤k:=by omega
 clear h
 cbv
 refine an ?_
 rw [hr,hj.none hk]
theorem Km (ht:TT t) (xr:List (List D)) {l:List (bL)} {es:List (List D)} (aD:es=l.map bL.cells) {m c:Nat} (hm:m=l.length) (hc:m≤c) (f:Nat) (p:bL→Bool) (hl:l.length<9223372036854775807)
 (hf:∀x∈l,FC f [.agg [ST x.node,aB x.free.a,aB x.free.b,aB x.free.c,aB x.free.d,SL (x.labels.map dh.cells)],.ep [.sl xr]] [] (.ret (BL (p x))) []) {r:List (List D)} (hr:r=(l.filter (fun x=>!p x)).map bL.cells) {kk:Nat} (hkk:kk=r.length) {rz:List (List D)} (HP:rz=r++List.replicate (m-kk) [.str [],.int .u64 0,.int .u64 0,.int .u64 0,.int .u64 0,.sl []]):
 FC 190 [.vw 0 6 0 m c true,.fn f [.ep [.sl xr]]] [.row 6 es] (.ret (.vw 0 6 0 kk c true)) [.row 6 rz]:=by
 have hel:es.length=m:=by rw [aD,lgM,hm]
 have hrows:∀r∈es,r.length=6:=by rw [aD];intro r hr;obtain ⟨y,_,rfl⟩:=List.mem_map.1 hr;rfl
 obtain ⟨k,hk⟩:∃k,k=idxOf p l:=⟨_,rfl⟩
 have P9:(t (List (List D)) fun _=>(es.drop 0).take m)=l.map bL.cells:=by simp only [ht];rw [List.drop_zero,List.take_of_length_le (by omega),aD]
 have hidx:=NB ht xr P9 f p hl hf hk
 obtain ⟨J,hJ⟩:∃J:Nat→Nat×Nat×List (List D)→Prop,∀n v,J n v↔(v.2.1+n=m∧v.1<v.2.1∧v.2.2.length=m∧(∀r∈v.2.2,r.length=6)∧v.2.2.take v.1=((l.take v.2.1).filter (fun x=>!p x)).map bL.cells∧v.2.2.drop v.2.1=es.drop v.2.1):=⟨fun n v=>v.2.1+n=m∧v.1<v.2.1∧v.2.2.length=m∧(∀r∈v.2.2,r.length=6)∧v.2.2.take v.1=((l.take v.2.1).filter (fun x=>!p x)).map bL.cells∧v.2.2.drop v.2.1=es.drop v.2.1,fun _ _=>Iff.rfl⟩
 refine kM ht (bC:=[.row 6 es]) Tryz.func190 rfl rfl (N:=42) rfl rfl (n:=1) rfl rfl ?_
 cbv
 refine PJ (TT.eq ht) (v:=bF k) [true] [] trv rfl ?_ rfl rfl rfl rfl rfl rfl rfl hidx ?_
 ·simp [ht];omega
 cbv
 apply ap<;>intro h
 ·have wi:k=-1:=by simp [ht] at h;exact h
  have hnone:=nX (hk▸wi:idxOf p l=-1)
  clear h
  cbv
  have OX:r=es:=by rw [hr,filter_all hnone,←aD]
  have hkm:kk=m:=by rw [hkk,OX,hel]
  have V5:rz=es:=by rw [HP,hkm,Nat.sub_self,OX];simp
  rw [V5,hkm]
  exact Jn trv rfl rfl
 have wi:k≠-1:=by simp [ht] at h;exact h
 clear h
 obtain ⟨i0,x0,UI,hx0,Qa,hb0⟩:=nY (hk▸wi:idxOf p l≠-1)
 rw [←hk] at UI
 subst UI
 have Yf:i0<m:=by rw [hm];exact (List.getElem?_eq_some_iff.1 hx0).1
 cbv
 refine bE ⟨[0,1,5,6],[],[]⟩ (σ:=Nat×Nat×List (List D)) (fun v=>[(5,bF (t _ fun _=>(v.1:Int))),(6,bF (t _ fun _=>(v.2.1:Int)))]) (fun v=>[(0,.row 6 (t _ fun _=>v.2.2))]) J ?_
 cbv
 refine aF ⟨m-(i0+1),(i0,i0+1,es),(hJ _ _).2 ⟨?_,?_,hel,hrows,?_,rfl⟩,by simp only [ht,ah,Int.ofNat_eq_natCast,aE (show i0<9223372036854775807 by omega)];rfl,?_⟩
 ·show i0+1+(m-(i0+1))=m;omega
 ·show i0<i0+1;omega
 ·show es.take i0=_
  rw [dy hx0,List.filter_append,filter_all hb0,aD,←List.map_take];simp [Qa]
 rintro n ⟨i,j,cur⟩ hj
 obtain ⟨j1,j2,j3,j4,j5,j6⟩:=(hJ _ _).1 hj
 clear hj
 simp only at j1 j2 j3 j4 j5 j6
 cbv
 apply ap<;>intro h
 ·have Oi:j<m:=by simp [ht,ah] at h;omega
  clear h
  obtain ⟨x,hx⟩:∃x,l[j]?=some x:=⟨l[j]'(by omega),by simp⟩
  have pK:x∈l:=List.mem_of_getElem? hx
  have iw:=hf x pK
  have Hr:cur[j]?=some (bL.cells x):=by
   have:(cur.drop j)[0]?=(es.drop j)[0]?:=by rw [j6]
   rw [List.getElem?_drop,List.getElem?_drop,Nat.add_zero,aD,List.getElem?_map,hx] at this
   exact this
  obtain ⟨px,hpx⟩:∃b,b=p x:=⟨_,rfl⟩
  rw [←hpx] at iw
  obtain ⟨cx,EH⟩:∃cx,cx=bL.cells x:=⟨_,rfl⟩
  rw [←EH] at Hr
  have hstep:(l.take (j+1)).filter (fun x=>!p x)=(l.take j).filter (fun x=>!p x)++(if px then [] else [x]):=by
   rw [dy hx,List.filter_append];cases px<;>simp [←hpx]
  obtain ⟨nd,⟨v1,v2,v3,v4⟩,lb⟩:=x;obtain ⟨Ht,mG⟩:∃lr:List (List D),lr=lb.map dh.cells:=⟨_,rfl⟩;simp only [bL.cells,←mG] at iw EH
  cbv
  refine ⟨?_,PE [.str nd,.int .u64 v1,.int .u64 v2,.int .u64 v3,.int .u64 v4,.sl Ht] ?_ ?_ ?_⟩
  ·simp [ht,ah];omega
  ·simp [ht,ah,j3];omega
  ·simp [ht,ah,List.getD_eq_getElem?_getD,Hr,EH]
  cbv
  refine dG [] trv rfl rfl iw (cD ?_)
  cbv
  apply ap<;>intro hb
  ·have hb':px=false:=by simpa [ht] using hb
   clear hb
   obtain ⟨nc,hnc⟩:∃nc,nc=cur.set i cx:=⟨_,rfl⟩
   have pN:(cur.getD i []).length=6:=j4 _ (by rw [List.getD_eq_getElem?_getD,List.getElem?_eq_getElem (by omega)];exact List.getElem_mem _)
   cbv
   refine ⟨?_,?_⟩
   ·simp [ht,ah];omega
   refine ⟨?_,?_⟩
   ·simp [ht,ah,j3];exact ⟨by omega,by simpa using pN.symm▸(Nat.le_refl _)⟩
   refine aF ⟨n-1,(i+1,j+1,nc),⟨by omega,(hJ _ _).2 ⟨?_,?_,?_,?_,?_,?_⟩⟩,?_⟩
   ·show j+1+(n-1)=m;omega
   ·show i+1<j+1;omega
   ·show nc.length=m;rw [hnc,List.length_set];exact j3
   ·show ∀r∈nc,r.length=6
    intro r hr;rw [hnc] at hr
    rcases List.mem_or_eq_of_mem_set hr with hr|rfl
    ·exact j4 r hr
    rw [EH];rfl
   ·show nc.take (i+1)=_
    rw [hnc,kB _ _ _ (by omega),j5,hstep,hb',EH];simp [mG,bL.cells]
   ·show nc.drop (j+1)=es.drop (j+1)
    rw [hnc,nk _ _ _ _ (by omega),←List.drop_drop,j6,List.drop_drop]
   simp only [ht,ah,Int.ofNat_eq_natCast,aE (show i<9223372036854775807 by omega),aE (show j<9223372036854775807 by omega)]
   have ei:0+((i:Int)).toNat=i:=by simp
   have e:cur.set i (be (cur.getD i []) 0 [.str nd,.int .u64 v1,.int .u64 v2,.int .u64 v3,.int .u64 v4,.sl Ht])=nc:=by rw [hnc,kx _ _ (by rw [pN];rfl),EH]
   simp only [ei,e];rfl
  have hb':px=true:=by simpa [ht] using hb
  clear hb
  cbv
  refine aF ⟨n-1,(i,j+1,cur),⟨by omega,(hJ _ _).2 ⟨?_,?_,j3,j4,?_,?_⟩⟩,?_⟩
  ·show j+1+(n-1)=m;omega
  ·show i<j+1;omega
  ·show cur.take i=_
   rw [j5,hstep,hb'];simp
  ·show cur.drop (j+1)=es.drop (j+1)
   rw [←List.drop_drop,j6,List.drop_drop]
  simp only [ht,ah,Int.ofNat_eq_natCast,aE (show j<9223372036854775807 by omega)];rfl
 have Oi:j=m:=by simp [ht,ah] at h;omega
 clear h
 obtain ⟨mi,x8⟩:∃mi,mi=m-i:=⟨_,rfl⟩
 obtain ⟨ci,pN⟩:∃ci,ci=c-i:=⟨_,rfl⟩
 obtain ⟨nc,hnc⟩:∃nc,nc=wrote cur i (List.replicate mi [.str [],.int .u64 0,.int .u64 0,.int .u64 0,.int .u64 0,.sl []]):=⟨_,rfl⟩
 have hnt:nc.take i=r:=by
  have hl':(cur.take i).length=i:=by simp;omega
  rw [hnc,wrote,List.append_assoc,List.take_left' hl',j5,hr,Oi,hm,List.take_length]
 have Yg:i≤nc.length:=by rw [hnc];simp [wrote];omega
 cbv
 refine bH (.vw 0 6 i mi ci true) [.row 6 cur] ?_ ?_ ?_ ?_
 ·simp [ht,ah,dJ,bO];omega
 ·simp [ht,ah,aW,aT,x8,pN]
 ·simp only [ht]
 cbv
 refine bH (.dV []) [.row 6 nc] ?_ rfl ?_ ?_
 ·simp [ht,eO]
  refine ⟨by omega,?_⟩
  intro h;rw [h] at j3;simp at j3;omega
 ·simp only [ht,hnc]
 cbv
 refine bH (.vw 0 6 0 i c true) [.row 6 nc] ?_ ?_ rfl ?_
 ·simp [ht,ah,dJ,bO];omega
 ·simp [ht,ah,aW,aT]
 cbv
 have hki:kk=i:=by rw [hkk,←hnt];simp;omega
 have V5:rz=nc:=by
  rw [HP,hki,←hnt,hnc,wrote]
  have hl':(cur.take i).length=i:=by simp;omega
  rw [List.append_assoc,List.take_left' hl',List.drop_of_length_le (by simp;omega),List.append_nil,x8]
 rw [V5,hki]
 exact Jn trv rfl rfl
theorem Kn (ht:TT t) (nd:aI) (v1 v2 v3 v4:Int) {lb:List dh} {lr:List (List D)} (hlr:lr=lb.map dh.cells) (hlb:lb.length<1000000000) {x:List Term} {xr:List (List D)} (ET:xr=x.map Term.cells) (hx:x.length<1000000000) (Fh:∀m∈x,m.mR.length<1000000000) {r:Bool} (hr:r=!iL x lb):
 FC 192 [.agg [ST nd,aB v1,aB v2,aB v3,aB v4,SL lr],.ep [.sl xr]] [] (.ret (BL r)) []:=by
 obtain ⟨H,hH⟩:∃H,H=iL x lb:=⟨_,rfl⟩
 rw [←hH] at hr
 refine cL ht Tryz.func192 (N:=9) ?_
 cbv
 have VR:lr.length=lb.length:=by rw [hlr,lgM]
 have Kl:xr.length=x.length:=by rw [ET,lgM]
 refine aP (Dp ht ‹_› ‹_› ‹_› ‹_› ‹_›) trv (fun r0 c8=>?_)
 simp only [ht] at c8
 cbv
 refine an ?_
 (simp [ht,hr,hH,c8];done)
def Int.cells (x:Int):List D:=[.int .u64 x]
def Int.bw (_:Th) (x:Int):List D:=[.int .u64 x]
theorem EU (ht:TT t) (x:Int):FC 102 [aB x] [] (.ret (dH (t _ fun _=>false))) []:=by
 refine cL ht Tryz.func102 (N:=6) ?_
 cbv
 refine an ?_
 (simp [ht];done)
theorem QJ (ht:TT t) (x y:Int):FC 51 [aB x,aB y] [] (.ret (kS (t _ fun _=>iX x y))) []:=by
 refine cL ht Tryz.func51 (N:=20) ?_
 cbv
 refine aP (EU ht _) trv (fun r0 c8=>?_)
 simp only [ht] at c8
 cbv
 refine aP (EU ht _) trv (fun r1 cR=>?_)
 simp only [ht] at cR
 cbv
 apply ap<;>intro h2
 ·cbv
  apply ap<;>intro h3
  ·cbv
   refine an ?_
   (simp only [ht,iX];grind)
  cbv
  refine an ?_
  (simp only [ht,iX];grind)
 cbv
 apply ap<;>intro h4
 ·cbv
  refine an ?_
  (simp only [ht,iX];grind)
 cbv
 apply ap<;>intro h5
 ·simp [ht] at h5
  cbv
  refine an ?_
  (simp [iX, *];done)
 simp [ht] at h5
 cbv
 apply ap<;>intro h6
 ·simp [ht] at h6
  cbv
  refine an ?_
  (simp [iX, *];done)
 simp [ht] at h6
 cbv
 refine an ?_
 (simp only [ht,iX];grind)
def cmpL:List Int→List Int→Int
 |x::r,y::s=>if iX x y≠0 then iX x y else cmpL r s
 |_,_=>0
theorem Ko (ht:TT t) {l m:List Int} {es fs:List (List D)} (aD:es=l.map Int.cells) (Yq:fs=m.map Int.cells) (hlm:l.length=m.length) (hl:l.length<1000000000):
 FC 217 [SL es,SL fs] [] (.ret (kS (t _ fun _=>cmpL l m))) []:=by
 refine cL ht Tryz.func217 (N:=36) ?_
 cbv
 have aQ:es.length=l.length:=by rw [aD,lgM]
 have mJ:fs.length=m.length:=by rw [Yq,lgM]
 obtain ⟨J0,fK⟩:∃J0:Nat→Int→Prop,∀n i,J0 n i↔(∃k:Nat,i=k∧k+n=l.length∧l.length=m.length∧cmpL l m=cmpL (l.drop k) (m.drop k)):=⟨fun n v=>match v with|i=>(∃k:Nat,i=k∧k+n=l.length∧l.length=m.length∧cmpL l m=cmpL (l.drop k) (m.drop k)),fun _ _=>Iff.rfl⟩
 refine bE ⟨[0,1,9,10,11],[],[]⟩ (σ:=Int) (fun v=>[(11,.d (.int .i64 (t _ fun _=>v)))]) (fun v=>[]) J0 ?_
 cbv
 refine aF ⟨l.length,_,(fK _ _).2 ?_,by simp only [ht];rfl,?_⟩
 ·exact ⟨0,rfl,by simp,by omega,by simp⟩
 rintro n i hj
 replace hj:=(fK _ _).1 hj
 obtain ⟨k,rfl,j1,j2,j4⟩:=hj
 cbv
 apply ap<;>intro h1
 ·simp [ht,ah,aQ] at h1
  cbv
  refine kL ht aD (cT:=Int.bw t) (by (simp only [ht,ah];omega)) (by (simp only [ht,ah];omega)) (fun _=>rfl) (fun _=>rfl) (fun x2 oc=>?_)
  simp [ht,ah] at oc
  rw [gW oc] at j4
  cbv
  apply ap<;>intro h3
  ·simp [ht,ah,mJ] at h3
   omega
  simp [ht,ah,mJ] at h3
  cbv
  refine kL ht Yq (cT:=Int.bw t) (by (simp only [ht,ah];omega)) (by (simp only [ht,ah];omega)) (fun _=>rfl) (fun _=>rfl) (fun x4 NC=>?_)
  simp [ht,ah] at NC
  rw [gW NC] at j4
  cbv
  refine aP (QJ ht _ _) trv (fun r5 zo=>?_)
  simp only [ht] at zo
  cbv
  apply ap<;>intro h6
  ·simp [ht] at h6
   cbv
   refine an ?_
   (simp only [ht];rw [j4,cmpL,←zo,if_pos ‹_›];done)
  simp [ht] at h6
  cbv
  refine cr _ (by simp only [ht];rfl) (n-1) ?_ ((fK _ _).2 ?_)
  ·omega
  simp only [ah]
  exact ⟨k+1,aE (by omega),by omega,by omega,by rw [j4,cmpL,←zo,if_neg (by omega)]⟩
 simp [ht,ah,aQ] at h1
 cbv
 apply ap<;>intro h7
 ·simp [ht,ah,aQ,mJ] at h7
  omega
 simp [ht,ah,aQ,mJ] at h7
 cbv
 refine an ?_
 (simp [ht,j4,List.drop_eq_nil_of_le (show l.length≤k by omega),cmpL];done)
theorem QK (a0 a1 a2 a3 b0 b1 b2 b3:Int):cmpL [a0,a1,a2,a3] [b0,b1,b2,b3]=qA ⟨a0,a1,a2,a3⟩ ⟨b0,b1,b2,b3⟩:=by
 simp only [cmpL,qA]
 by_cases h0:iX a0 b0=0<;>by_cases h1:iX a1 b1=0<;>by_cases h2:iX a2 b2=0<;>by_cases h3:iX a3 b3=0<;>simp [h0,h1,h2,h3]
theorem ND (ht:TT t) (a0 a1 a2 a3 b0 b1 b2 b3:Int):FC 193 [V4 a0 a1 a2 a3,V4 b0 b1 b2 b3] [] (.ret (kS (t _ fun _=>qA ⟨a0,a1,a2,a3⟩ ⟨b0,b1,b2,b3⟩))) []:=by
 obtain ⟨o,ho⟩:∃o,o=qA ⟨a0,a1,a2,a3⟩ ⟨b0,b1,b2,b3⟩:=⟨_,rfl⟩
 rw [←ho]
 refine cL ht Tryz.func193 (N:=8) ?_
 cbv
 (apply Lp [] (.more 0 (.one 1 (.one 2 (.one 3 .done))) (.one 1 (.one 0 (.one 2 (.one 3 .done)))));kernel_rfl;kernel_rfl;kernel_rfl;kernel_rfl;(next=>cbv;repeat (first|(refine nF trv (Ko ht (l:=[a0,a1,a2,a3]) (m:=[b0,b1,b2,b3]) rfl rfl rfl (by simp)) trv rfl rfl rfl (fun r0 c8=>?_);simp only [ht,QK,←ho] at c8;subst r0;cbv)|refine And.intro ?_ ?_)))
 cbv
 refine an ?_
 (simp [ht];done)
theorem Bq (ht:TT t) {l:List bL} {es:List (List D)} (aD:es=l.map bL.cells) (hl:l.length<1000000) (hlb:∀s∈l,s.labels.length<1000000000) {x:List Term} {xr:List (List D)} (ET:xr=x.map Term.cells) (hx:x.length<1000000000) (Fh:∀m∈x,m.mR.length<1000000000)
 {m c k:Nat} (hm:m=l.length) (hc:m≤c) {r:List (List D)} (hr:r=(fitting l x).map bL.cells) (hk:k=r.length) {rz:List (List D)} (HP:rz=r++List.replicate (m-k) [.str [],.int .u64 0,.int .u64 0,.int .u64 0,.int .u64 0,.sl []]):
 FC 190 [.vw 0 6 0 m c true,.fn 192 [.ep [.sl xr]]] [.row 6 es] (.ret (.vw 0 6 0 k c true)) [.row 6 rz]:=
 Km ht xr aD hm hc 192 (fun s=>!iL x s.labels) (by omega) (fun s hs=>Kn ht _ _ _ _ _ rfl (hlb s hs) ET hx Fh rfl) (by rw [hr,fitting];simp) hk HP
theorem Tq {r z:List (List D)} {k:Nat} (hk:k=r.length):r=(r++z).take k:=by rw [hk,List.take_left]
theorem Kq (ht:TT t) {l:List bL} {es:List (List D)} (aD:es=l.map bL.cells) (hl:l.length<1000000) (hlb:∀s∈l,s.labels.length<1000000000) {x:List Term} {xr:List (List D)} (ET:xr=x.map Term.cells) (hx:x.length<1000000000) (Fh:∀m∈x,m.mR.length<1000000000)
 (h0:fitting l x=[]):FC 148 [SL es,SL xr] [] (.ret (SL [])) []:=by
 obtain ⟨m,hm⟩:∃m,m=l.length:=⟨_,rfl⟩
 have hel:m=es.length:=by rw [aD,lgM,hm]
 have hrows:∀r∈es,r.length=6:=by rw [aD];intro r hr;obtain ⟨y,_,rfl⟩:=List.mem_map.1 hr;rfl
 have hD:FC 190 [.ow 1 6 m,.fn 192 [.ptr 0 0]] [.var [SL xr],.row 6 es] (.ret (SL [])) [.dead,.dead]:=
  o9 rfl rfl rfl<|dD [1] rfl rfl rfl rfl<|dR fun c hc _=>Bp rfl (by simp) (by simp) rfl (Bq ht aD hl hlb ET hx Fh hm hc (r:=[]) (by rw [h0];rfl) (k:=0) rfl rfl)
 refine cL ht Tryz.func148 (N:=9) ?_
 cbv
 refine jV trv (yF ht hrows (by omega) hel) trv rfl (.inr rfl) ?_
 cbv
 refine eE trv hD ?_
 cbv
 refine an ?_
 simp
theorem NE (ht:TT t) {l:List bL} {es:List (List D)} (aD:es=l.map bL.cells) (hl:l.length<1000000) (hlb:∀s∈l,s.labels.length<1000000000) {x:List Term} {xr:List (List D)} (ET:xr=x.map Term.cells) (hx:x.length<1000000000) (Fh:∀m∈x,m.mR.length<1000000000)
 {r:List (List D)} (hr:r=(fitting l x).map bL.cells) {k:Nat} (hk:k=r.length) (h0:0<k):FC 148 [SL es,SL xr] [] (.ret (.ow 0 6 k)) [.row 6 r]:=by
 obtain ⟨m,hm⟩:∃m,m=l.length:=⟨_,rfl⟩
 have hel:m=es.length:=by rw [aD,lgM,hm]
 have hrows:∀r∈es,r.length=6:=by rw [aD];intro r hr;obtain ⟨y,_,rfl⟩:=List.mem_map.1 hr;rfl
 obtain ⟨rz,HP⟩:∃rz,rz=r++List.replicate (m-k) [.str [],.int .u64 0,.int .u64 0,.int .u64 0,.int .u64 0,.sl []]:=⟨_,rfl⟩
 have hD:FC 190 [.ow 1 6 m,.fn 192 [.ptr 0 0]] [.var [SL xr],.row 6 es] (.ret (.ow 1 6 k)) [.dead,.row 6 r]:=
  o9 rfl rfl rfl<|dD [1] rfl rfl rfl rfl<|dR fun c hc _=>Bo h0 rfl (by rw [HP,hk];simp) (by rw [HP];exact Tq hk) rfl (Bq ht aD hl hlb ET hx Fh hm hc hr hk HP)
 refine cL ht Tryz.func148 (N:=9) ?_
 cbv
 refine jV trv (yF ht hrows (by omega) hel) trv rfl (.inr rfl) ?_
 cbv
 refine eE trv hD ?_
 cbv
 exact Cb trv rfl rfl rfl rfl rfl rfl
theorem L2 {x:bL} {v:bG} {B C:Ep} {r:bG×Bool} {o:Int} (er:r=dO x.free v) (eo:o=qA r.1 B.left) (h:r.2=true→B.ok=true∧0≤o):
 (if (dO x.free v).2&&(!B.ok||decide (qA (dO x.free v).1 B.left<0)) then C else B)=B:=by
 rw [←er,←eo,if_neg]
 intro g
 simp only [Bool.and_eq_true,Bool.or_eq_true,Bool.not_eq_true',decide_eq_true_eq] at g
 obtain ⟨g1,g2⟩:=g
 obtain ⟨g3,g4⟩:=h g1
 rcases g2 with g2|g2
 ·rw [g3] at g2;cases g2
 omega
def Yr (r:Ep):AV:=.dV [bF r.at_,V4 r.left.a r.left.b r.left.c r.left.d,BL r.ok]
theorem L3 (ht:TT t) (d1 d2 d3 d4:Int) {l:List bL} {es:List (List D)} (aD:es=l.map bL.cells) (hl:l.length<1000000):
 FC 149 [SL es,V4 d1 d2 d3 d4] [] (.ret (Yr (t _ fun _=>best l ⟨d1,d2,d3,d4⟩))) []:=by
 refine cL ht Tryz.func149 (N:=42) ?_
 cbv
 have aQ:es.length=l.length:=by rw [aD,lgM]
 obtain ⟨J0,fK⟩:∃J0:Nat→Int×Bool×Int×Int×Int×Int×Int→Prop,∀n A K i a b c d,J0 n (A,K,i,a,b,c,d)↔(∃(k:Nat) (B:Ep),i=k∧k+n=l.length∧A=B.at_∧K=B.ok∧a=B.left.a∧b=B.left.b∧c=B.left.c∧d=B.left.d∧best l ⟨d1,d2,d3,d4⟩=mC ⟨d1,d2,d3,d4⟩ (l.drop k) k B):=⟨fun n v=>match v with|(A,K,i,a,b,c,d)=>(∃(k:Nat) (B:Ep),i=k∧k+n=l.length∧A=B.at_∧K=B.ok∧a=B.left.a∧b=B.left.b∧c=B.left.c∧d=B.left.d∧best l ⟨d1,d2,d3,d4⟩=mC ⟨d1,d2,d3,d4⟩ (l.drop k) k B),fun _ _ _ _ _ _ _ _=>Iff.rfl⟩
 refine bE ⟨[0,3,4,5,6,11,12],[],[]⟩ (σ:=Int×Bool×Int×Int×Int×Int×Int) (fun v=>[(4,.d (.int .i64 (t _ fun _=>v.1))),(6,.d (.bool (t _ fun _=>v.2.1))),(12,.d (.int .i64 (t _ fun _=>v.2.2.1)))]) (fun v=>[(1,.var [.d (.int .u64 (t _ fun _=>v.2.2.2.1)),.d (.int .u64 (t _ fun _=>v.2.2.2.2.1)),.d (.int .u64 (t _ fun _=>v.2.2.2.2.2.1)),.d (.int .u64 (t _ fun _=>v.2.2.2.2.2.2))])]) J0 ?_
 cbv
 refine aF ⟨l.length,(_,_,_,_,_,_,_),(fK _ _ _ _ _ _ _ _).2 ?_,by simp only [ht];rfl,?_⟩
 ·exact ⟨0,⟨0,bG.zero,false⟩,rfl,by simp,rfl,rfl,rfl,rfl,rfl,rfl,rfl⟩
 rintro n ⟨A,K,i,a,b,c,d⟩ hj
 replace hj:=(fK _ _ _ _ _ _ _ _).1 hj
 obtain ⟨k,⟨q1,⟨q2,q3,q4,q5⟩,q6⟩,rfl,j1,rfl,rfl,rfl,rfl,rfl,rfl,j4⟩:=hj
 cbv
 apply ap<;>intro h1
 ·simp [ht,ah,aQ] at h1
  cbv
  refine qM [0,1] [0,1,7,8,9] [false,false,false,false,false,false,false,false,false,false,false,true,true] ?_
  cbv
  iterate 2 refine gI (by simp) ?_
  refine kL ht aD (cT:=bL.bw t) (by (simp only [ht,ah];omega)) (by (simp only [ht,ah];omega)) (fun _=>rfl) (fun _=>(by (simp only [ht,bL.bw];rfl))) (fun x2 oc=>?_)
  simp [ht,ah] at oc
  rw [gW oc,mC] at j4
  cbv
  iterate 3 refine gI (by simp) ?_
  refine .inl ?_
  refine eR (fun g3=>⟨trv,trv,Tk ht _ _ _ _ _ _ _ _⟩) rfl rfl (fun r4 kW=>?_)
  simp only [ht] at kW
  cbv
  iterate 6 refine gI (by simp) ?_
  iterate 2 refine gI (by simp [ht]) ?_
  refine eR (fun g5=>⟨by simp [ht] at g5 ⊢;exact g5,trv,ND ht _ _ _ _ _ _ _ _⟩) rfl rfl (fun r6 ou=>?_)
  simp only [ht] at ou
  cbv
  refine gI (by simp [ht]) ?_
  refine gI (by simp [ht,aJ];intros;simp_all) ?_
  refine pI (by simp) ?_
  apply ap<;>intro h7
  ·simp [ht] at h7
   cbv
   refine cE [false,false,false,true,true] ?_
   cbv
   iterate 3 refine gI (by simp) ?_
   refine cr (_,_,_,_,_,_,_) (by simp only [ht];rfl) (n-1) ?_ ((fK _ _ _ _ _ _ _ _).2 ?_)
   ·omega
   simp only [ah]
   first|exact ⟨k+1,⟨k,_,true⟩,aE (by omega),by omega,rfl,rfl,rfl,rfl,rfl,rfl,by rw [j4];congr 1;simp_all⟩|exact ⟨k+1,⟨q1,⟨a,b,c,d⟩,K⟩,aE (by ((try simp only [ah] at*);omega)),by ((try simp only [ah] at*);omega),rfl,rfl,rfl,rfl,rfl,rfl,by rw [j4,L2 (B:=⟨q1,⟨a,b,c,d⟩,K⟩) kW ou h7]⟩
  simp [ht] at h7
  cbv
  refine cr (_,_,_,_,_,_,_) (by simp only [ht];rfl) (n-1) ?_ ((fK _ _ _ _ _ _ _ _).2 ?_)
  ·omega
  simp only [ah]
  first|exact ⟨k+1,⟨k,_,true⟩,aE (by omega),by omega,rfl,rfl,rfl,rfl,rfl,rfl,by rw [j4];congr 1;simp_all⟩|exact ⟨k+1,⟨q1,⟨a,b,c,d⟩,K⟩,aE (by omega),by omega,rfl,rfl,rfl,rfl,rfl,rfl,by rw [j4,L2 (B:=⟨q1,⟨a,b,c,d⟩,K⟩) kW ou h7]⟩
 simp [ht,ah,aQ] at h1
 cbv
 refine Gx [0,2] [false,false,false,false,true,true] (by kernel_rfl) (by kernel_rfl) (by kernel_rfl) (by kernel_rfl) (by kernel_rfl) ?_
 cbv
 iterate 4 refine gI (by simp) ?_
 refine an ?_
 (rw [List.drop_eq_nil_of_le (by omega),mC] at j4;simp only [ht,j4];rfl)
theorem HQ {v:bG} {n:Nat} {l:List bL} {out:List aI} (h:0<n):mS v n l out=if !(best l v).ok then ([],false) else
 mS v (n-1) (l.set (best l v).at_ {l.getD (best l v).at_ default with free:=(best l v).left}) (out++[(l.getD (best l v).at_ default).node]):=by
 obtain ⟨n',rfl⟩:∃n',n=n'+1:=⟨n-1,by omega⟩
 rfl
theorem HR {v:bG}:∀(l:List bL) (k:Nat) (b:Ep),(b.ok=true→b.at_<k)→(mC v l k b).ok=true→(mC v l k b).at_<k+l.length
 |[],k,b,h,g=>h g
 |s::r,k,b,h,g=>by
  rw [mC] at g ⊢
  have:=HR r (k+1) _ (by
   intro g2
   split
   ·show k<k+1;omega
   rename_i hh;rw [if_neg hh] at g2;have:=h g2;omega) g
  simp only [List.length_cons];omega
theorem Tr {v:bG} {l:List bL} (h:(best l v).ok=true):(best l v).at_<l.length:=by
 have:=HR l 0 _ (by simp) h
 simpa [best] using this
theorem L4 {l:List bL} {x:List Term} {v:bG} {c:Int} (h:8<c):fit l x v c=([],false):=by rw [fit,if_pos h]
theorem EV {l L:List bL} {x:List Term} {v:bG} {c:Int} {m:Nat} (h:c≤8) (hm:(m:Int)=max c 0) (hL:L=fitting l x):fit l x v c=mS v m L []:=by
 rw [fit,if_neg (by omega),hL];congr 1;omega
theorem QL {cur:List bL} {y:bL} {i:Nat} {u:List (List D)} (ju:u=cur.map bL.cells) (hy:cur[i]?=some y) (v:bG):
 u.set i (be (u.getD i []) 1 [.int .u64 v.a,.int .u64 v.b,.int .u64 v.c,.int .u64 v.d])=(cur.set i {y with free:=v}).map bL.cells:=by
 rw [List.map_set,ju];congr 1
 simp [List.getD_eq_getElem?_getD,hy,bL.cells,be]
def HS (t:Th) (r:List aI×Bool):AV:=.dV [SL (t _ fun _=>r.1.map bf),BL r.2]
theorem Ts (ht:TT t) (d1 d2 d3 d4 c:Int) {l:List bL} {es:List (List D)} (aD:es=l.map bL.cells) (hl:l.length<1000000) (hlb:∀s∈l,s.labels.length<1000000000) {x:List Term} {xr:List (List D)} (ET:xr=x.map Term.cells) (hx:x.length<1000000000) (Fh:∀m∈x,m.mR.length<1000000000)
 (h0:fitting l x≠[]):FC 95 [SL es,SL xr,V4 d1 d2 d3 d4,bF c] [] (.ret (HS t (t _ fun _=>fit l x ⟨d1,d2,d3,d4⟩ c))) []:=by
 obtain ⟨L,hL⟩:∃L,L=fitting l x:=⟨_,rfl⟩
 have Iz:L.length<1000000:=by rw [hL];exact Nat.lt_of_le_of_lt (List.length_filter_le _ _) hl
 obtain ⟨r,hr⟩:∃r,r=L.map bL.cells:=⟨_,rfl⟩
 obtain ⟨k,hk⟩:∃k,k=r.length:=⟨_,rfl⟩
 have hkL:k=L.length:=by rw [hk,hr,lgM]
 have hk0:0<k:=by rw [hkL,hL];exact List.length_pos_iff.2 h0
 obtain ⟨m,hm⟩:∃m:Nat,(m:Int)=max c 0:=⟨(max c 0).toNat,by omega⟩
 refine cL ht Tryz.func95 (N:=47) ?_
 cbv
 have aQ:es.length=l.length:=by rw [aD,lgM]
 have Kl:xr.length=x.length:=by rw [ET,lgM]
 have Ys:r.length=L.length:=by rw [hr,lgM]
 apply ap<;>intro h0
 ·simp [ht] at h0
  cbv
  refine an ?_
  (simp only [ht];rw [L4 ‹_›];rfl)
 simp [ht] at h0
 cbv
 (refine jV trv (NE ht aD hl hlb ET hx Fh (hL▸hr) hk hk0) trv rfl (.inr rfl) ?_)
 cbv
 obtain ⟨J1,oe⟩:∃J1:Nat→List (List D)×Int×List (List D)→Prop,∀n o i u,J1 n (o,i,u)↔(∃(q:Nat) (cur:List bL) (out:List aI),i=q∧q+n=m∧u=cur.map bL.cells∧o=out.map bf∧cur.length=k∧out.length=q∧mS ⟨d1,d2,d3,d4⟩ m L []=mS ⟨d1,d2,d3,d4⟩ n cur out):=⟨fun n v=>match v with|(o,i,u)=>(∃(q:Nat) (cur:List bL) (out:List aI),i=q∧q+n=m∧u=cur.map bL.cells∧o=out.map bf∧cur.length=k∧out.length=q∧mS ⟨d1,d2,d3,d4⟩ m L []=mS ⟨d1,d2,d3,d4⟩ n cur out),fun _ _ _ _=>Iff.rfl⟩
 refine bE ⟨[0,6,10,20,21],[(10,1)],[]⟩ (σ:=List (List D)×Int×List (List D)) (fun v=>[(10,.ow 2 1 (t _ fun _=>(v.1).length)),(21,.d (.int .i64 (t _ fun _=>v.2.1)))]) (fun v=>[(2,.row 1 (t _ fun _=>v.1)),(0,.row 6 (t _ fun _=>v.2.2))]) J1 ?_
 cbv
 refine aF ⟨m,([],_,_),(oe _ _ _ _).2 ?_,by simp only [ht];rfl,?_⟩
 ·exact ⟨0,L,[],rfl,by simp,hr,rfl,hkL.symm,rfl,rfl⟩
 rintro n ⟨o,i,u⟩ hj
 replace hj:=(oe _ _ _ _).1 hj
 obtain ⟨q,cur,out,rfl,j1,ju,jo,j2,j3,j4⟩:=hj
 have LP:u.length=cur.length:=by rw [ju,lgM]
 have Yi:o.length=out.length:=by rw [jo,lgM]
 cbv
 apply ap<;>intro h2
 ·simp [ht,ah] at h2
  cbv
  (refine aP (L3 ht _ _ _ _ (l:=cur) (by simp only [ht];exact ju) (by omega)) (by simp only [ht];exact ⟨by rw [ju,lgM];exact j2.symm,trv⟩) (fun rb UP=>?_);simp only [ht] at UP;rw [HQ (show 0<n by ((try simp only [ah] at*);omega)),←UP] at j4;have hlt:rb.ok=true→rb.at_<cur.length:=fun g=>by rw [UP] at g ⊢;exact Tr g)
  cbv
  apply ap<;>intro h3
  ·simp [ht] at h3
   cbv
   refine an ?_
   (simp only [ht];rw [EV ‹_› hm hL,j4,h3];rfl)
  simp [ht] at h3
  cbv
  refine ⟨?_,?_⟩
  ·(simp only [ht];have Yt:rb.at_<cur.length:=hlt ‹_›;exact ⟨Int.natCast_nonneg _,by rw [←j2];exact Int.ofNat_lt.2 Yt⟩)
  cbv
  (have hl3:=hlt ‹_›;obtain ⟨y,hy⟩:∃y,cur[rb.at_]?=some y:=⟨_,List.getElem?_eq_getElem hl3⟩;have hyd:cur.getD rb.at_ default=y:=(by simp [List.getD_eq_getElem?_getD,hy]);rw [hyd] at j4;refine PE (bL.bw t y) (by simp only [ht];rw [ju,lgM];exact hl3) (by simp only [ht];rw [ju];simp [List.getD_eq_getElem?_getD,hy,bL.cells,bL.bw,ht]) ?_)
  cbv
  refine ⟨?_,?_⟩
  ·(simp only [ht];grind)
  refine ⟨?_,?_⟩
  ·(simp only [ht];have Yt:rb.at_<cur.length:=hlt ‹_›;exact ⟨Int.natCast_nonneg _,by rw [←j2];exact Int.ofNat_lt.2 Yt⟩)
  refine ⟨?_,?_⟩
  ·(simp only [ht];rw [ju,lgM];refine ⟨hl3,?_⟩;simp [List.getD_eq_getElem?_getD,hy,bL.cells];done)
  cbv
  refine cr (_,_,_) (by simp only [ht,←List.length_append];rfl) (n-1) ?_ ((oe _ _ _ _).2 ?_)
  ·((try simp only [ah] at*);omega)
  simp only [ah]
  (exact ⟨q+1,cur.set rb.at_ {y with free:=rb.left},out++[y.node],aE (by ((try simp only [ah] at*);omega)),by ((try simp only [ah] at*);omega),QL ju hy _,by simp [jo],by simp [j2],by simp [j3],by rw [j4,h3];rfl⟩)
 simp [ht,ah] at h2
 cbv
 refine iq trv (by simp [ht]) rfl rfl rfl ?_
 (simp only [ht];rw [EV ‹_› hm hL,j4,show n=0 by ((try simp only [ah] at*);omega)];simp [mS,jo];done)
theorem Tt (ht:TT t) (d1 d2 d3 d4 c:Int) {l:List bL} {es:List (List D)} (aD:es=l.map bL.cells) (hl:l.length<1000000) (hlb:∀s∈l,s.labels.length<1000000000) {x:List Term} {xr:List (List D)} (ET:xr=x.map Term.cells) (hx:x.length<1000000000) (Fh:∀m∈x,m.mR.length<1000000000)
 (h9:fitting l x=[]):FC 95 [SL es,SL xr,V4 d1 d2 d3 d4,bF c] [] (.ret (HS t (t _ fun _=>fit l x ⟨d1,d2,d3,d4⟩ c))) []:=by
 obtain ⟨m,hm⟩:∃m:Nat,(m:Int)=max c 0:=⟨(max c 0).toNat,by omega⟩
 refine cL ht Tryz.func95 (N:=47) ?_
 cbv
 have aQ:es.length=l.length:=by rw [aD,lgM]
 have Kl:xr.length=x.length:=by rw [ET,lgM]
 apply ap<;>intro h0
 ·simp [ht] at h0
  cbv
  refine an ?_
  (simp only [ht];rw [L4 ‹_›];rfl)
 simp [ht] at h0
 cbv
 (refine Lv trv (Kq ht aD hl hlb ET hx Fh h9) trv rfl rfl rfl ?_)
 cbv
 obtain ⟨J1,oe⟩:∃J1:Nat→List (List D)×Int→Prop,∀n o i,J1 n (o,i)↔(i=0∧n=m∧o=[]):=⟨fun n v=>match v with|(o,i)=>(i=0∧n=m∧o=[]),fun _ _ _=>Iff.rfl⟩
 refine bE ⟨[0,6,10,20,21],[(10,1)],[]⟩ (σ:=List (List D)×Int) (fun v=>[(10,.ow 1 1 (t _ fun _=>(v.1).length)),(21,.d (.int .i64 (t _ fun _=>v.2)))]) (fun v=>[(1,.row 1 (t _ fun _=>v.1))]) J1 ?_
 cbv
 refine aF ⟨m,([],_),(oe _ _ _).2 ?_,by simp only [ht];rfl,?_⟩
 ·exact ⟨rfl,rfl,rfl⟩
 rintro n ⟨o,i⟩ hj
 replace hj:=(oe _ _ _).1 hj
 obtain ⟨rfl,j1,rfl⟩:=hj
 cbv
 apply ap<;>intro h2
 ·simp [ht] at h2
  cbv
  (refine aP (L3 ht _ _ _ _ (l:=[]) rfl (by simp)) (by simp) (fun rb UP=>?_);simp only [ht] at UP;replace UP:rb=⟨0,bG.zero,false⟩:=UP;subst UP)
  cbv
  apply ap<;>intro h3
  ·simp [ht] at h3
   cbv
   refine an ?_
   (simp only [ht];rw [EV ‹_› hm h9.symm,HQ (show 0<m by ((try simp only [ah] at*);omega))];rfl)
  simp [ht] at h3
 simp [ht] at h2
 cbv
 refine iq trv (by simp [ht]) rfl rfl rfl ?_
 (simp only [ht];rw [EV ‹_› hm h9.symm,show m=0 by ((try simp only [ah] at*);omega)];rfl)
theorem Kr (ht:TT t) (d1 d2 d3 d4 c:Int) {l:List bL} {es:List (List D)} (aD:es=l.map bL.cells) (hl:l.length<1000000) (hlb:∀s∈l,s.labels.length<1000000000) {x:List Term} {xr:List (List D)} (ET:xr=x.map Term.cells) (hx:x.length<1000000000) (Fh:∀m∈x,m.mR.length<1000000000):
 FC 95 [SL es,SL xr,V4 d1 d2 d3 d4,bF c] [] (.ret (HS t (t _ fun _=>fit l x ⟨d1,d2,d3,d4⟩ c))) []:=by
 by_cases h9:fitting l x=[]
 ·exact Tt ht d1 d2 d3 d4 c aD hl hlb ET hx Fh h9
 exact Ts ht d1 d2 d3 d4 c aD hl hlb ET hx Fh h9
theorem L5 (ht:TT t) (bz:Int) {l:List Node} {ps:List Place} {es qs:List (List D)} (aD:es=l.map Node.cells) (dZ:qs=ps.map Place.cells) (hl:ps.length<1000000):
 FC 108 [.agg [SL es,SL qs],aB bz] [] (.ret (Ly t (t _ fun _=>qE ⟨l,ps⟩ bz))) []:=by
 simp only [ht,Ly,qE];rw [←aD];exact JR ht bz dZ hl rfl
theorem L6 (ht:TT t) (rd nx ef af:Int) {nl:List Node} {pl:List Place} {tl:List bc} {jl:List Jb} {ql:List ct} {el al:List dU} {ns ps ts js qs es cu:List (List D)} (fI:ns=nl.map Node.cells) (hps:ps=pl.map Place.cells) (hts:ts=tl.map bc.cells) (eW:js=jl.map Jb.cells) (dZ:qs=ql.map ct.cells) (aD:es=el.map dU.cells) (has:cu=al.map dU.cells) (ji ja jb jc jd jn jp jt jf:Int) (jq:aI) (jr:Bool) {pL:List Term} {HT:List (List D)} (yV:HT=pL.map Term.cells) {z:Int} {k:Nat} (hz:z=k) (hk:k<jl.length) (hjl:jl.length<1000000):
 FC 79 [.agg [aB rd,aB nx,SL ns,SL ps,SL ts,SL js,SL qs,aB ef,SL es,aB af,SL cu],bF z,.agg [aB ji,ST jq,aB ja,aB jb,aB jc,aB jd,bF jn,bF jp,bF jt,SL HT,BL jr,bF jf]] [] (.ret (fZ t (t _ fun _=>C2 ⟨rd,nx,⟨nl,pl⟩,tl,jl,ql,⟨ef,el⟩,⟨af,al⟩⟩ k ⟨ji,⟨jq,⟨ja,jb,jc,jd⟩,jn,jp,jt,pL⟩,jr,jf⟩))) []:=by
 refine cL ht Tryz.func79 (N:=17) ?_
 cbv
 obtain ⟨dS,eU,ej,eV,cW,aQ,dw⟩:=gF fI hps hts eW dZ aD has
 have EW:HT.length=pL.length:=by rw [yV,lgM]
 refine jV trv (nu ht ‹_› ‹_›) trv rfl (.inr rfl) ?_
 cbv
 refine ⟨?_,?_⟩
 ·(simp [*];done)
 refine ⟨?_,?_⟩
 ·(simp [Jb.cells, *];done)
 cbv
 refine iq trv (by simp [ht]) rfl rfl rfl ?_
 (simp [C2,Jb.cells,List.map_set,be, *];done)
theorem HU (ht:TT t) (rd nx ef af:Int) {nl:List Node} {pl:List Place} {tl:List bc} {jl:List Jb} {ql:List ct} {el al:List dU} {ns ps ts js qs es cu:List (List D)} (fI:ns=nl.map Node.cells) (hps:ps=pl.map Place.cells) (hts:ts=tl.map bc.cells) (eW:js=jl.map Jb.cells) (dZ:qs=ql.map ct.cells) (aD:es=el.map dU.cells) (has:cu=al.map dU.cells) (ji ja jb jc jd jn jp jt jf:Int) (jq:aI) (jr:Bool) {pL:List Term} {HT:List (List D)} (yV:HT=pL.map Term.cells) (hu:(⟨ja,jb,jc,jd⟩:bG).u') (hjq:jq.length<1000000000000) (htl:tl.length<100000) (Fi:pl.length<1000000):
 FC 62 [.agg [aB rd,aB nx,SL ns,SL ps,SL ts,SL js,SL qs,aB ef,SL es,aB af,SL cu],.agg [aB ji,ST jq,aB ja,aB jb,aB jc,aB jd,bF jn,bF jp,bF jt,SL HT,BL jr,bF jf]] [] (.ret (fZ t (t _ fun _=>ng ⟨rd,nx,⟨nl,pl⟩,tl,jl,ql,⟨ef,el⟩,⟨af,al⟩⟩ ⟨ji,⟨jq,⟨ja,jb,jc,jd⟩,jn,jp,jt,pL⟩,jr,jf⟩))) []:=by
 obtain ⟨⟨⟨v1,v2,v3,v4⟩,vk⟩,hv⟩:∃r,r=cV ⟨jq,⟨ja,jb,jc,jd⟩,jn,jp,jt,pL⟩:=⟨_,rfl⟩
 obtain ⟨⟨t9,e9⟩,h9⟩:∃r,r=rR tl jq ⟨v1,v2,v3,v4⟩:=⟨_,rfl⟩
 have hF:ng ⟨rd,nx,⟨nl,pl⟩,tl,jl,ql,⟨ef,el⟩,⟨af,al⟩⟩ ⟨ji,⟨jq,⟨ja,jb,jc,jd⟩,jn,jp,jt,pL⟩,jr,jf⟩=⟨rd,nx,qE ⟨nl,pl⟩ ji,(if vk then t9 else tl),jl,ql,⟨ef,el⟩,⟨af,al⟩⟩:=by
  simp only [ng,←hv,←h9]
 rw [hF]
 refine cL ht Tryz.func62 (N:=32) ?_
 cbv
 obtain ⟨dS,eU,ej,eV,cW,aQ,dw⟩:=gF fI hps hts eW dZ aD has
 have EW:HT.length=pL.length:=by rw [yV,lgM]
 (refine aP (rX ht jq ja jb jc jd jn jp jt (sl:=pL) HT hu) trv (fun r9 jP=>?_);simp only [ht] at jP;rw [←hv] at jP;subst jP)
 cbv
 apply ap<;>intro h0
 ·cbv
  refine aC (J7 ht _ _ _ _ _ ‹_› ‹_› ‹_›) trv (fun r1 cR=>?_)
  simp only [ht] at cR
  rw [←h9] at cR
  subst r1
  cbv
  refine aC (L5 ht _ ‹_› ‹_› ‹_›) trv (fun r2 ix=>?_)
  simp only [ht] at ix
  cbv
  refine an ?_
  (subst ix;simp [*];done)
 cbv
 refine aC (L5 ht _ ‹_› ‹_› ‹_›) trv (fun r3 lm=>?_)
 simp only [ht] at lm
 cbv
 refine an ?_
 (simp [*];done)
theorem EX (ht:TT t) {es:List (List D)} {i m c:Nat} (hm:m=es.length) (hi:i<m) (hc:m≤c) (aD:∀r∈es,r.length=12) (hs:m<1000000) {r:List (List D)} (hr:r=es.take i++es.drop (i+1)):
 FC 64 [.vw 0 12 0 m c true,bF (i:Int),bF ((i+1:Nat):Int)] [.row 12 es] (.ret (SL r)) [.dead]:=by
 obtain ⟨i1,hi1⟩:∃i1,i1=i+1:=⟨_,rfl⟩
 rw [←hi1] at hr ⊢
 refine kM ht (bC:=[.row 12 es]) Tryz.func64 rfl rfl (N:=33) rfl rfl (n:=1) rfl rfl ?_
 cbv
 obtain ⟨mi,x8⟩:∃n,n=m-i:=⟨_,rfl⟩
 obtain ⟨Tu,V6⟩:∃n,n=m-i1:=⟨_,rfl⟩
 obtain ⟨w9,JO⟩:∃n,n=c-i1:=⟨_,rfl⟩
 refine bH (.vw 0 12 i 1 mi true) [.row 12 es] ?_ ?_ rfl ?_
 ·simp [ht,ah,bO];omega
 ·simp [ht,ah,aW,x8,hi1]
 cbv
 refine pE (by simp [ht,hi1];omega) ?_
 cbv
 refine cE [false,false,false,false,false,false,true,true] ?_
 cbv
 refine gI (by simp) (gI (by simp) ?_)
 refine ij (.vw 0 12 0 i c true) (fun _=>⟨?_,?_⟩) ?_
 ·simp [ht,dJ,bO];omega
 ·simp [ht,aW,aT]
 cbv
 refine gI (by simp) (gI (by simp) ?_)
 refine ij (.vw 0 12 i1 Tu w9 true) (fun _=>⟨?_,?_⟩) ?_
 ·simp [ht,dJ,bO];omega
 ·simp [ht,aW,aT,V6,JO]
 cbv
 obtain ⟨m1,Zc⟩:∃n,n=m-1:=⟨_,rfl⟩
 obtain ⟨cm1,V7⟩:∃n,n=c-m1:=⟨_,rfl⟩
 obtain ⟨R1,QM⟩:∃R,R=wrote es i (es.drop i1):=⟨_,rfl⟩
 have tk:(es.drop i1).take Tu=es.drop i1:=List.take_of_length_le (by rw [List.length_drop];omega)
 have dl:(es.drop i1).length=Tu:=by rw [List.length_drop];omega
 have xo:R1.length=m:=by rw [QM];simp [wrote];omega
 have V8:R1.take m1=r:=by
  rw [QM,hr]
  unfold wrote
  rw [List.take_append_of_le_length (by simp;omega),List.take_of_length_le (by simp;omega)]
 refine bH (.vw 0 12 0 m1 c true) [.row 12 R1,.bt] ?_ ?_ ?_ ?_
 ·simp only [ht,tk,dl,eO,Nat.zero_add]
  exact ⟨by omega,⟨by omega,fun h=>by rw [h] at hm;simp at hm;omega⟩,by omega,fun r h=>aD r (List.mem_of_mem_drop h)⟩
 ·simp only [ht,tk,dl];rw [show i+Tu=m1 by omega]
 ·simp only [ht,tk,Nat.zero_add,QM]
 cbv
 refine bH (.vw 0 12 m1 1 cm1 true) [.row 12 R1,.bt] ?_ ?_ rfl ?_
 ·simp [ht,ah,dJ,bO];omega
 ·simp [ht,ah,aW,aT,V7];omega
 cbv
 obtain ⟨R2,QN⟩:∃R,R=wrote R1 m1 (List.replicate 1 [D.int IntKind.u64 0,D.str [],D.int IntKind.u64 0,D.int IntKind.u64 0,D.int IntKind.u64 0,D.int IntKind.u64 0,D.int IntKind.i64 0,D.int IntKind.i64 0,D.int IntKind.i64 0,D.sl [],D.bool false,D.int IntKind.i64 0]):=⟨_,rfl⟩
 have Yu:R2.length=m:=by rw [QN];simp [wrote,xo];omega
 have V9:R2.take m1=r:=by
  rw [←V8,QN]
  unfold wrote
  rw [List.append_assoc,List.take_append_of_le_length (by simp [xo];omega),List.take_take,Nat.min_self]
 refine bH (.dV []) [.row 12 R2,.bt] ?_ rfl ?_ ?_
 ·simp only [ht,eO];exact ⟨by omega,fun h=>by rw [h] at xo;simp at xo;omega⟩
 ·simp only [ht,QN]
 cbv
 refine yQ [true] trv ?_ rfl rfl rfl ?_
 ·simp only [ht];omega
 simp only [ht,List.drop_zero,V9]
theorem vU (ht:TT t) {l:List Jb} {i:Nat} {z z1:Int} (hz:z=i) (hz1:z1=(i:Int)+1) (hi:i<l.length) (hs:l.length<1000000):
 FC 64 [.ow 0 12 (t _ fun _=>(l.map Jb.cells).length),bF z,bF z1] [.row 12 (t _ fun _=>l.map Jb.cells)] (.ret (SL (t _ fun _=>(l.eraseIdx i).map Jb.cells))) [.dead]:=by
 simp only [ht]
 have e1:z1=((i+1:Nat):Int):=by omega
 subst hz
 rw [e1]
 refine dR (fun c hc hc0=>EX ht (es:=l.map Jb.cells) (i:=i) rfl (by simpa using hi) hc ?_ (by simpa using hs) ?_)
 ·intro r hr;obtain ⟨y,_,rfl⟩:=List.mem_map.1 hr;rfl
 rw [List.eraseIdx_eq_take_drop_succ,List.map_append,List.map_take,List.map_drop]
end Dem
end
section
open Go
namespace Dem
section
variable {P:Program} {T:Nat→Option TI} {G:Nat→Option (List D)} {N K:Nat}
theorem Br (hT:kr P T) (hD:qb P T G) {f N:Nat} {fn:Func} {c:Code} {args:List AV} {bC aR:List az} {res:iU} (hf:P.funcs[f]?=some fn) (hb:fn.body=some c)
 (hname:(fn.name== "runtime.NumGoroutine")=false) (hN:fn.ntmps=N) (hlen:Nat.ble args.length N=true) {pre rest:List Code} (hc:flat c=pre++rest) (R:St→Prop)
 (hr:∀(X:Nat→Prop) (β0:Nat→Nat) (w0:World) (β:Nat→Nat) (w:World) (s:St) (a:Act),Ext β0 bC w0 β s.bx w→Fr G N [] β w X s a→R s→
  tK P rest (gG G N [] X β0 bC w0 (vf t0 T fn.results.toList bC.length res aR)) a w)
 (h:PK t0 (bA P G) T G N bC.length pre (fun e s=>match e with|.normal=>R s|e=>vf t0 T fn.results.toList bC.length res aR e s) ⟨pu 0 args,bC⟩):bA P G f args bC res aR:=by
 refine uP hT hf hb hname hN hlen fun β w X a hF=>wp_mono (Ef c ?_) (fun _ _ _ hl=>gG.imp (fun _ _ hq=>Lu hq) hl)
 rw [hc]
 refine ye (GR ?_ (tL (X:=X) (β0:=β) (bC:=bC) (w0:=w) hT hD (Nat.le_refl _) pre _ β w _ a (Ext.refl _ _ _) hF h))
 intro e a1 w1 hl
 cases e<;>simp only [gG,Exit.then] at hl ⊢
 ·obtain ⟨β1,s1,zU,Fj,hR⟩:=hl
  exact hr X β w β1 w1 s1 a1 zU Fj hR
 all_goals exact hl
structure Wa (n:Nat) (K:Nat→Prop):Prop where
 ok:∀c,n≤c→(n=0→c=0)→K c
def QO (t:Th) (FC:Nat→List AV→List az→iU→List az→Prop) (T:Nat→Option TI) (G:Nat→Option (List D)) (N K:Nat) (post:List Code) (i:Nat) (Q:Ex→St→Prop) (s:St):Prop:=
 match gK i s.sl with
 |.ow b sz n=>Wa n fun c=>PK t FC T G N K post Q ⟨put i (.vw b sz 0 n c true) s.sl,s.bx⟩
 |_=>False
theorem HV (hT:kr P T) (hD:qb P T G) {bC:List az} (hK:bC.length≤K) {post:List Code} {i:Nat} {Q:Ex→St→Prop} {X:Nat→Prop} {β0:Nat→Nat} {w0:World} {β:Nat→Nat} {w:World} {s:St} {a:Act} (ex:Ext β0 bC w0 β s.bx w) (hF:Fr G N [] β w X s a)
 (h:QO t0 (bA P G) T G N K post i Q s):tK P post (gG G N [] X β0 bC w0 Q) a w:=by
 unfold QO at h
 split at h
 case h_2=>exact h.elim
 rename_i b sz n hi
 obtain ⟨h⟩:=h
 have hx:=hF.ze i
 rw [hi] at hx
 simp only [aj] at hx
 have key:∀c,n≤c→(n=0→c=0)→aj β s.bx w (bg β s.bx w X) (.vw b sz 0 n c true) (a.tmps.getD i undef)→tK P post (gG G N [] X β0 bC w0 Q) a w:=by
  intro c h1 h2 h3
  refine tL hT hD hK post Q β w ⟨put i (.vw b sz 0 n c true) s.sl,s.bx⟩ a ex ⟨hF.cx,hF.defers,hF.size,fun t=>?_⟩ (h c h1 h2)
  rw [oK]
  by_cases ht:t=i
  ·subst ht;rw [if_pos rfl];exact h3
  rw [if_neg ht];exact hF.ze t
 obtain ⟨hb,⟨rfl,base,e⟩|⟨h0,cap,c,e1,f',e,h1,h2,h3⟩⟩:=hx
 ·refine key 0 (Nat.le_refl _) (fun _=>rfl) ?_
  rw [e]
  simp only [aj]
  exact ⟨hb,base,0,#[],0,(0,0),rfl,Nat.le_refl _,Nat.le_refl _,fun _=>rfl,.inl rfl⟩
 refine key cap h1 (fun h=>absurd h h0) ?_
 rw [e]
 simp only [aj]
 exact ⟨hb,_,cap,c,e1,f',rfl,h1,Nat.le_refl _,fun _=>rfl,.inr ⟨by simp,h2,by simpa using h3⟩⟩
end
end Dem
end
section
open Go Dem Go.Proofs
namespace Dem
theorem fcV {t:Th} (ht:TT t) (k i:Nat) {f N:Nat} {fn:Func} {c:Code} {args:List AV} {bC aR:List az} {res:iU} (hf:Tryz.prog.funcs[f]?=some fn) (hb:fn.body=some c)
 (hname:(fn.name== "runtime.NumGoroutine")=false) (hN:fn.ntmps=N) {rs:List ResultVar} (OG:fn.results.toList=rs) {n:Nat} (hn:bC.length=n) (hlen:Nat.ble args.length N=true)
 (h:PK t FC tT gl N n ((flat c).take k) (fun e s=>match e with|.normal=>QO t FC tT gl N n ((flat c).drop k) i (vf t tT rs n res aR) s|e=>vf t tT rs n res aR e s) ⟨pu 0 args,bC⟩):FC f args bC res aR:=by
 subst OG;subst hn
 have e:=ht.eq
 subst e
 exact Br UC Jo hf hb hname hN hlen (List.take_append_drop k (flat c)).symm _ (fun X β0 w0 β w s a ex hF hR=>HV UC Jo (Nat.le_refl _) ex hF hR) h
end Dem
end
