/- Parts of a proof, joined. -/
import Derived.Test.YtihohjnkkalgiaaGreatDoorV05
import Derived.Laws.Externs
import Derived.Shelf.Strings.OnBuilder
import Derived.Test.YtihohjnkkalgiaaGreatDoorProg
import Derived.Lib.Mul64
set_option linter.all false
set_option maxRecDepth 100000
set_option maxHeartbeats 4000000
section
open Go Dem Go.Proofs
namespace Dem
variable {t:Th}
theorem Ho (ht:TT t) {es:List (List D)} (aD:∀r∈es,r.length=7) (hs:es.length*80≤140737488355328) {m:Nat} (hm:m=es.length):
 FC 147 [SL es] [] (.ret (.ow 0 7 m)) [.row 7 es]:=by
 refine cL ht Tryz.func147 (N:=8) ?_
 cbv
 refine ⟨fun b hb=>?_⟩
 simp only [ht] at hb
 cbv
 apply ap<;>intro h
 ·have he:=hb h
  subst he
  cbv
  exact GN trv rfl rfl (by rw [hm];rfl) rfl
 clear hb h
 cbv
 refine ⟨?_,?_⟩
 ·simp only [ht];simp;exact ⟨hs,aD⟩
 refine Cb trv rfl rfl rfl rfl ?_ ?_
 ·simp only [ht];rw [hm];simp
 simp only [ht];rfl
theorem vN (ht:TT t) {es:List (List D)} (aD:∀r∈es,r.length=6) (hs:es.length*56≤140737488355328) {m:Nat} (hm:m=es.length):
 FC 118 [SL es] [] (.ret (.ow 0 6 m)) [.row 6 es]:=by
 refine cL ht Tryz.func118 (N:=8) ?_
 cbv
 refine ⟨fun b hb=>?_⟩
 simp only [ht] at hb
 cbv
 apply ap<;>intro h
 ·have he:=hb h
  subst he
  cbv
  exact GN trv rfl rfl (by rw [hm];rfl) rfl
 clear hb h
 cbv
 refine ⟨?_,?_⟩
 ·simp only [ht];simp;exact ⟨hs,aD⟩
 refine Cb trv rfl rfl rfl rfl ?_ ?_
 ·simp only [ht];rw [hm];simp
 simp only [ht];rfl
theorem Ci (ht:TT t) {es:List (List D)} {x:D} {row:List D} {i n c:Nat} (hn:n=es.length) (hi:i≤n) (hc:n≤c) (hc0:n=0→c=0) (aD:∀r∈es,r.length=7) (hrow:(x::row).length=7) (hs:n<1000000) {r:List (List D)} (hr:r=es.take i++(x::row)::es.drop i):
 FC 146 [.vw 0 7 0 n c true,bF (i:Int),SL [x::row]] [.row 7 es] (.ret (SL r)) [.dead]:=by
 obtain ⟨n1,Ac⟩:∃n1,n1=n+1:=⟨_,rfl⟩
 obtain ⟨i1,hi1⟩:∃i1,i1=i+1:=⟨_,rfl⟩
 obtain ⟨ni,hni⟩:∃ni,ni=n-i:=⟨_,rfl⟩
 obtain ⟨ci,pN⟩:∃ci,ci=c-i:=⟨_,rfl⟩
 obtain ⟨w9,JO⟩:∃w9,w9=c-i1:=⟨_,rfl⟩
 obtain ⟨o7,tW⟩:∃o7,o7=n1-i:=⟨_,rfl⟩
 have hW:∀P:Prop,((IntKind.i64.wrap ((n:Int)+1)=(n1:Int))→(IntKind.i64.wrap ((n1:Int)-(i:Int))=(o7:Int))→(IntKind.i64.wrap ((i:Int)+1)=(i1:Int))→P)→P:=
  fun P h=>h (by rw [wrap64 (by omega) (by omega)];omega) (by rw [wrap64 (by omega) (by omega)];omega) (by rw [wrap64 (by omega) (by omega)];omega)
 have hrl:r.length=n1:=by rw [hr,List.length_append,List.length_cons,List.length_take,List.length_drop];omega
 have VJ:n≠0→FC 188 [SL [x::row],.vw 0 7 i1 ni w9 true] [.row 7 es] (.ret (BL false)) [.row 7 es]:=fun h0=>
  iE UC Tryz.func188 rfl rfl rfl rfl (tS:=25) (tR:=4) rfl rfl (by intro h;rw [h] at hn;exact h0 hn)
 refine kM ht (bC:=[.row 7 es]) Tryz.func146 rfl rfl (N:=95) rfl rfl (n:=1) rfl rfl ?_
 cbv
 refine bH (.vw 0 7 i ni ci true) [.row 7 es] ?_ ?_ rfl ?_
 ·simp [ht,dJ,bO];omega
 ·simp [ht,aW,aT,hni,pN]
 cbv
 refine pE (by simp [ht]) ?_
 cbv
 apply ap<;>intro h
 ·have hin:i=n:=by simp [ht,ah] at h;omega
  clear h
  cbv
  refine bH (.ow 1 7 n1) [.dead,.row 7 r] ?_ ?_ ?_ ?_
  ·simp only [ht]
   refine ⟨⟨hn,by simp;omega,?_⟩,rfl,hn,fun h=>⟨hc0 (by rw [hn,h];rfl),rfl⟩⟩
   intro r hr
   rcases List.mem_append.1 hr with hr|hr
   ·exact aD r hr
   simp at hr;subst hr;exact hrow
  ·simp [ht,Ac,hn]
  ·simp only [ht];rw [hr]
   have:i=es.length:=by omega
   subst this;simp
  cbv
  refine iq trv ?_ rfl rfl rfl rfl
  simp only [ht];exact hrl.symm
 have hin:i<n:=by simp [ht,ah] at h;omega
 clear h
 have A8:r=(r.drop 0).take n1:=by rw [List.drop_zero,List.take_of_length_le (by omega)]
 cbv
 apply ap<;>intro h2
 ·have VK:c=n:=by
   refine hW _ fun e1 e2 e3=>?_
   simp [ht,ah,e1] at h2;omega
  clear h2
  obtain ⟨L,hL⟩:∃L:List (List D),L=es.take i++List.replicate (es.length+1-i) [D.str [],D.int IntKind.u64 0,D.int IntKind.u64 0,D.int IntKind.u64 0,D.int IntKind.u64 0,D.sl [],D.bool false]:=⟨_,rfl⟩
  have Iz:L.length=n1:=by rw [hL];simp;omega
  obtain ⟨L1,tX⟩:∃L1,L1=wrote L i [x::row]:=⟨_,rfl⟩
  have mF:L1.length=n1:=by rw [tX];simp [wrote,Iz];omega
  have oG:r=wrote L1 i1 (es.drop i):=by rw [hi1,tX,hL,vM (by omega),hr]
  cbv
  refine bH (.vw 0 7 0 i c true) [.row 7 es] ?_ ?_ rfl ?_
  ·simp [ht,dJ,bO];omega
  ·simp [ht,aW,aT]
  cbv
  refine bH (.vw 1 7 0 n1 n1 false) [.row 7 es,.row 7 L] ?_ ?_ ?_ ?_
  ·refine hW _ fun e1 e2 e3=>?_
   simp [ht,ah,e1,e2];omega
  ·refine hW _ fun e1 e2 e3=>?_
   simp [ht,ah,e1,e2];omega
  ·refine hW _ fun e1 e2 e3=>?_
   simp [ht,ah,e1,e2,hL];omega
  cbv
  refine bH (.vw 1 7 i o7 o7 false) [.row 7 es,.row 7 L] ?_ ?_ rfl ?_
  ·simp [ht,dJ,bO];omega
  ·simp [ht,aW,aT,tW]
  cbv
  refine bH (bF 1) [.row 7 es,.row 7 L1] ?_ ?_ ?_ ?_
  ·simp only [ht,eO]
   refine ⟨⟨by omega,?_⟩,?_⟩
   ·intro h;rw [h] at Iz;simp at Iz;omega
   intro r hr;have:=List.mem_of_mem_take hr;simp at this;rw [this];exact hrow
  ·simp [ht,ah];omega
  ·simp [ht,tX,show min 1 o7=1 by omega]
  cbv
  refine cE [false,false,false,false,false,false,false,false,true] ?_
  cbv
  repeat (refine gI (by (simp;done)) ?_)
  refine ij (.vw 1 7 i1 ni ni false) (fun _=>⟨?_,?_⟩) ?_
  ·refine hW _ fun e1 e2 e3=>?_
   simp [ht,ah,e3,dJ,bO];omega
  ·refine hW _ fun e1 e2 e3=>?_
   simp [ht,ah,e3,aW,aT];omega
  cbv
  repeat (refine gI (by (simp;done)) ?_)
  refine ij (.vw 0 7 i ni ci true) (fun _=>⟨?_,?_⟩) ?_
  ·simp [ht,dJ,bO];omega
  ·simp [ht,aW,aT,hni,pN]
  cbv
  refine bH (bF (ni:Nat)) [.row 7 es,.row 7 r,.bt] ?_ ?_ ?_ ?_
  ·simp only [ht,eO]
   refine ⟨by omega,⟨by omega,?_⟩,?_⟩
   ·intro h;rw [h] at mF;simp at mF;omega
   intro r hr;exact aD r (List.mem_of_mem_drop (List.mem_of_mem_take hr))
  ·simp [ht,ah]
  ·simp only [ht,oG]
   rw [List.take_of_length_le (by simp;omega)]
  cbv
  refine yQ [true] trv ?_ rfl rfl rfl ?_
  ·simp only [ht];omega
  simp only [ht];rw [←A8]
 have VK:n<c:=by
  refine hW _ fun e1 e2 e3=>?_
  simp [ht,ah,e1] at h2;omega
 clear h2
 obtain ⟨L1,tX⟩:∃L1,L1=wrote es i1 (es.drop i):=⟨_,rfl⟩
 have oG:r=wrote L1 i [x::row]:=by rw [tX,hi1,EF (by omega),hr]
 have mF:L1.length=n1:=by rw [tX];simp [wrote];omega
 cbv
 refine bH (.vw 0 7 0 n1 c true) [.row 7 es] ?_ ?_ rfl ?_
 ·refine hW _ fun e1 e2 e3=>?_
  simp [ht,ah,e1,dJ,bO];omega
 ·refine hW _ fun e1 e2 e3=>?_
  simp [ht,ah,e1,aW,aT]
 cbv
 refine bH (.vw 0 7 i1 ni w9 true) [.row 7 es] ?_ ?_ rfl ?_
 ·refine hW _ fun e1 e2 e3=>?_
  simp [ht,ah,e3,dJ,bO];omega
 ·refine hW _ fun e1 e2 e3=>?_
  simp [ht,ah,e3,aW,aT];omega
 cbv
 refine eE trv (VJ (by omega)) ?_
 cbv
 refine ld (by simp [ht]) ?_
 cbv
 refine cE [false,false,false,false,false,false,false,false,true] ?_
 cbv
 repeat (refine gI (by (simp;done)) ?_)
 refine ij (.vw 0 7 i1 ni w9 true) (fun _=>⟨?_,?_⟩) ?_
 ·refine hW _ fun e1 e2 e3=>?_
  simp [ht,ah,e3,dJ,bO];omega
 ·refine hW _ fun e1 e2 e3=>?_
  simp [ht,ah,e3,aW,aT];omega
 cbv
 repeat (refine gI (by (simp;done)) ?_)
 refine ij (.vw 0 7 i o7 ci true) (fun _=>⟨?_,?_⟩) ?_
 ·simp [ht,dJ,bO];omega
 ·simp [ht,aW,aT,tW,pN]
 cbv
 refine bH (bF (ni:Nat)) [.row 7 L1,.bt] ?_ ?_ ?_ ?_
 ·simp only [ht,eO]
  refine ⟨by omega,⟨by omega,?_⟩,?_⟩
  ·intro h;rw [h] at hn;simp at hn;omega
  intro r hr;exact aD r (List.mem_of_mem_drop (List.mem_of_mem_take hr))
 ·simp [ht,ah];omega
 ·simp only [ht,tX]
  rw [List.take_of_length_le (by simp;omega)]
 cbv
 refine bH (.vw 0 7 i o7 ci true) [.row 7 L1,.bt] ?_ ?_ rfl ?_
 ·simp [ht,dJ,bO];omega
 ·simp [ht,aW,aT,tW,pN]
 cbv
 refine bH (bF 1) [.row 7 r,.bt] ?_ ?_ ?_ ?_
 ·simp only [ht,eO]
  refine ⟨⟨by omega,?_⟩,?_⟩
  ·intro h;rw [h] at mF;simp at mF;omega
  intro r hr;have:=List.mem_of_mem_take hr;simp at this;rw [this];exact hrow
 ·simp [ht,ah];omega
 ·simp [ht,oG,show min 1 o7=1 by omega]
 cbv
 refine yQ [true] trv ?_ rfl rfl rfl ?_
 ·simp only [ht];omega
 simp only [ht];rw [←A8]
theorem EG (ht:TT t) {es:List (List D)} {x:D} {row:List D} {i n:Nat} (hn:n=es.length) (hi:i≤n) (aD:∀r∈es,r.length=7) (hrow:(x::row).length=7) (hs:n<1000000) {r:List (List D)} (hr:r=es.take i++(x::row)::es.drop i):
 FC 146 [.ow 0 7 n,bF (i:Int),SL [x::row]] [.row 7 es] (.ret (SL r)) [.dead]:=
 dR fun c hc hc0=>Ci ht hn hi hc hc0 aD hrow hs hr
theorem Hp (ht:TT t) (bz:Int) {l:List (Place)} {es:List (List D)} (aD:es=l.map Place.cells) (f:Nat) (p:Place→Bool) (hl:l.length<9223372036854775807)
 (hf:∀x∈l,FC f [.agg [.d (.int .u64 x.bz),.d (.str x.node),.d (.int .u64 x.v.a),.d (.int .u64 x.v.b),.d (.int .u64 x.v.c),.d (.int .u64 x.v.d)],.ptr 1 0] [.var [.d (.int .u64 bz)],.var [.fn 161 [.ptr 0 0]]] (.ret (BL (p x))) [.var [.d (.int .u64 bz)],.var [.fn 161 [.ptr 0 0]]]) {r:Int} (hr:r=idxOf p l):FC 173 [SL es,.fn f [.ptr 1 0]] [.var [.d (.int .u64 bz)],.var [.fn 161 [.ptr 0 0]]] (.ret (bF r)) [.var [.d (.int .u64 bz)],.var [.fn 161 [.ptr 0 0]]]:=by
 have hel:es.length=l.length:=by rw [aD,lgM]
 refine kM ht (bC:=[.var [.d (.int .u64 bz)],.var [.fn 161 [.ptr 0 0]]]) Tryz.func173 rfl rfl (N:=19) rfl rfl (n:=2) rfl rfl ?_
 cbv
 refine bE ⟨[0,1,7,8],[],[]⟩ (σ:=Nat) (fun k=>[(8,bF (t _ fun _=>(k:Int)))]) (fun _=>[]) (vL p l) ?_
 cbv
 refine aF ⟨l.length,0,.nil,by simp only [ht];rfl,fun n k hj=>?_⟩
 cbv
 apply ap<;>intro h
 ·simp only [ht,ah,decide_eq_true_eq] at h
  have hk:k<es.length:=by omega
  obtain ⟨x,hx,pK,px,hpx⟩:=hj.get (by omega)
  have iw:=hf x pK
  rw [←hpx] at iw
  obtain ⟨jb,nd,⟨v1,v2,v3,v4⟩⟩:=x
  cbv
  refine iW [.int .u64 jb,.str nd,.int .u64 v1,.int .u64 v2,.int .u64 v3,.int .u64 v4] ?_ ?_ ?_
  ·simp only [ht,ah];exact sB aD hk fun _=>rfl
  ·simp [ht,ah,aD,hx]
  cbv
  refine eE trv iw ?_
  cbv
  apply ap<;>intro hb
  ·cbv
   refine an ?_
   simp only [ht,ah,hr,hj.hit hx (hpx▸hb)]
  cbv
  refine aF ⟨n-1,k+1,⟨hj.lt hx,hj.next hx (hpx▸hb)⟩,?_⟩
  simp only [ht,ah,aE (show k<9223372036854775807 by omega)];rfl
 simp only [ht,ah,decide_eq_false_iff_not] at h
 have hk:l.length≤k:=by omega
 clear h
 cbv
 refine an ?_
 rw [hr,hj.none hk]
theorem Hq (ht:TT t) (bz:Int) {l:List (Place)} {es:List (List D)} (aD:es=l.map Place.cells) {m c:Nat} (hm:m=l.length) (hc:m≤c) (f:Nat) (p:Place→Bool) (hl:l.length<9223372036854775807)
 (hf:∀x∈l,FC f [.agg [.d (.int .u64 x.bz),.d (.str x.node),.d (.int .u64 x.v.a),.d (.int .u64 x.v.b),.d (.int .u64 x.v.c),.d (.int .u64 x.v.d)],.ptr 1 0] [.var [.d (.int .u64 bz)],.var [.fn 161 [.ptr 0 0]]] (.ret (BL (p x))) [.var [.d (.int .u64 bz)],.var [.fn 161 [.ptr 0 0]]]) {r:List (List D)} (hr:r=(l.filter (fun x=>!p x)).map Place.cells):
 FC 200 [.vw 2 6 0 m c true,.fn f [.ptr 1 0]] [.var [.d (.int .u64 bz)],.var [.fn 161 [.ptr 0 0]],.row 6 es] (.ret (SL r)) [.var [.d (.int .u64 bz)],.var [.fn 161 [.ptr 0 0]],.dead]:=by
 have hel:es.length=m:=by rw [aD,lgM,hm]
 have hrows:∀r∈es,r.length=6:=by rw [aD];intro r hr;obtain ⟨y,_,rfl⟩:=List.mem_map.1 hr;rfl
 obtain ⟨k,hk⟩:∃k,k=idxOf p l:=⟨_,rfl⟩
 have P9:(t (List (List D)) fun _=>(es.drop 0).take m)=l.map Place.cells:=by simp only [ht];rw [List.drop_zero,List.take_of_length_le (by omega),aD]
 have hidx:=Hp ht bz P9 f p hl hf hk
 obtain ⟨J,hJ⟩:∃J:Nat→Nat×Nat×List (List D)→Prop,∀n v,J n v↔(v.2.1+n=m∧v.1<v.2.1∧v.2.2.length=m∧(∀r∈v.2.2,r.length=6)∧v.2.2.take v.1=((l.take v.2.1).filter (fun x=>!p x)).map Place.cells∧v.2.2.drop v.2.1=es.drop v.2.1):=⟨fun n v=>v.2.1+n=m∧v.1<v.2.1∧v.2.2.length=m∧(∀r∈v.2.2,r.length=6)∧v.2.2.take v.1=((l.take v.2.1).filter (fun x=>!p x)).map Place.cells∧v.2.2.drop v.2.1=es.drop v.2.1,fun _ _=>Iff.rfl⟩
 refine kM ht (bC:=[.var [.d (.int .u64 bz)],.var [.fn 161 [.ptr 0 0]],.row 6 es]) Tryz.func200 rfl rfl (N:=42) rfl rfl (n:=3) rfl rfl ?_
 cbv
 refine PJ (TT.eq ht) (v:=bF k) [false,false,true] [0,1] trv rfl ?_ rfl rfl rfl rfl rfl rfl rfl hidx ?_
 ·simp [ht];omega
 cbv
 apply ap<;>intro h
 ·have wi:k=-1:=by simp [ht] at h;exact h
  have hnone:=nX (hk▸wi:idxOf p l=-1)
  clear h
  cbv
  refine yQ [false,false,true] trv ?_ rfl rfl rfl ?_
  ·simp only [ht];omega
  simp only [ht,hr];rw [filter_all hnone,←aD,List.drop_zero,List.take_of_length_le (by omega)]
 have wi:k≠-1:=by simp [ht] at h;exact h
 clear h
 obtain ⟨i0,x0,UI,hx0,Qa,hb0⟩:=nY (hk▸wi:idxOf p l≠-1)
 rw [←hk] at UI
 subst UI
 have Yf:i0<m:=by rw [hm];exact (List.getElem?_eq_some_iff.1 hx0).1
 cbv
 refine bE ⟨[0,1,5,6],[],[]⟩ (σ:=Nat×Nat×List (List D)) (fun v=>[(5,bF (t _ fun _=>(v.1:Int))),(6,bF (t _ fun _=>(v.2.1:Int)))]) (fun v=>[(2,.row 6 (t _ fun _=>v.2.2))]) J ?_
 cbv
 refine aF ⟨m-(i0+1),(i0,i0+1,es),(hJ _ _).2 ⟨?_,?_,hel,hrows,?_,rfl⟩,by simp only [ht,ah,Int.ofNat_eq_natCast,aE (show i0<9223372036854775807 by omega)];rfl,?_⟩
 ·show i0+1+(m-(i0+1))=m;omega
 ·show i0<i0+1;omega
 ·show es.take i0=_
  rw [dy hx0,List.filter_append,filter_all hb0,aD,←List.map_take];simp [Qa]
 rintro n ⟨i,j,cur⟩ hj
 obtain ⟨j1,j2,j3,j4,j5,j6⟩:=(hJ _ _).1 hj
 clear hj
 simp only at j1 j2 j3 j4 j5 j6
 cbv
 apply ap<;>intro h
 ·have Oi:j<m:=by simp [ht,ah] at h;omega
  clear h
  obtain ⟨x,hx⟩:∃x,l[j]?=some x:=⟨l[j]'(by omega),by simp⟩
  have pK:x∈l:=List.mem_of_getElem? hx
  have iw:=hf x pK
  have Hr:cur[j]?=some (Place.cells x):=by
   have:(cur.drop j)[0]?=(es.drop j)[0]?:=by rw [j6]
   rw [List.getElem?_drop,List.getElem?_drop,Nat.add_zero,aD,List.getElem?_map,hx] at this
   exact this
  obtain ⟨px,hpx⟩:∃b,b=p x:=⟨_,rfl⟩
  rw [←hpx] at iw
  obtain ⟨cx,EH⟩:∃cx,cx=Place.cells x:=⟨_,rfl⟩
  rw [←EH] at Hr
  have hstep:(l.take (j+1)).filter (fun x=>!p x)=(l.take j).filter (fun x=>!p x)++(if px then [] else [x]):=by
   rw [dy hx,List.filter_append];cases px<;>simp [←hpx]
  obtain ⟨jb,nd,⟨v1,v2,v3,v4⟩⟩:=x
  cbv
  refine ⟨?_,PE [.int .u64 jb,.str nd,.int .u64 v1,.int .u64 v2,.int .u64 v3,.int .u64 v4] ?_ ?_ ?_⟩
  ·simp [ht,ah];omega
  ·simp [ht,ah,j3];omega
  ·simp [ht,ah,List.getD_eq_getElem?_getD,Hr,EH]
  cbv
  refine dG [0,1] trv rfl rfl iw (cD ?_)
  cbv
  apply ap<;>intro hb
  ·have hb':px=false:=by simpa [ht] using hb
   clear hb
   obtain ⟨nc,hnc⟩:∃nc,nc=cur.set i cx:=⟨_,rfl⟩
   have pN:(cur.getD i []).length=6:=j4 _ (by rw [List.getD_eq_getElem?_getD,List.getElem?_eq_getElem (by omega)];exact List.getElem_mem _)
   cbv
   refine ⟨?_,?_⟩
   ·simp [ht,ah];omega
   refine ⟨?_,?_⟩
   ·simp [ht,ah,j3];exact ⟨by omega,by simpa using pN.symm▸(Nat.le_refl _)⟩
   refine aF ⟨n-1,(i+1,j+1,nc),⟨by omega,(hJ _ _).2 ⟨?_,?_,?_,?_,?_,?_⟩⟩,?_⟩
   ·show j+1+(n-1)=m;omega
   ·show i+1<j+1;omega
   ·show nc.length=m;rw [hnc,List.length_set];exact j3
   ·show ∀r∈nc,r.length=6
    intro r hr;rw [hnc] at hr
    rcases List.mem_or_eq_of_mem_set hr with hr|rfl
    ·exact j4 r hr
    rw [EH];rfl
   ·show nc.take (i+1)=_
    rw [hnc,kB _ _ _ (by omega),j5,hstep,hb',EH];simp
   ·show nc.drop (j+1)=es.drop (j+1)
    rw [hnc,nk _ _ _ _ (by omega),←List.drop_drop,j6,List.drop_drop]
   simp only [ht,ah,Int.ofNat_eq_natCast,aE (show i<9223372036854775807 by omega),aE (show j<9223372036854775807 by omega)]
   have ei:0+((i:Int)).toNat=i:=by simp
   have e:cur.set i (be (cur.getD i []) 0 [.int .u64 jb,.str nd,.int .u64 v1,.int .u64 v2,.int .u64 v3,.int .u64 v4])=nc:=by rw [hnc,kx _ _ (by rw [pN];rfl),EH]
   simp only [ei,e];rfl
  have hb':px=true:=by simpa [ht] using hb
  clear hb
  cbv
  refine aF ⟨n-1,(i,j+1,cur),⟨by omega,(hJ _ _).2 ⟨?_,?_,j3,j4,?_,?_⟩⟩,?_⟩
  ·show j+1+(n-1)=m;omega
  ·show i<j+1;omega
  ·show cur.take i=_
   rw [j5,hstep,hb'];simp
  ·show cur.drop (j+1)=es.drop (j+1)
   rw [←List.drop_drop,j6,List.drop_drop]
  simp only [ht,ah,Int.ofNat_eq_natCast,aE (show j<9223372036854775807 by omega)];rfl
 have Oi:j=m:=by simp [ht,ah] at h;omega
 clear h
 obtain ⟨mi,x8⟩:∃mi,mi=m-i:=⟨_,rfl⟩
 obtain ⟨ci,pN⟩:∃ci,ci=c-i:=⟨_,rfl⟩
 obtain ⟨nc,hnc⟩:∃nc,nc=wrote cur i (List.replicate mi [.int .u64 0,.str [],.int .u64 0,.int .u64 0,.int .u64 0,.int .u64 0]):=⟨_,rfl⟩
 have hnt:nc.take i=r:=by
  have hl':(cur.take i).length=i:=by simp;omega
  rw [hnc,wrote,List.append_assoc,List.take_left' hl',j5,hr,Oi,hm,List.take_length]
 have Yg:i≤nc.length:=by rw [hnc];simp [wrote];omega
 cbv
 refine bH (.vw 2 6 i mi ci true) [.var [.d (.int .u64 bz)],.var [.fn 161 [.ptr 0 0]],.row 6 cur] ?_ ?_ ?_ ?_
 ·simp [ht,ah,dJ,bO];omega
 ·simp [ht,ah,aW,aT,x8,pN]
 ·simp only [ht]
 cbv
 refine bH (.dV []) [.var [.d (.int .u64 bz)],.var [.fn 161 [.ptr 0 0]],.row 6 nc] ?_ rfl ?_ ?_
 ·simp [ht,eO]
  refine ⟨by omega,?_⟩
  intro h;rw [h] at j3;simp at j3;omega
 ·simp only [ht,hnc]
 cbv
 refine bH (.vw 2 6 0 i c true) [.var [.d (.int .u64 bz)],.var [.fn 161 [.ptr 0 0]],.row 6 nc] ?_ ?_ rfl ?_
 ·simp [ht,ah,dJ,bO];omega
 ·simp [ht,ah,aW,aT]
 cbv
 refine yQ [false,false,true] trv ?_ rfl rfl rfl ?_
 ·simp only [ht];omega
 simp only [ht];rw [List.drop_zero,hnt]
theorem JP (ht:TT t) (bz:Int) {l:List (Place)} {es:List (List D)} (aD:es=l.map Place.cells) {m:Nat} (hm:m=l.length) (f:Nat) (p:Place→Bool) (hl:l.length<9223372036854775807)
 (hf:∀x∈l,FC f [.agg [.d (.int .u64 x.bz),.d (.str x.node),.d (.int .u64 x.v.a),.d (.int .u64 x.v.b),.d (.int .u64 x.v.c),.d (.int .u64 x.v.d)],.ptr 1 0] [.var [.d (.int .u64 bz)],.var [.fn 161 [.ptr 0 0]]] (.ret (BL (p x))) [.var [.d (.int .u64 bz)],.var [.fn 161 [.ptr 0 0]]]) {r:List (List D)} (hr:r=(l.filter (fun x=>!p x)).map Place.cells):
 FC 200 [.ow 2 6 m,.fn f [.ptr 1 0]] [.var [.d (.int .u64 bz)],.var [.fn 161 [.ptr 0 0]],.row 6 es] (.ret (SL r)) [.var [.d (.int .u64 bz)],.var [.fn 161 [.ptr 0 0]],.dead]:=
 dR fun c hc _=>Hq ht bz aD hm hc f p hl hf hr
theorem S2 (ht:TT t) (bz jb:Int) (nd:aI) (v1 v2 v3 v4:Int) {r:Bool} (hr:r=!decide (jb=bz)):FC 161 [.agg [.d (.int .u64 jb),.d (.str nd),.d (.int .u64 v1),.d (.int .u64 v2),.d (.int .u64 v3),.d (.int .u64 v4)],.ptr 0 0] [.var [.d (.int .u64 bz)]] (.ret (BL r)) [.var [.d (.int .u64 bz)]]:=by
 refine kM ht (bC:=[.var [.d (.int .u64 bz)]]) Tryz.func161 rfl rfl (N:=8) rfl rfl (n:=1) rfl rfl ?_
 cbv
 refine an ?_
 simp only [ht,hr]
theorem S3 (ht:TT t) (bz jb:Int) (nd:aI) (v1 v2 v3 v4:Int) {r:Bool} (hr:r=decide (jb=bz)):FC 201 [.agg [.d (.int .u64 jb),.d (.str nd),.d (.int .u64 v1),.d (.int .u64 v2),.d (.int .u64 v3),.d (.int .u64 v4)],.ptr 1 0] [.var [.d (.int .u64 bz)],.var [.fn 161 [.ptr 0 0]]] (.ret (BL r)) [.var [.d (.int .u64 bz)],.var [.fn 161 [.ptr 0 0]]]:=by
 obtain ⟨q,hq⟩:∃q,q=!decide (jb=bz):=⟨_,rfl⟩
 refine kM ht (bC:=[.var [.d (.int .u64 bz)],.var [.fn 161 [.ptr 0 0]]]) Tryz.func201 rfl rfl (N:=8) rfl rfl (n:=2) rfl rfl ?_
 cbv
 refine dG [0] trv rfl rfl (S2 ht bz jb nd v1 v2 v3 v4 hq) (cD ?_)
 cbv
 refine an ?_
 simp only [ht,hr,hq];simp
theorem JQ (ht:TT t) (bz:Int) {l:List Place} {es:List (List D)} (aD:es=l.map Place.cells) (hl:l.length<1000000) {r:List (List D)} (hr:r=(l.filter (fun x=>!decide (x.bz=bz))).map Place.cells):
 FC 160 [SL es,.fn 161 [.ptr 0 0]] [.var [.d (.int .u64 bz)]] (.ret (SL r)) [.var [.d (.int .u64 bz)]]:=by
 have hrows:∀r∈es,r.length=6:=by rw [aD];intro r hr;obtain ⟨y,_,rfl⟩:=List.mem_map.1 hr;rfl
 obtain ⟨m,hm⟩:∃m,m=l.length:=⟨_,rfl⟩
 have hel:m=es.length:=by rw [aD,lgM,hm]
 refine kM ht (bC:=[.var [.d (.int .u64 bz)]]) Tryz.func160 rfl rfl (N:=9) rfl rfl (n:=1) rfl rfl ?_
 cbv
 refine jV trv (vN ht hrows (by rw [←hel];omega) hel) trv rfl (.inr rfl) ?_
 cbv
 refine dG [0,1,2] trv rfl rfl (JP ht bz aD hm 201 (fun x=>decide (x.bz=bz)) (by omega) (fun x _=>S3 ht bz x.bz x.node x.v.a x.v.b x.v.c x.v.d rfl) hr) (cD ?_)
 cbv
 exact an rfl
theorem JR (ht:TT t) (bz:Int) {ns:List (List D)} {l:List Place} {es:List (List D)} (aD:es=l.map Place.cells) (hl:l.length<1000000) {r:List (List D)} (hr:r=(l.filter (fun x=>!decide (x.bz=bz))).map Place.cells):
 FC 108 [.agg [SL ns,SL es],aB bz] [] (.ret (.agg [SL ns,SL r])) []:=by
 refine cL ht Tryz.func108 (N:=12) ?_
 cbv
 refine cE [false,false,false,false,false,false,true,true] ?_
 cbv
 repeat (refine gI (by (simp;done)) ?_)
 refine .inl (Vs [true,false,true] [1] (fun _=>⟨trv,trv,JQ ht bz aD hl hr⟩) rfl rfl (.inr ⟨rfl,rfl⟩) rfl rfl rfl rfl ?_)
 cbv
 exact an rfl
theorem Qb (ht:TT t) (name nm:aI) (a b c d:Int) (lr:List (List D)) (up:Bool) {r:Bool} (hr:r=decide (nm=name)):
 FC 113 [.agg [.d (.str nm),.d (.int .u64 a),.d (.int .u64 b),.d (.int .u64 c),.d (.int .u64 d),.d (.sl lr),.d (.bool up)],.ptr 0 0] [.var [.d (.str name)]] (.ret (BL r)) [.var [.d (.str name)]]:=by
 refine kM ht (bC:=[.var [.d (.str name)]]) Tryz.func113 rfl rfl (N:=8) rfl rfl (n:=1) rfl rfl ?_
 cbv
 refine an ?_
 simp only [ht,hr]
theorem MY (ht:TT t) (name:aI) {l:List (Node)} {es:List (List D)} (aD:es=l.map Node.cells) (f:Nat) (p:Node→Bool) (hl:l.length<9223372036854775807)
 (hf:∀x∈l,FC f [.agg [.d (.str x.name),.d (.int .u64 x.cap.a),.d (.int .u64 x.cap.b),.d (.int .u64 x.cap.c),.d (.int .u64 x.cap.d),.d (.sl (x.labels.map dh.cells)),.d (.bool x.up)],.ptr 0 0] [.var [.d (.str name)]] (.ret (BL (p x))) [.var [.d (.str name)]]) {r:Int} (hr:r=idxOf p l):FC 112 [SL es,.fn f [.ptr 0 0]] [.var [.d (.str name)]] (.ret (bF r)) [.var [.d (.str name)]]:=by
 have hel:es.length=l.length:=by rw [aD,lgM]
 refine kM ht (bC:=[.var [.d (.str name)]]) Tryz.func112 rfl rfl (N:=19) rfl rfl (n:=1) rfl rfl ?_
 cbv
 refine bE ⟨[0,1,7,8],[],[]⟩ (σ:=Nat) (fun k=>[(8,bF (t _ fun _=>(k:Int)))]) (fun _=>[]) (vL p l) ?_
 cbv
 refine aF ⟨l.length,0,.nil,by simp only [ht];rfl,fun n k hj=>?_⟩
 cbv
 apply ap<;>intro h
 ·simp only [ht,ah,decide_eq_true_eq] at h
  have hk:k<es.length:=by omega
  obtain ⟨x,hx,pK,px,hpx⟩:=hj.get (by omega)
  have iw:=hf x pK
  rw [←hpx] at iw
  obtain ⟨nm,⟨a,b,c,d⟩,lb,up⟩:=x;obtain ⟨lr,hlr⟩:∃lr:List (List D),lr=lb.map dh.cells:=⟨_,rfl⟩;simp only [←hlr] at iw
  cbv
  refine iW [.str nm,.int .u64 a,.int .u64 b,.int .u64 c,.int .u64 d,.sl lr,.bool up] ?_ ?_ ?_
  ·simp only [ht,ah];exact sB aD hk fun _=>rfl
  ·simp [ht,ah,aD,hx,hlr]
  cbv
  refine eE trv iw ?_
  cbv
  apply ap<;>intro hb
  ·cbv
   refine an ?_
   simp only [ht,ah,hr,hj.hit hx (hpx▸hb)]
  cbv
  refine aF ⟨n-1,k+1,⟨hj.lt hx,hj.next hx (hpx▸hb)⟩,?_⟩
  simp only [ht,ah,aE (show k<9223372036854775807 by omega)];rfl
 simp only [ht,ah,decide_eq_false_iff_not] at h
 have hk:l.length≤k:=by omega
 clear h
 cbv
 refine an ?_
 rw [hr,hj.none hk]
theorem LM (ht:TT t) (name:aI) {l:List Node} {es ps:List (List D)} (aD:es=l.map Node.cells) (hl:l.length<9223372036854775807) {r:Int} (hr:r=idxOf (fun x=>decide (x.name=name)) l):
 FC 73 [.agg [SL es,SL ps],ST name] [] (.ret (bF r)) []:=by
 refine cL ht Tryz.func73 (N:=9) ?_
 cbv
 refine dG [1] trv rfl rfl (MY ht name aD 113 (fun x=>decide (x.name=name)) hl (fun x _=>Qb ht name x.name x.cap.a x.cap.b x.cap.c x.cap.d _ x.up rfl) hr) (cD ?_)
 cbv
 exact an rfl
theorem Qd (ht:TT t) (name:aI) {l:List Node} {es ps:List (List D)} (aD:es=l.map Node.cells) (hl:l.length<9223372036854775807) {nm:aI} {a b c d:Int} {lb:List dh} {up ok:Bool} (hr:dM name l=(⟨nm,⟨a,b,c,d⟩,lb,up⟩,ok)) {lr:List (List D)} (hlr:lr=lb.map dh.cells):
 FC 33 [.agg [SL es,SL ps],ST name] [] (.ret (.dV [.agg [.d (.str nm),.d (.int .u64 a),.d (.int .u64 b),.d (.int .u64 c),.d (.int .u64 d),.d (.sl lr),.d (.bool up)],BL ok])) []:=by
 have hrows:∀r∈es,r.length=7:=by rw [aD];intro r hr;obtain ⟨y,_,rfl⟩:=List.mem_map.1 hr;rfl
 obtain ⟨k,hk⟩:∃k,k=idxOf (fun x:Node=>decide (x.name=name)) l:=⟨_,rfl⟩
 have hneg:k<0→k=-1:=by intro h;rw [hk] at h ⊢;unfold idxOf at h ⊢;split at h<;>omega
 refine cL ht Tryz.func33 (N:=18) ?_
 cbv
 refine gR trv (LM ht name aD hl hk) trv rfl rfl ?_
 cbv
 apply ap<;>intro h
 ·have wi:k=-1:=hneg (by simpa [ht] using h)
  clear h hneg
  have hp:=MK (hk▸wi)
  rw [hr] at hp
  obtain ⟨⟨rfl,⟨rfl,rfl,rfl,rfl⟩,rfl,rfl⟩,rfl⟩:(nm=[]∧(a=0∧b=0∧c=0∧d=0)∧lb=[]∧up=false)∧ok=false:=by
   simpa [Node.zero,bG.zero] using hp
  have aaf:lr=[]:=by rw [hlr];rfl
  subst aaf
  clear hlr
  cbv
  exact an rfl
 have wi:k≠-1:=by intro h1;rw [h1] at h;simp [ht] at h
 clear h hneg
 obtain ⟨i,x,h1,h2,h3⟩:=ML (hk▸wi)
 rw [hr] at h3
 simp only [Prod.mk.injEq] at h3
 obtain ⟨rfl,rfl⟩:=h3
 rw [←hk] at h1
 subst h1
 have hi:i<l.length:=(List.getElem?_eq_some_iff.1 h2).1
 have hel:es.length=l.length:=by rw [aD,lgM]
 cbv
 refine iW [.str nm,.int .u64 a,.int .u64 b,.int .u64 c,.int .u64 d,.sl lr,.bool up] ?_ ?_ ?_
 ·simp only [ht,ah,Int.ofNat_eq_natCast];exact ⟨by omega,by omega,hrows⟩
 ·simp [ht,aD,h2,hlr]
 cbv
 exact an rfl
theorem S4 (x y:Int) {r s:Int} (hr:r=(((x.toNat+y.toNat)%18446744073709551616:Nat):Int)) (hs:s=(((x.toNat+y.toNat) / 18446744073709551616:Nat):Int)):
 FC 212 [.d (.int .u64 x),.d (.int .u64 y),.d (.int .u64 0)] [] (.ret (.dV [.d (.int .u64 r),.d (.int .u64 s)])) []:=by
 refine Y9 Tryz.func212 (by kernel_rfl) (by kernel_rfl) (by kernel_rfl) (e:=add64Entry) (by kernel_rfl) ?_
 intro β w vs ok h
 simp only [ak,aj,aL] at h
 obtain ⟨_,_,rfl,rfl,_,_,rfl,rfl,_,_,rfl,rfl,rfl⟩:=h
 refine ⟨.tuple #[.int .u64 r,.int .u64 s],?_,?_⟩
 ·subst hr hs;rfl
 simp only [aj,ak,aL];exact ⟨_,rfl,_,_,rfl,rfl,_,_,rfl,rfl,rfl⟩
def VL:Array Value→Sem Value:=fun args=>do
 let (x,y,b) ←Extern.MathBitsCarry.three "Sub64" args
 pure (Extern.MathBitsCarry.pair ((x+Extern.MathBitsCarry.m64-y-b)%Extern.MathBitsCarry.m64) (if x<y+b then 1 else 0))
theorem S5 (x y:Int) {r s:Int} (hr:r=(((x.toNat+18446744073709551616-y.toNat)%18446744073709551616:Nat):Int)) (hs:s=((if x.toNat<y.toNat then 1 else 0:Nat):Int)):
 FC 224 [.d (.int .u64 x),.d (.int .u64 y),.d (.int .u64 0)] [] (.ret (.dV [.d (.int .u64 r),.d (.int .u64 s)])) []:=by
 refine Y9 Tryz.func224 (by kernel_rfl) (by kernel_rfl) (by kernel_rfl) (e:=VL) (by kernel_rfl) ?_
 intro β w vs ok h
 simp only [ak,aj,aL] at h
 obtain ⟨_,_,rfl,rfl,_,_,rfl,rfl,_,_,rfl,rfl,rfl⟩:=h
 refine ⟨.tuple #[.int .u64 r,.int .u64 s],?_,?_⟩
 ·subst hr hs;rfl
 simp only [aj,ak,aL];exact ⟨_,rfl,_,_,rfl,rfl,_,_,rfl,rfl,rfl⟩
theorem MZ (ht:TT t) (x y:Int) {r:Int} {ok:Bool} (h:(r,ok)=GS x y):
 FC 183 [.d (.int .u64 x),.d (.int .u64 y)] [] (.ret (.dV [.d (.int .u64 r),.d (.bool ok)])) []:=by
 obtain ⟨a,ha⟩:∃a:Int,a=(((x.toNat+y.toNat)%18446744073709551616:Nat):Int):=⟨_,rfl⟩
 obtain ⟨b,hb⟩:∃b:Int,b=(((x.toNat+y.toNat) / 18446744073709551616:Nat):Int):=⟨_,rfl⟩
 refine cL ht Tryz.func183 (N:=17) ?_
 cbv
 refine gR trv (S4 x y ha hb) trv rfl rfl ?_
 cbv
 apply ap<;>intro hc
 ·cbv
  refine an ?_
  simp only [ht,ah,Bool.not_eq_true',decide_eq_false_iff_not] at hc ha hb
  simp only [GS] at h
  rw [if_neg (by omega)] at h
  cases h;rfl
 cbv
 refine an ?_
 simp only [ht,ah,Bool.not_eq_false',decide_eq_true_eq] at hc ha hb
 simp only [GS] at h
 rw [if_pos (by omega)] at h
 cases h
 rw [ha,Nat.mod_eq_of_lt (by omega)]
theorem M0 (ht:TT t) (x y:Int) {r:Int} {ok:Bool} (h:(r,ok)=GU x y):
 FC 203 [.d (.int .u64 x),.d (.int .u64 y)] [] (.ret (.dV [.d (.int .u64 r),.d (.bool ok)])) []:=by
 obtain ⟨a,ha⟩:∃a:Int,a=(((x.toNat+18446744073709551616-y.toNat)%18446744073709551616:Nat):Int):=⟨_,rfl⟩
 obtain ⟨b,hb⟩:∃b:Int,b=((if x.toNat<y.toNat then 1 else 0:Nat):Int):=⟨_,rfl⟩
 refine cL ht Tryz.func203 (N:=17) ?_
 cbv
 refine gR trv (S5 x y ha hb) trv rfl rfl ?_
 cbv
 apply ap<;>intro hc
 ·cbv
  refine an ?_
  simp only [ht,ah,Bool.not_eq_true',decide_eq_false_iff_not] at hc ha hb
  simp only [GU] at h
  by_cases hlt:x.toNat<y.toNat
  ·rw [if_pos hlt] at h;cases h;rfl
  rw [if_neg hlt] at hb;exact absurd (by rw [hb];rfl) hc
 cbv
 refine an ?_
 simp only [ht,ah,Bool.not_eq_false',decide_eq_true_eq] at hc ha hb
 simp only [GU] at h
 by_cases hlt:x.toNat<y.toNat
 ·rw [if_pos hlt] at hb;rw [hb] at hc;exact absurd hc (by decide)
 rw [if_neg hlt] at h;cases h
 have e:(x.toNat+18446744073709551616-y.toNat)%18446744073709551616=(x.toNat-y.toNat)%18446744073709551616:=by omega
 rw [ha,e]
theorem Qe (ht:TT t) (a0 a1 a2 a3 b0 b1 b2 b3:Int) (op:Int→Int→Int×Bool) (F:Nat) (hop:∀(x y r:Int) (ok:Bool),(r,ok)=op x y→FC F [.d (.int .u64 x),.d (.int .u64 y)] [] (.ret (.dV [.d (.int .u64 r),.d (.bool ok)])) [])
 {r0 r1 r2 r3:Int} {ok:Bool} (h:(⟨r0,r1,r2,r3⟩,ok)=both op ⟨a0,a1,a2,a3⟩ ⟨b0,b1,b2,b3⟩):
 FC 167 [.agg [.d (.int .u64 a0),.d (.int .u64 a1),.d (.int .u64 a2),.d (.int .u64 a3)],.agg [.d (.int .u64 b0),.d (.int .u64 b1),.d (.int .u64 b2),.d (.int .u64 b3)],.fn F []] []
  (.ret (.dV [.agg [.d (.int .u64 r0),.d (.int .u64 r1),.d (.int .u64 r2),.d (.int .u64 r3)],.d (.bool ok)])) []:=by
 obtain ⟨⟨s0,k0⟩,e0⟩:∃s,s=op a0 b0:=⟨_,rfl⟩
 obtain ⟨⟨s1,k1⟩,e1⟩:∃s,s=op a1 b1:=⟨_,rfl⟩
 obtain ⟨⟨s2,k2⟩,e2⟩:∃s,s=op a2 b2:=⟨_,rfl⟩
 obtain ⟨⟨s3,k3⟩,e3⟩:∃s,s=op a3 b3:=⟨_,rfl⟩
 have h0:(k0&&k1&&k2&&k3)=false→r0=0∧r1=0∧r2=0∧r3=0∧ok=false:=by
  intro hk;simp only [both,←e0,←e1,←e2,←e3] at h;rw [if_neg (by rw [hk];simp)] at h;cases h;exact ⟨rfl,rfl,rfl,rfl,rfl⟩
 have h1:(k0&&k1&&k2&&k3)=true→r0=s0∧r1=s1∧r2=s2∧r3=s3∧ok=true:=by
  intro hk;simp only [both,←e0,←e1,←e2,←e3] at h;rw [if_pos hk] at h;cases h;exact ⟨rfl,rfl,rfl,rfl,rfl⟩
 clear h
 have fin:∀{bx:List az},(k0&&k1&&k2&&k3)=false→Ed 0 True (AV.dV [.agg [.d (.int .u64 0),.d (.int .u64 0),.d (.int .u64 0),.d (.int .u64 0)],.d (.bool false)]) bx (some (True,AV.dV [.agg [.d (.int .u64 0),.d (.int .u64 0),.d (.int .u64 0),.d (.int .u64 0)],.d (.bool false)]))
  (.ret (.dV [.agg [.d (.int .u64 r0),.d (.int .u64 r1),.d (.int .u64 r2),.d (.int .u64 r3)],.d (.bool ok)])) []:=by
  intro bx hk
  obtain ⟨rfl,rfl,rfl,rfl,rfl⟩:=h0 hk
  exact an rfl
 refine cL ht Tryz.func167 (N:=34) ?_
 cbv
 refine bE ⟨[2,3,4,6,12,13],[],[]⟩ (σ:=Nat) (fun j=>[(13,.d (.int .i64 j))]) (fun j=>[(0,.var [.d (.int .u64 (bif Nat.blt 0 j then s0 else a0)),.d (.int .u64 (bif Nat.blt 1 j then s1 else a1)),.d (.int .u64 (bif Nat.blt 2 j then s2 else a2)),.d (.int .u64 (bif Nat.blt 3 j then s3 else a3))])])
  (fun n j=>n+j=4∧(0<j→k0=true)∧(1<j→k1=true)∧(2<j→k2=true)∧(3<j→k3=true)) ?_
 cbv
 refine aF ⟨4,0,⟨rfl,by omega,by omega,by omega,by omega⟩,rfl,?_⟩
 rintro n j ⟨hn,g0,g1,g2,g3⟩
 have hj:j=0∨j=1∨j=2∨j=3∨j=4:=by omega
 rcases hj with rfl|rfl|rfl|rfl|rfl
 ·cbv
  refine ld (by simp [ht]) ?_
  cbv
  refine ⟨by simp [ht],by simp [ht],gR trv (hop _ _ _ _ e0) trv rfl rfl ?_⟩
  cbv
  apply ap<;>intro hc
  ·simp only [ht,Bool.not_eq_true'] at hc
   cbv
   exact fin (by simp [hc])
  simp only [ht,Bool.not_eq_false'] at hc
  cbv
  refine ⟨by simp [ht],?_⟩
  trace_state
  refine aF ⟨3-0,0+1,⟨⟨by omega,by omega,by simp_all,by simp_all,by simp_all,by simp_all⟩,?_⟩⟩
  simp only [ht];rfl
 ·cbv
  refine ld (by simp [ht]) ?_
  cbv
  refine ⟨by simp [ht],by simp [ht],gR trv (hop _ _ _ _ e1) trv rfl rfl ?_⟩
  cbv
  apply ap<;>intro hc
  ·simp only [ht,Bool.not_eq_true'] at hc
   cbv
   exact fin (by simp [hc])
  simp only [ht,Bool.not_eq_false'] at hc
  cbv
  refine ⟨by simp [ht],?_⟩
  trace_state
  refine aF ⟨3-1,1+1,⟨⟨by omega,by omega,by simp_all,by simp_all,by simp_all,by simp_all⟩,?_⟩⟩
  simp only [ht];rfl
 ·cbv
  refine ld (by simp [ht]) ?_
  cbv
  refine ⟨by simp [ht],by simp [ht],gR trv (hop _ _ _ _ e2) trv rfl rfl ?_⟩
  cbv
  apply ap<;>intro hc
  ·simp only [ht,Bool.not_eq_true'] at hc
   cbv
   exact fin (by simp [hc])
  simp only [ht,Bool.not_eq_false'] at hc
  cbv
  refine ⟨by simp [ht],?_⟩
  trace_state
  refine aF ⟨3-2,2+1,⟨⟨by omega,by omega,by simp_all,by simp_all,by simp_all,by simp_all⟩,?_⟩⟩
  simp only [ht];rfl
 ·cbv
  refine ld (by simp [ht]) ?_
  cbv
  refine ⟨by simp [ht],by simp [ht],gR trv (hop _ _ _ _ e3) trv rfl rfl ?_⟩
  cbv
  apply ap<;>intro hc
  ·simp only [ht,Bool.not_eq_true'] at hc
   cbv
   exact fin (by simp [hc])
  simp only [ht,Bool.not_eq_false'] at hc
  cbv
  refine ⟨by simp [ht],?_⟩
  trace_state
  refine aF ⟨3-3,3+1,⟨⟨by omega,by omega,by simp_all,by simp_all,by simp_all,by simp_all⟩,?_⟩⟩
  simp only [ht];rfl
 cbv
 refine pE (by simp [ht]) ?_
 cbv
 obtain ⟨rfl,rfl,rfl,rfl,rfl⟩:=h1 (by simp [g0,g1,g2,g3])
 exact an rfl
theorem VM (ht:TT t) (a0 a1 a2 a3 b0 b1 b2 b3:Int) {r0 r1 r2 r3:Int} {ok:Bool} (h:(⟨r0,r1,r2,r3⟩,ok)=jR ⟨a0,a1,a2,a3⟩ ⟨b0,b1,b2,b3⟩):
 FC 137 [V4 a0 a1 a2 a3,V4 b0 b1 b2 b3] [] (.ret (.dV [V4 r0 r1 r2 r3,BL ok])) []:=by
 refine cL ht Tryz.func137 (N:=11) ?_
 cbv
 refine gR trv (Qe ht _ _ _ _ _ _ _ _ GS 183 (fun x y r ok=>MZ ht x y) h) trv rfl rfl ?_
 cbv
 exact an rfl
theorem EI (ht:TT t) (a0 a1 a2 a3 b0 b1 b2 b3:Int) {r0 r1 r2 r3:Int} {ok:Bool} (h:(⟨r0,r1,r2,r3⟩,ok)=dO ⟨a0,a1,a2,a3⟩ ⟨b0,b1,b2,b3⟩):
 FC 170 [V4 a0 a1 a2 a3,V4 b0 b1 b2 b3] [] (.ret (.dV [V4 r0 r1 r2 r3,BL ok])) []:=by
 refine cL ht Tryz.func170 (N:=11) ?_
 cbv
 refine gR trv (Qe ht _ _ _ _ _ _ _ _ GU 203 (fun x y r ok=>M0 ht x y) h) trv rfl rfl ?_
 cbv
 exact an rfl
theorem S6 (ht:TT t) (a0 a1 a2 a3 b0 b1 b2 b3:Int) {ok:Bool} (h:ok=lg ⟨a0,a1,a2,a3⟩ ⟨b0,b1,b2,b3⟩):
 FC 142 [V4 a0 a1 a2 a3,V4 b0 b1 b2 b3] [] (.ret (BL ok)) []:=by
 obtain ⟨⟨⟨r0,r1,r2,r3⟩,k⟩,e⟩:∃s,s=dO ⟨b0,b1,b2,b3⟩ ⟨a0,a1,a2,a3⟩:=⟨_,rfl⟩
 have hk:ok=k:=by rw [h];unfold lg;rw [←e]
 refine cL ht Tryz.func142 (N:=14) ?_
 cbv
 refine gR trv (EI ht _ _ _ _ _ _ _ _ e) trv rfl rfl ?_
 cbv
 exact an (by rw [hk])
theorem VN (ht:TT t) (name:aI) {l:List Node} {ps:List Place} {es qs:List (List D)} (aD:es=l.map Node.cells) (dZ:qs=ps.map Place.cells) (hl:l.length<9223372036854775807) (Fi:ps.length<9223372036854775807) {a b c d:Int} {ok:Bool} (hr:cB name l ps=(⟨a,b,c,d⟩,ok)):
 FC 120 [.agg [SL es,SL qs],ST name] [] (.ret (.dV [V4 a b c d,BL ok])) []:=by
 have hrows:∀r∈qs,r.length=6:=by rw [dZ];intro r hr;obtain ⟨y,_,rfl⟩:=List.mem_map.1 hr;rfl
 have hel:qs.length=ps.length:=by rw [dZ,lgM]
 obtain ⟨x,Yh,hf⟩:∃x Yh,dM name l=(x,Yh):=⟨_,_,rfl⟩
 obtain ⟨nm,⟨a0,b0,c0,d0⟩,lb,up⟩:=x
 obtain ⟨lr,hlr⟩:∃lr,lr=lb.map dh.cells:=⟨_,rfl⟩
 obtain ⟨J,hJ⟩:∃J:Nat→(bG×Bool)×Nat→Prop,∀n v,J n v↔(v.2+n=ps.length∧(ps.drop v.2).foldl (cH name) v.1=ps.foldl (cH name) (⟨a0,b0,c0,d0⟩,Yh)):=⟨fun n v=>v.2+n=ps.length∧(ps.drop v.2).foldl (cH name) v.1=ps.foldl (cH name) (⟨a0,b0,c0,d0⟩,Yh),fun _ _=>Iff.rfl⟩
 refine cL ht Tryz.func120 (N:=45) ?_
 cbv
 refine Lv trv (Qd ht name aD hl hf hlr) trv rfl rfl rfl ?_
 cbv
 refine bE ⟨[1,4,7,8,20,21,22],[],[]⟩ (σ:=(bG×Bool)×Nat) (fun v=>[(7,BL (t _ fun _=>v.1.2)),(22,bF (t _ fun _=>(v.2:Int)))]) (fun v=>[(1,.var [.d (.int .u64 (t _ fun _=>v.1.1.a)),.d (.int .u64 (t _ fun _=>v.1.1.b)),.d (.int .u64 (t _ fun _=>v.1.1.c)),.d (.int .u64 (t _ fun _=>v.1.1.d))])]) J ?_
 cbv
 refine aF ⟨ps.length,((⟨a0,b0,c0,d0⟩,Yh),0),(hJ _ _).2 ⟨by simp,by simp⟩,by simp only [ht];rfl,?_⟩
 rintro n ⟨⟨⟨a1,b1,c1,d1⟩,RL⟩,k⟩ hj
 obtain ⟨j1,j2⟩:=(hJ _ _).1 hj
 clear hj
 simp only at j1 j2
 cbv
 apply ap<;>intro h
 ·have hk:k<ps.length:=by simp [ht,ah] at h;omega
  clear h
  obtain ⟨x,hx⟩:∃x,ps[k]?=some x:=⟨ps[k],by simp⟩
  obtain ⟨jb,nd,⟨v1,v2,v3,v4⟩⟩:=x
  have hd:ps.drop k=⟨jb,nd,⟨v1,v2,v3,v4⟩⟩::ps.drop (k+1):=by
   rw [List.drop_eq_getElem_cons hk];congr 1
   rw [List.getElem?_eq_getElem hk] at hx;exact Option.some.inj hx
  rw [hd,List.foldl_cons] at j2
  cbv
  refine iW [.int .u64 jb,.str nd,.int .u64 v1,.int .u64 v2,.int .u64 v3,.int .u64 v4] ?_ ?_ ?_
  ·simp only [ht,ah];exact ⟨by omega,by omega,hrows⟩
  ·simp [ht,ah,dZ,hx]
  cbv
  repeat (first|refine gI (by (simp [ht];done)) ?_|refine pI (by (simp [ht];done)) ?_)
  apply ap<;>intro hb
  ·have hb':(RL&&decide (nd=name))=true:=by simp [ht] at hb ⊢;exact hb
   clear hb
   obtain ⟨⟨⟨r0,r1,r2,r3⟩,okr⟩,hv⟩:∃s,s=dO ⟨a1,b1,c1,d1⟩ ⟨v1,v2,v3,v4⟩:=⟨_,rfl⟩
   have hst:cH name (⟨a1,b1,c1,d1⟩,RL) ⟨jb,nd,⟨v1,v2,v3,v4⟩⟩=(⟨r0,r1,r2,r3⟩,okr):=by simp only [cH,hb',if_true];exact hv.symm
   rw [hst] at j2
   cbv
   refine gR trv (EI ht _ _ _ _ _ _ _ _ (by simp only [ht];exact hv)) trv rfl rfl ?_
   cbv
   refine aF ⟨n-1,((⟨r0,r1,r2,r3⟩,okr),k+1),⟨by omega,(hJ _ _).2 ⟨by show k+1+(n-1)=_;omega,j2⟩⟩,?_⟩
   simp only [ht,ah,aE (show k<9223372036854775807 by omega)];rfl
  have hb':(RL&&decide (nd=name))=false:=by simp [ht] at hb ⊢;exact hb
  clear hb
  have hst:cH name (⟨a1,b1,c1,d1⟩,RL) ⟨jb,nd,⟨v1,v2,v3,v4⟩⟩=(⟨a1,b1,c1,d1⟩,RL):=by simp [cH,hb']
  rw [hst] at j2
  cbv
  refine aF ⟨n-1,((⟨a1,b1,c1,d1⟩,RL),k+1),⟨by omega,(hJ _ _).2 ⟨by show k+1+(n-1)=_;omega,j2⟩⟩,?_⟩
  simp only [ht,ah,aE (show k<9223372036854775807 by omega)];rfl
 have hk:k=ps.length:=by simp [ht,ah] at h;omega
 clear h
 rw [hk,List.drop_length,List.foldl_nil] at j2
 have R7:(if RL then ((⟨a1,b1,c1,d1⟩:bG),RL) else (bG.zero,false))=(⟨a,b,c,d⟩,ok):=by rw [←hr,cB,hf,←j2]
 cbv
 apply ap<;>intro hb
 ·have hb':RL=false:=by simpa [ht] using hb
  clear hb
  subst hb'
  obtain ⟨⟨rfl,rfl,rfl,rfl⟩,rfl⟩:(a=0∧b=0∧c=0∧d=0)∧ok=false:=by simpa [bG.zero,eq_comm] using R7
  cbv
  exact an rfl
 have hb':RL=true:=by simpa [ht] using hb
 clear hb
 subst hb'
 obtain ⟨⟨rfl,rfl,rfl,rfl⟩,rfl⟩:(a1=a∧b1=b∧c1=c∧d1=d)∧true=ok:=by simpa using R7
 cbv
 refine an ?_
 simp only [ht]
theorem aag (ht:TT t) (bz:Int) {ps:List Place} {es qs:List (List D)} (dZ:qs=ps.map Place.cells) (Fi:ps.length<1000000) {r:List (List D)} (hr:r=(mO bz ps).map bf):
 FC 31 [.agg [SL es,SL qs],aB bz] [] (.ret (SL r)) []:=by
 have hrows:∀r∈qs,r.length=6:=by rw [dZ];intro r hr;obtain ⟨y,_,rfl⟩:=List.mem_map.1 hr;rfl
 have hel:qs.length=ps.length:=by rw [dZ,lgM]
 have hsub:∀k,(mO bz (ps.take k)).length≤ps.length:=by
  intro k;unfold mO;rw [lgM]
  exact Nat.le_trans (List.length_filter_le _ _) (by rw [List.length_take];omega)
 obtain ⟨J,hJ⟩:∃J:Nat→List (List D)×Nat→Prop,∀n v,J n v↔(v.2+n=ps.length∧v.1=(mO bz (ps.take v.2)).map bf):=⟨fun n v=>v.2+n=ps.length∧v.1=(mO bz (ps.take v.2)).map bf,fun _ _=>Iff.rfl⟩
 refine kM ht (bC:=[]) Tryz.func31 rfl rfl (N:=26) rfl rfl (n:=0) rfl rfl ?_
 cbv
 refine bE ⟨[1,5,9,10,11],[(5,1)],[]⟩ (σ:=List (List D)×Nat) (fun v=>[(5,.ow 0 1 (t _ fun _=>v.1.length)),(11,bF (t _ fun _=>(v.2:Int)))]) (fun v=>[(0,.row 1 (t _ fun _=>v.1))]) J ?_
 cbv
 refine aF ⟨ps.length,([],0),(hJ _ _).2 ⟨by simp,by simp [mO]⟩,by simp only [ht];rfl,?_⟩
 rintro n ⟨out,k⟩ hj
 obtain ⟨j1,j2⟩:=(hJ _ _).1 hj
 clear hj
 simp only at j1 j2
 cbv
 refine ap (fun h=>?_) (fun h=>?_)
 ·have hk:k<ps.length:=by simp [ht,ah] at h;omega
  clear h
  obtain ⟨x,hx⟩:∃x,ps[k]?=some x:=⟨ps[k],by simp⟩
  have htk:=dy hx
  obtain ⟨jb,nd,⟨v1,v2,v3,v4⟩⟩:=x
  cbv
  refine iW [.int .u64 jb,.str nd,.int .u64 v1,.int .u64 v2,.int .u64 v3,.int .u64 v4] ?_ ?_ ?_
  ·simp only [ht,ah];exact ⟨by omega,by omega,hrows⟩
  ·simp [ht,ah,dZ,hx]
  cbv
  refine ap (fun hb=>?_) (fun hb=>?_)
  ·have hb':jb=bz:=by simpa [ht] using hb
   clear hb
   have hnew:(mO bz (ps.take (k+1))).map bf=out++[[.str nd]]:=by
    rw [j2,htk];simp [mO,List.filter_append,hb']
   have hlen:out.length≤ps.length:=by rw [j2,lgM];exact hsub k
   cbv
   refine ⟨?_,aF ⟨n-1,(out++[[.str nd]],k+1),⟨by omega,(hJ _ _).2 ⟨by show k+1+(n-1)=_;omega,hnew.symm⟩⟩,?_⟩⟩
   ·simp only [ht]
    refine ⟨by simp,by simp;omega,?_⟩
    intro r hr
    rcases List.mem_append.1 hr with hr|hr
    ·rw [j2] at hr;obtain ⟨z,_,rfl⟩:=List.mem_map.1 hr;rfl
    simp at hr;subst hr;rfl
   simp only [ht,ah,List.length_append,aE (show k<9223372036854775807 by omega)];rfl
  have hb':¬jb=bz:=by simpa [ht] using hb
  clear hb
  have hnew:(mO bz (ps.take (k+1))).map bf=out:=by
   rw [j2,htk];simp [mO,List.filter_append,hb']
  cbv
  refine aF ⟨n-1,(out,k+1),⟨by omega,(hJ _ _).2 ⟨by show k+1+(n-1)=_;omega,hnew.symm⟩⟩,?_⟩
  simp only [ht,ah,aE (show k<9223372036854775807 by omega)];rfl
 have hk:k=ps.length:=by simp [ht,ah] at h;omega
 clear h
 rw [hk,List.take_length,←hr] at j2
 subst j2
 cbv
 refine iq trv ?_ rfl rfl rfl ?_
 ·simp only [ht]
 simp only [ht]
theorem LN (ht:TT t) (name:aI) {l:List Node} {es ps:List (List D)} (aD:es=l.map Node.cells) (hl:l.length<9223372036854775807):
 FC 33 [.agg [SL es,SL ps],ST name] [] (.ret (Js t (t _ fun _=>dM name l))) []:=by
 simp only [ht]
 generalize hr:dM name l=r
 obtain ⟨⟨nm,⟨a,b,c,d⟩,lb,up⟩,ok⟩:=r
 exact (by simpa only [Js,UF,ht] using Qd ht name aD hl hr rfl)
theorem LO (ht:TT t) (name:aI) {l:List Node} {ps:List Place} {es qs:List (List D)} (aD:es=l.map Node.cells) (dZ:qs=ps.map Place.cells) (hl:l.length<9223372036854775807) (Fi:ps.length<9223372036854775807):
 FC 120 [.agg [SL es,SL qs],ST name] [] (.ret (Za (t _ fun _=>cB name l ps))) []:=by
 simp only [ht]
 generalize hr:cB name l ps=r
 obtain ⟨⟨a,b,c,d⟩,ok⟩:=r
 exact VN ht name aD dZ hl Fi hr
theorem vO (ht:TT t) (a b c d e f g h:Int):FC 142 [V4 a b c d,V4 e f g h] [] (.ret (dH (t _ fun _=>lg ⟨a,b,c,d⟩ ⟨e,f,g,h⟩))) []:=by
 simp only [ht];exact S6 ht _ _ _ _ _ _ _ _ rfl
theorem S7 (ht:TT t) (name:aI) (v0 v1 v2 v3:Int) {l:List Node} {ps:List Place} {es qs:List (List D)} (aD:es=l.map Node.cells) (dZ:qs=ps.map Place.cells) (hl:l.length<9223372036854775807) (Fi:ps.length<9223372036854775807):
 FC 119 [.agg [SL es,SL qs],ST name,V4 v0 v1 v2 v3] [] (.ret (kS (t _ fun _=>m8 name ⟨v0,v1,v2,v3⟩ l ps))) []:=by
 refine cL ht Tryz.func119 (N:=39) ?_
 cbv
 refine aC (LN ht _ ‹_› ‹_›) trv (fun r0 c8=>?_)
 simp only [ht] at c8
 cbv
 refine aP (LO ht _ ‹_› ‹_› ‹_› ‹_›) trv (fun r1 cR=>?_)
 simp only [ht] at cR
 cbv
 apply ap<;>intro h2
 ·simp [ht] at h2
  cbv
  refine an ?_
  (simp only [ht,m8];grind)
 simp [ht] at h2
 cbv
 apply ap<;>intro h3
 ·simp [ht] at h3
  cbv
  refine an ?_
  (simp only [ht,m8];grind)
 simp [ht] at h3
 cbv
 iterate 2 refine gI (by simp [ht]) ?_
 refine eR (fun g4=>⟨by simp [ht] at g4 ⊢;exact g4,trv,vO ht _ _ _ _ _ _ _ _⟩) rfl rfl (fun r5 zo=>?_)
 simp only [ht] at zo
 cbv
 refine gI (by simp [ht]) ?_
 refine pI (by simp [ht]) ?_
 apply ap<;>intro h6
 ·simp [ht] at h6
  cbv
  refine an ?_
  (simp_all [m8];done)
 simp [ht] at h6
 cbv
 refine an ?_
 (simp_all [m8];done)
theorem Cj (ht:TT t) {ps:List Place} {es:List (List D)} (aD:es=ps.map Place.cells) (hs:ps.length<1000000000):
 FC 118 [SL es] [] (.ret (.ow 0 6 (t _ fun _=>(ps.map Place.cells).length))) [.row 6 (t _ fun _=>ps.map Place.cells)]:=by
 simp only [ht];subst aD
 refine vN ht ?_ ?_ (by simp)
 ·intro r hr;obtain ⟨y,_,rfl⟩:=List.mem_map.1 hr;rfl
 simp;omega
theorem VO (ht:TT t) (bz:Int) (v0 v1 v2 v3:Int) {l:List Node} {ps:List Place} {names:List aI} {es qs ns:List (List D)} (aD:es=l.map Node.cells) (dZ:qs=ps.map Place.cells) (fI:ns=names.map bf) (hl:l.length<1000000000) (Fi:ps.length<100000000) (OV:names.length<100000000):
 FC 78 [.agg [SL es,SL qs],aB bz,SL ns,V4 v0 v1 v2 v3] [] (.ret (Ek t (t _ fun _=>tN ⟨l,ps⟩ bz names ⟨v0,v1,v2,v3⟩))) []:=by
 refine cL ht Tryz.func78 (N:=45) ?_
 cbv
 have aQ:es.length=l.length:=by rw [aD,lgM]
 have cW:qs.length=ps.length:=by rw [dZ,lgM]
 have dS:ns.length=names.length:=by rw [fI,lgM]
 refine cE [false,false,false,false,false,false,false,true] ?_
 cbv
 iterate 4 refine gI (by simp) ?_
 refine .inr (GM trv (Cj ht ‹_› (by omega)) trv rfl (.inr rfl) rfl ?_)
 cbv
 refine gI (by simp) ?_
 obtain ⟨J0,fK⟩:∃J0:Nat→Int×List (List D)→Prop,∀n i u,J0 n (i,u)↔(∃(k:Nat) (rs:List Place),i=k∧k+n=names.length∧u=rs.map Place.cells∧rs.length=ps.length+k∧fB l bz ⟨v0,v1,v2,v3⟩ names ps=fB l bz ⟨v0,v1,v2,v3⟩ (names.drop k) rs):=⟨fun n v=>match v with|(i,u)=>(∃(k:Nat) (rs:List Place),i=k∧k+n=names.length∧u=rs.map Place.cells∧rs.length=ps.length+k∧fB l bz ⟨v0,v1,v2,v3⟩ names ps=fB l bz ⟨v0,v1,v2,v3⟩ (names.drop k) rs),fun _ _ _=>Iff.rfl⟩
 refine bE ⟨[1,4,7,8,10,20,21,22],[],[]⟩ (σ:=Int×List (List D)) (fun v=>[(22,.d (.int .i64 (t _ fun _=>v.1)))]) (fun v=>[(2,.var [AV.cl [],AV.cl []]),(4,.row 6 (t _ fun _=>v.2)),(3,.var [AV.d (D.sl es),.ow 4 6 (t _ fun _=>(v.2).length)])]) J0 ?_
 cbv
 refine aF ⟨names.length,(_,_),(fK _ _ _).2 ?_,by simp only [ht];rfl,?_⟩
 ·exact ⟨0,ps,rfl,by simp,by simp,by simp,by simp⟩
 rintro n ⟨i,u⟩ hj
 replace hj:=(fK _ _ _).1 hj
 obtain ⟨k,rs,rfl,j1,j2,j3,j4⟩:=hj
 have LP:u.length=rs.length:=by rw [j2,lgM]
 cbv
 apply ap<;>intro h1
 ·simp [ht,ah,dS] at h1
  cbv
  refine kL ht fI (cT:=eL t) (by (simp only [ht,ah];omega)) (by (simp only [ht,ah];omega)) (fun _=>rfl) (fun _=>rfl) (fun x2 oc=>?_)
  simp [ht,ah] at oc
  rw [gW oc,fB] at j4
  cbv
  refine aP (S7 ht _ _ _ _ _ ‹_› (by (simp only [ht];omega)) (by omega) (by omega)) (by simp [ht]) (fun r3 lm=>?_)
  simp only [ht] at lm
  cbv
  apply ap<;>intro h4
  ·simp [ht] at h4
   cbv
   refine an ?_
   (simp only [ht,tN];grind)
  simp [ht] at h4
  cbv
  refine ⟨?_,?_⟩
  ·(simp only [ht,true_and];exact UG j2 (fun _=>rfl) rfl (by omega) (by decide))
  cbv
  refine cr (_,_) (by simp only [ht,←List.length_append];rfl) (n-1) ?_ ((fK _ _ _).2 ?_)
  ·omega
  simp only [ah]
  refine ⟨k+1,rs++[⟨bz,x2,⟨v0,v1,v2,v3⟩⟩],aE (by omega),by omega,?_,by simp;omega,?_⟩
  ·(simp [*];done)
  (simp_all;done)
 simp [ht,ah,dS] at h1
 cbv
 refine iq trv (by simp [ht]) rfl rfl rfl ?_
 (rw [List.drop_eq_nil_of_le (by omega),fB] at j4;simp [ht,tN,j4,aD,j2];done)
theorem Hs (ht:TT t) (name:aI) {l:List Node} {es ps:List (List D)} (aD:es=l.map Node.cells) (hl:l.length<9223372036854775807):
 FC 73 [.agg [SL es,SL ps],ST name] [] (.ret (kS (t _ fun _=>idxOf (fun x=>decide (x.name=name)) l))) []:=by
 simp only [ht];exact LM ht name aD hl rfl
theorem o8 (ht:TT t) {l:List Node} {es:List (List D)} (aD:es=l.map Node.cells) (hs:l.length<1000000000):
 FC 147 [SL es] [] (.ret (.ow 0 7 (t _ fun _=>(l.map Node.cells).length))) [.row 7 (t _ fun _=>l.map Node.cells)]:=by
 simp only [ht];subst aD
 refine Ho ht ?_ ?_ (by simp)
 ·intro r hr;obtain ⟨y,_,rfl⟩:=List.mem_map.1 hr;rfl
 simp;omega
def dh.bw (_:Th) (x:dh):List D:=[.str x.key,.str x.value]
theorem M1 (ht:TT t) (c:Int) {l:List (Int×Int)} {es:List (List D)} (aD:es=l.map (fun x=>[D.int .i32 x.1,D.int .i32 x.2])) (f:Nat) (p:Int×Int→Bool) (hl:l.length<9223372036854775807)
 (hf:∀x∈l,FC f [.agg [.d (.int .i32 x.1),.d (.int .i32 x.2)],.ptr 0 0] [.var [.d (.int .i32 c)]] (.ret (BL (p x))) [.var [.d (.int .i32 c)]]) {r:Int} (hr:r=idxOf p l):FC 225 [SL es,.fn f [.ptr 0 0]] [.var [.d (.int .i32 c)]] (.ret (bF r)) [.var [.d (.int .i32 c)]]:=by
 have hel:es.length=l.length:=by rw [aD,lgM]
 refine kM ht (bC:=[.var [.d (.int .i32 c)]]) Tryz.func225 rfl rfl (N:=19) rfl rfl (n:=1) rfl rfl ?_
 cbv
 refine bE ⟨[0,1,7,8],[],[]⟩ (σ:=Nat) (fun k=>[(8,bF (t _ fun _=>(k:Int)))]) (fun _=>[]) (vL p l) ?_
 cbv
 refine aF ⟨l.length,0,.nil,by simp only [ht];rfl,fun n k hj=>?_⟩
 cbv
 apply ap<;>intro h
 ·simp only [ht,ah,decide_eq_true_eq] at h
  have hk:k<es.length:=by omega
  obtain ⟨x,hx,pK,px,hpx⟩:=hj.get (by omega)
  have iw:=hf x pK
  rw [←hpx] at iw
  obtain ⟨lo,hi⟩:=x
  cbv
  refine iW [.int .i32 lo,.int .i32 hi] ?_ ?_ ?_
  ·simp only [ht,ah];exact sB aD hk fun _=>rfl
  ·simp [ht,ah,aD,hx]
  cbv
  refine eE trv iw ?_
  cbv
  apply ap<;>intro hb
  ·cbv
   refine an ?_
   simp only [ht,ah,hr,hj.hit hx (hpx▸hb)]
  cbv
  refine aF ⟨n-1,k+1,⟨hj.lt hx,hj.next hx (hpx▸hb)⟩,?_⟩
  simp only [ht,ah,aE (show k<9223372036854775807 by omega)];rfl
 simp only [ht,ah,decide_eq_false_iff_not] at h
 have hk:l.length≤k:=by omega
 clear h
 cbv
 refine an ?_
 rw [hr,hj.none hk]
theorem M2 (ht:TT t) (c:Int) {l:List (Int×Int)} {es:List (List D)} (aD:es=l.map (fun x=>[D.int .i32 x.1,D.int .i32 x.2])) (f:Nat) (p:Int×Int→Bool) (hl:l.length<9223372036854775807)
 (hf:∀x∈l,FC f [.agg [.d (.int .i32 x.1),.d (.int .i32 x.2)],.ptr 0 0] [.var [.d (.int .i32 c)]] (.ret (BL (p x))) [.var [.d (.int .i32 c)]]) {r:Bool} (hr:r=l.any p):FC 204 [SL es,.fn f [.ptr 0 0]] [.var [.d (.int .i32 c)]] (.ret (BL r)) [.var [.d (.int .i32 c)]]:=by
 obtain ⟨k,hk⟩:∃k,k=idxOf p l:=⟨_,rfl⟩
 refine kM ht (bC:=[.var [.d (.int .i32 c)]]) Tryz.func204 rfl rfl (N:=9) rfl rfl (n:=1) rfl rfl ?_
 cbv
 refine eE trv (M1 ht c aD f p hl hf hk) ?_
 cbv
 refine an ?_
 simp only [ht,hr,iR,hk]
theorem Qf (ht:TT t) (c lo hi:Int) {r:Bool} (hr:r=(decide (lo≤c)&&decide (c≤hi))):FC 205 [.agg [.d (.int .i32 lo),.d (.int .i32 hi)],.ptr 0 0] [.var [.d (.int .i32 c)]] (.ret (BL r)) [.var [.d (.int .i32 c)]]:=by
 refine kM ht (bC:=[.var [.d (.int .i32 c)]]) Tryz.func205 rfl rfl (N:=14) rfl rfl (n:=1) rfl rfl ?_
 cbv
 repeat (first|refine gI (by (simp [ht];done)) ?_|refine pI (by (simp [ht];done)) ?_)
 refine an ?_
 simp [ht,hr]
theorem LQ (ht:TT t) (c:Int) (l:List (Int×Int)) {es:List (List D)} (aD:es=l.map (fun x=>[D.int .i32 x.1,D.int .i32 x.2])) (hl:l.length<9223372036854775807) {r:Bool} (hr:r=GX c l):FC 171 [.d (.int .i32 c),SL es] [] (.ret (BL r)) []:=by
 refine cL ht Tryz.func171 (N:=8) ?_
 cbv
 refine eE trv (M2 ht c aD 205 (fun x=>decide (x.1≤c)&&decide (c≤x.2)) hl (fun x _=>Qf ht c x.1 x.2 rfl) hr) ?_
 cbv
 exact an rfl
theorem S8 (ht:TT t) (s:aI) (hs:s.length<9223372036854775807) {r:Int} (hr:r=qy s):FC 206 [ST s] [] (.ret (bF r)) []:=by
 obtain ⟨J,hJ⟩:∃J:Nat→Nat×Nat→Prop,∀n v,J n v↔(s.length≤v.1+n∧v.2+(iK s n v.1).length=qy s):=⟨fun n v=>s.length≤v.1+n∧v.2+(iK s n v.1).length=qy s,fun _ _=>Iff.rfl⟩
 have hc:qy s≤s.length:=AJ s _ _
 refine cL ht Tryz.func206 (N:=10) ?_
 cbv
 refine bE ⟨[2,4],[],[]⟩ (σ:=Nat×Nat) (fun v=>[(2,bF (t _ fun _=>(v.2:Int)))]) (fun v=>[(0,.it s (t _ fun _=>v.1))]) J ?_
 cbv
 refine aF ⟨s.length,(0,0),(hJ _ _).2 ⟨by simp,by simp [qy,CT]⟩,by simp only [ht];rfl,?_⟩
 rintro n ⟨pos,k⟩ hj
 obtain ⟨hf,hj⟩:=(hJ _ _).1 hj
 cbv
 refine ⟨fun hp=>?_,fun hp=>?_⟩
 ·simp only [ht] at hp hj hf
  cases n with
  |zero=>exfalso;omega
  |succ n=>
  rw [iK,if_pos hp] at hj
  cbv
  refine ld rfl ?_
  cbv
  have hd:=Lx s pos hp
  refine aF ⟨n,(pos+(dec s pos).2,k+1),⟨by omega,(hJ _ _).2 ⟨?_,?_⟩⟩,?_⟩
  ·show s.length≤pos+_+n;omega
  ·rw [←hj];simp only [List.length_cons];omega
  simp only [ht,ah,aE (show k<9223372036854775807 by simp at hj;omega)];rfl
 simp only [ht] at hp hj
 cbv
 refine pE rfl ?_
 cbv
 refine an ?_
 have e:iK s n pos=[]:=by cases n with
  |zero=>rfl
  |succ n=>rw [iK,if_neg hp]
 rw [e] at hj
 simp only [ht,ah,hr,←hj];rfl
theorem Qg (ht:TT t) (s:aI) (hs:s.length<9223372036854775807) {r:Int} (hr:r=qy s):FC 172 [ST s] [] (.ret (bF r)) []:=by
 refine cL ht Tryz.func172 (N:=5) ?_
 cbv
 refine gR trv (S8 ht s hs hr) trv rfl rfl ?_
 cbv
 exact an rfl
theorem A9 (ht:TT t) (s:aI) (hs:s.length<9223372036854775807) {r:Bool} (hr:r=dY s):FC 121 [ST s] [] (.ret (BL r)) []:=by
 obtain ⟨J,hJ⟩:∃J:Nat→Nat→Prop,∀n v,J n v↔(s.length≤v+n∧(CT s).all Vy=(iK s n v).all Vy):=⟨fun n v=>s.length≤v+n∧(CT s).all Vy=(iK s n v).all Vy,fun _ _=>Iff.rfl⟩
 refine cL ht Tryz.func121 (N:=32) ?_
 cbv
 refine bE ⟨[0,2,6],[],[]⟩ (σ:=Nat) (fun _=>[]) (fun v=>[(0,.it s (t _ fun _=>v))]) J ?_
 cbv
 refine aF ⟨s.length,0,(hJ _ _).2 ⟨by simp,by simp [CT]⟩,by simp only [ht];rfl,?_⟩
 rintro n pos hj
 obtain ⟨hf,hj⟩:=(hJ _ _).1 hj
 cbv
 refine ⟨fun hp=>?_,fun hp=>?_⟩
 ·simp only [ht] at hp hj hf
  cases n with
  |zero=>exfalso;omega
  |succ n=>
  rw [iK,if_pos hp] at hj
  obtain ⟨b1,wj⟩:∃b,b=GX (dec s pos).1 Eh:=⟨_,rfl⟩
  obtain ⟨b2,um⟩:∃b,b=GX (dec s pos).1 marks:=⟨_,rfl⟩
  cbv
  refine ld rfl ?_
  cbv
  refine gR trv (LQ ht _ Eh rfl (by decide) (r:=b1) (by simp only [ht,ah];exact wj)) trv rfl rfl ?_
  cbv
  repeat (refine gI (by (simp [ht];done)) ?_)
  refine GL (fun hg=>⟨by simp [ht] at hg ⊢;exact hg,trv,LQ ht _ marks rfl (by decide) (r:=b2) (by simp only [ht,ah];exact um)⟩) rfl rfl ?_
  cbv
  repeat (first|refine gI (by first|(simp [ht,aJ];done)|(simp [ht,aJ];intros;simp_all;done)) ?_|refine pI (by (simp [ht];done)) ?_)
  obtain ⟨b,hb⟩:∃b,b=(!b1&&(decide (pos=0)||!b2)):=⟨_,rfl⟩
  have hw:Vy (pos,(dec s pos).1)=!b:=by
   simp only [Vy,←wj,←um,hb];cases b1<;>cases b2<;>simp
  apply ap<;>intro hc
  ·have hbt:b=true:=by rw [hb];simp [ht,ah] at hc;revert hc;cases b1<;>cases b2<;>simp
   cbv
   refine an ?_
   simp only [List.all_cons,hw,hbt] at hj
   simp [hr,dY,hj]
  have hbf:b=false:=by rw [hb];simp [ht,ah] at hc;revert hc;cases b1<;>cases b2<;>simp
  cbv
  have hd:=Lx s pos hp
  refine aF ⟨n,pos+(dec s pos).2,⟨by omega,(hJ _ _).2 ⟨by omega,?_⟩⟩,?_⟩
  ·rw [hj,List.all_cons,hw,hbf];rfl
  simp only [ht];rfl
 simp only [ht] at hp hj
 have e:iK s n pos=[]:=by cases n with
  |zero=>rfl
  |succ n=>rw [iK,if_neg hp]
 rw [e] at hj
 obtain ⟨k,hk⟩:∃k:Int,k=qy s:=⟨_,rfl⟩
 cbv
 refine pE rfl ?_
 cbv
 repeat (refine gI (by (simp [ht];done)) ?_)
 refine GL (fun hg=>⟨by simp [ht] at hg ⊢;exact hg,trv,Qg ht s hs hk⟩) rfl rfl ?_
 cbv
 repeat (first|refine gI (by (simp [ht];done)) ?_|refine pI (by (simp [ht];done)) ?_)
 refine an ?_
 simp only [List.all_nil] at hj
 simp only [ht,ah,hr,dY,hj,hk,Bool.true_and]
 simp
 congr 1
 rw [decide_eq_decide];omega
theorem Qh (ht:TT t) (l:List dh) (hl:l.length<9223372036854775807) (uo:∀p∈l,p.sm) {es:List (List D)} (aD:es=l.map dh.cells) {r:Bool} (hr:r=tM l):FC 122 [SL es] [] (.ret (BL r)) []:=by
 have hel:es.length=l.length:=by rw [aD,lgM]
 obtain ⟨J,hJ⟩:∃J:Nat→Nat→Prop,∀n v,J n v↔(v+n=l.length∧jG none l=jG (lJ l v) (l.drop v)):=⟨fun n v=>v+n=l.length∧jG none l=jG (lJ l v) (l.drop v),fun _ _=>Iff.rfl⟩
 refine cL ht Tryz.func122 (N:=41) ?_
 cbv
 refine bE ⟨[0,2,5,6,7],[],[]⟩ (σ:=Nat) (fun k=>[(7,bF (t _ fun _=>(k:Int)))]) (fun _=>[]) J ?_
 cbv
 refine aF ⟨l.length,0,(hJ _ _).2 ⟨by simp,by simp [lJ]⟩,by simp only [ht];rfl,?_⟩
 rintro n k hj
 obtain ⟨h2,h3⟩:=(hJ _ _).1 hj
 clear hj
 cbv
 apply ap<;>intro h
 ·simp only [ht,ah,decide_eq_true_eq] at h
  have hk:k<l.length:=by omega
  obtain ⟨⟨ky,vl⟩,hx⟩:∃x,l[k]?=some x:=⟨l[k],by simp⟩
  obtain ⟨sk,sv⟩:=uo _ (List.mem_of_getElem? hx)
  obtain ⟨b1,wj⟩:∃b,b=dY ky:=⟨_,rfl⟩
  obtain ⟨b2,um⟩:∃b,b=dY vl:=⟨_,rfl⟩
  cbv
  refine iW [.str ky,.str vl] ?_ ?_ ?_
  ·simp only [ht,ah];refine ⟨by omega,h,?_⟩;rw [aD];intro r hr;obtain ⟨y,_,rfl⟩:=List.mem_map.1 hr;rfl
  ·simp [ht,ah,aD,hx]
  cbv
  refine cE [true,true,true,true,true,true,true,true,true,true,true,true,true,true,false,false,false,false,false,false,false,false,true,true,true] ?_
  cbv
  refine gR trv (A9 ht ky sk wj) trv rfl rfl ?_
  cbv
  repeat (refine gI (by (simp [ht];done)) ?_)
  refine GL (fun hg=>⟨by simp [ht] at hg ⊢;exact hg,trv,A9 ht vl sv um⟩) rfl rfl ?_
  cbv
  obtain ⟨⟨qk,qv⟩,hq⟩:∃q:dh,k≠0→l[k-1]?=some q:=by
   by_cases h0:k=0
   ·exact ⟨⟨[],[]⟩,fun h=>absurd h0 h⟩
   exact ⟨l[k-1],fun _=>by simp⟩
  repeat (first|refine gI (by (simp [ht];done)) ?_|refine pI (by (simp [ht];done)) ?_)
  refine SI [.str qk,.str qv] ?_ ?_
  ·intro hg
   simp [ht,ah] at hg
   have h0:k≠0:=by omega
   have hw:IntKind.i64.wrap ((k:Int)-1)=((k-1:Nat):Int):=by rw [wrap64 (by omega) (by omega)];omega
   refine ⟨⟨?_,?_⟩,?_⟩
   ·simp [ht,ah];omega
   ·simp only [ht,ah,hw]
    refine ⟨by omega,by omega,?_⟩
    rw [aD];intro r hr;obtain ⟨y,_,rfl⟩:=List.mem_map.1 hr;rfl
   simp [ht,ah,hw,aD,hq h0]
  cbv
  repeat (first|refine gI (by first|(simp [ht,aJ];done)|(simp [ht,aJ];intros;simp_all;done)) ?_|refine pI (by (simp [ht];done)) ?_)
  obtain ⟨b,hb⟩:∃b,b=(!b1||!b2||(decide (0<k)&&sle ky qk)):=⟨_,rfl⟩
  have hstep:jG (lJ l k) (l.drop k)=(!b&&jG (lJ l (k+1)) (l.drop (k+1))):=by
   have e1:l.drop k=⟨ky,vl⟩::l.drop (k+1):=by
    rw [List.drop_eq_getElem_cons hk];congr 1
    rw [List.getElem?_eq_getElem hk] at hx;exact Option.some.inj hx
   have e2:lJ l (k+1)=some ky:=by simp [lJ,hx]
   rw [e1,e2]
   cases k with
   |zero=>simp [jG,lJ,←wj,←um,hb]
   |succ k=>
    have:=hq (by omega)
    simp only [Nat.add_sub_cancel] at this
    simp [jG,lJ,this,←wj,←um,hb]
  apply ap<;>intro hc
  ·have hbt:b=true:=by rw [hb];simp [ht,ah,sle] at hc ⊢;revert hc;cases b1<;>cases b2<;>simp
   cbv
   refine an ?_
   rw [hr,tM,h3,hstep,hbt];rfl
  have hbf:b=false:=by rw [hb];simp [ht,ah,sle] at hc ⊢;revert hc;cases b1<;>cases b2<;>simp
  cbv
  refine aF ⟨n-1,k+1,⟨by omega,(hJ _ _).2 ⟨by omega,?_⟩⟩,?_⟩
  ·rw [h3,hstep,hbf];rfl
  simp only [ht,ah,aE (show k<9223372036854775807 by omega)];rfl
 simp only [ht,ah,decide_eq_false_iff_not] at h
 have hk:k=l.length:=by omega
 clear h
 cbv
 refine an ?_
 simp only [ht,ah,hel,hr,tM,h3,hk,List.drop_length,jG,Bool.true_and]
 simp
 omega
theorem Ba (ht:TT t) {l:List Node} {ps:List Place} {es qs:List (List D)} (aD:es=l.map Node.cells) (dZ:qs=ps.map Place.cells) (hl:l.length<1000000000) (Fi:ps.length<1000000000):
 FC 96 [.agg [SL es,SL qs]] [] (.ret (VA t (t _ fun _=>l.filterMap (nZ l ps)))) []:=by
 refine cL ht Tryz.func96 (N:=38) ?_
 cbv
 have aQ:es.length=l.length:=by rw [aD,lgM]
 have cW:qs.length=ps.length:=by rw [dZ,lgM]
 obtain ⟨J0,fK⟩:∃J0:Nat→List (List D)×Int→Prop,∀n o i,J0 n (o,i)↔(∃(k:Nat) (rs:List bL),i=k∧k+n=l.length∧o=rs.map bL.cells∧rs.length≤k∧l.filterMap (nZ l ps)=rs++(l.drop k).filterMap (nZ l ps)):=⟨fun n v=>match v with|(o,i)=>(∃(k:Nat) (rs:List bL),i=k∧k+n=l.length∧o=rs.map bL.cells∧rs.length≤k∧l.filterMap (nZ l ps)=rs++(l.drop k).filterMap (nZ l ps)),fun _ _ _=>Iff.rfl⟩
 refine bE ⟨[1,3,9,10,11],[(3,6)],[]⟩ (σ:=List (List D)×Int) (fun v=>[(3,.ow 1 6 (t _ fun _=>(v.1).length)),(11,.d (.int .i64 (t _ fun _=>v.2)))]) (fun v=>[(1,.row 6 (t _ fun _=>v.1))]) J0 ?_
 cbv
 refine aF ⟨l.length,([],_),(fK _ _ _).2 ?_,by simp only [ht];rfl,?_⟩
 ·exact ⟨0,[],rfl,by simp,rfl,by simp,by simp⟩
 rintro n ⟨o,i⟩ hj
 replace hj:=(fK _ _ _).1 hj
 obtain ⟨k,rs,rfl,j1,j2,j3,j4⟩:=hj
 have Yi:o.length=rs.length:=by rw [j2,lgM]
 cbv
 apply ap<;>intro h1
 ·simp [ht,ah,aQ] at h1
  cbv
  refine kL ht aD (cT:=Node.bw t) (by (simp only [ht,ah];omega)) (by (simp only [ht,ah];omega)) (fun _=>rfl) (fun _=>(by (simp only [ht,Node.bw];done))) (fun x2 oc=>?_)
  simp [ht,ah] at oc
  rw [gW oc,List.filterMap_cons,nZ] at j4
  cbv
  refine aP (LO ht _ ‹_› ‹_› (by omega) (by omega)) trv (fun r3 lm=>?_)
  simp only [ht] at lm
  cbv
  iterate 2 refine gI (by simp) ?_
  refine pI (by simp) ?_
  apply ap<;>intro h4
  ·simp [ht] at h4
   cbv
   refine ⟨?_,?_⟩
   ·(simp only [ht,true_and];exact UG j2 (fun _=>rfl) rfl (by omega) (by decide))
   cbv
   refine cr (_,_) (by simp only [ht,←List.length_append];rfl) (n-1) ?_ ((fK _ _ _).2 ?_)
   ·omega
   simp only [ah]
   refine ⟨k+1,rs++[⟨(x2).name,(cB (x2).name l ps).1,(x2).labels⟩],aE (by omega),by omega,?_,by simp;omega,?_⟩
   ·(simp [bL.cells, *];done)
   (simp_all;done)
  simp [ht] at h4
  cbv
  refine cr (_,_) (by simp only [ht];rfl) (n-1) ?_ ((fK _ _ _).2 ?_)
  ·omega
  simp only [ah]
  exact ⟨k+1,rs,aE (by omega),by omega,j2,by omega,by grind⟩
 simp [ht,ah,aQ] at h1
 cbv
 refine iq trv (by simp [ht]) rfl rfl rfl ?_
 (rw [List.drop_eq_nil_of_le (by omega)] at j4;simp [*];done)
theorem rW (ht:TT t) (s:aI) (hs:s.length<9223372036854775807):FC 121 [ST s] [] (.ret (dH (t _ fun _=>dY s))) []:=by
 simp only [ht];exact A9 ht s hs rfl
theorem M3 (ht:TT t) {l:List dh} {es:List (List D)} (aD:es=l.map dh.cells) (hl:l.length<1000000000) (uo:∀p∈l,p.sm):FC 122 [SL es] [] (.ret (dH (t _ fun _=>tM l))) []:=by
 simp only [ht];exact Qh ht l (by omega) uo aD rfl
def Term.sm (x:Term):Prop:=x.key.length<9223372036854775807∧x.mR.length<1000000000∧∀v∈x.mR,v.length<9223372036854775807
def prevStr (l:List aI) (k:Nat):Option aI:=match k with
 |0=>none
 |k+1=>l[k]?
theorem tm8 (a:Nat):(a:Int).tmod 8=((a%8:Nat):Int):=by rw [Int.tmod_eq_emod_of_nonneg (by omega)];rfl
theorem aaj (a:Nat):(a:Int).tmod 12=((a%12:Nat):Int):=by rw [Int.tmod_eq_emod_of_nonneg (by omega)];rfl
theorem WR (a:Nat):(a:Int).tmod 5=((a%5:Nat):Int):=by rw [Int.tmod_eq_emod_of_nonneg (by omega)];rfl
theorem tm4 (a:Nat):(a:Int).tmod 4=((a%4:Nat):Int):=by rw [Int.tmod_eq_emod_of_nonneg (by omega)];rfl
theorem tm3 (a:Nat):(a:Int).tmod 3=((a%3:Nat):Int):=by rw [Int.tmod_eq_emod_of_nonneg (by omega)];rfl
theorem tm2 (a:Nat):(a:Int).tmod 2=((a%2:Nat):Int):=by rw [Int.tmod_eq_emod_of_nonneg (by omega)];rfl
theorem td5 (a:Nat):(a:Int).tdiv 5=((a / 5:Nat):Int):=by rw [Int.tdiv_eq_ediv_of_nonneg (by omega)];rfl
theorem aam (a:Nat):(a:Int).tdiv 25=((a / 25:Nat):Int):=by rw [Int.tdiv_eq_ediv_of_nonneg (by omega)];rfl
theorem td3 (a:Nat):(a:Int).tdiv 3=((a / 3:Nat):Int):=by rw [Int.tdiv_eq_ediv_of_nonneg (by omega)];rfl
theorem wu8 (a:Nat) (h:a<256):IntKind.u8.wrap (a:Int)=(a:Int):=by simp only [IntKind.wrap];simp [IntKind.bits,IntKind.signed];omega
theorem S9 (a:Nat) (h:a<256):IntKind.u64.wrap (a:Int)=(a:Int):=by simp only [IntKind.wrap];simp [IntKind.bits,IntKind.signed];omega
theorem M4 (a:Nat) (h:a<1000000000):IntKind.i64.wrap (a:Int)=(a:Int):=wrap64 (by omega) (by omega)
def aao (t:Th) (x:Ask):AV:=.agg [ST x.path,aB x.fY.a,aB x.fY.b,aB x.fY.c,aB x.fY.d,bF x.count,bF x.prio,bF x.eI,SL (t _ fun _=>x.cg.map Term.cells)]
abbrev U8 (x:Int):AV:=.d (.int .u8 x)
def EJ:List (List D):=[[D.str [97]],[D.str [97,47,98]],[D.str [98]],[D.str [206,177,206,178]]]
theorem Qi (k:Nat):(0≤((k%4:Nat):Int))∧((k%4:Nat):Int)<EJ.length∧∀r,r∈EJ→r.length=1:=by
 refine ⟨by omega,?_,by decide+revert⟩
 show ((k%4:Nat):Int)<(4:Nat)
 omega
theorem Qj (k:Nat):EJ.getD ((k%4:Nat):Int).toNat []=[D.str (A5.getD (k%4) [])]:=by
 have:∀k<4,EJ.getD ((k:Nat):Int).toNat []=[D.str (A5.getD k [])]
  |0,_=>rfl
  |1,_=>rfl
  |2,_=>rfl
  |3,_=>rfl
  |k+4,h=>by omega
 exact this _ (Nat.mod_lt _ (by decide))
theorem VP (ht:TT t) (nm:aI) (a b c d:Int) {lb:List (List D)} (up:Bool) (W4:aI) (a' b' c' d':Int) {lb':List (List D)} (up':Bool) {r:Bool} (hr:r=!Op.bytesLess W4 nm):
 FC 145 [.agg [ST W4,aB a',aB b',aB c',aB d',SL lb',BL up'],.ptr 0 0] [.var [ST nm,aB a,aB b,aB c,aB d,SL lb,BL up]] (.ret (BL r)) [.var [ST nm,aB a,aB b,aB c,aB d,SL lb,BL up]]:=by
 refine kM ht (bC:=[.var [ST nm,aB a,aB b,aB c,aB d,SL lb,BL up]]) Tryz.func145 rfl rfl (N:=9) rfl rfl (n:=1) rfl rfl ?_
 cbv
 refine an ?_
 (simp only [ht,hr];done)
theorem JS (ht:TT t) (nm:aI) (a b c d:Int) (lb:List (List D)) (up:Bool) {l:List (Node)} {es:List (List D)} (aD:es=l.map Node.cells) (f:Nat) (p:Node→Bool) (hl:l.length<9223372036854775807)
 (hf:∀x∈l,FC f [.agg [.d (.str x.name),.d (.int .u64 x.cap.a),.d (.int .u64 x.cap.b),.d (.int .u64 x.cap.c),.d (.int .u64 x.cap.d),.d (.sl (x.labels.map dh.cells)),.d (.bool x.up)],.ptr 0 0] [.var [ST nm,aB a,aB b,aB c,aB d,SL lb,BL up]] (.ret (BL (p x))) [.var [ST nm,aB a,aB b,aB c,aB d,SL lb,BL up]]) {r:Int} (hr:r=idxOf p l):FC 112 [SL es,.fn f [.ptr 0 0]] [.var [ST nm,aB a,aB b,aB c,aB d,SL lb,BL up]] (.ret (bF r)) [.var [ST nm,aB a,aB b,aB c,aB d,SL lb,BL up]]:=by
 have hel:es.length=l.length:=by rw [aD,lgM]
 refine kM ht (bC:=[.var [ST nm,aB a,aB b,aB c,aB d,SL lb,BL up]]) Tryz.func112 rfl rfl (N:=19) rfl rfl (n:=1) rfl rfl ?_
 cbv
 refine bE ⟨[0,1,7,8],[],[]⟩ (σ:=Nat) (fun k=>[(8,bF (t _ fun _=>(k:Int)))]) (fun _=>[]) (vL p l) ?_
 cbv
 refine aF ⟨l.length,0,.nil,by simp only [ht];rfl,fun n k hj=>?_⟩
 cbv
 apply ap<;>intro h
 ·simp only [ht,ah,decide_eq_true_eq] at h
  have hk:k<es.length:=by omega
  obtain ⟨x,hx,pK,px,hpx⟩:=hj.get (by omega)
  have iw:=hf x pK
  rw [←hpx] at iw
  obtain ⟨W4,⟨a',b',c',d'⟩,lb',up'⟩:=x;obtain ⟨Ht,mG⟩:∃lr:List (List D),lr=lb'.map dh.cells:=⟨_,rfl⟩;simp only [←mG] at iw
  cbv
  refine iW [.str W4,.int .u64 a',.int .u64 b',.int .u64 c',.int .u64 d',.sl Ht,.bool up'] ?_ ?_ ?_
  ·simp only [ht,ah];exact sB aD hk fun _=>rfl
  ·simp [ht,ah,aD,hx,mG]
  cbv
  refine eE trv iw ?_
  cbv
  apply ap<;>intro hb
  ·cbv
   refine an ?_
   simp only [ht,ah,hr,hj.hit hx (hpx▸hb)]
  cbv
  refine aF ⟨n-1,k+1,⟨hj.lt hx,hj.next hx (hpx▸hb)⟩,?_⟩
  simp only [ht,ah,aE (show k<9223372036854775807 by omega)];rfl
 simp only [ht,ah,decide_eq_false_iff_not] at h
 have hk:l.length≤k:=by omega
 clear h
 cbv
 refine an ?_
 rw [hr,hj.none hk]
theorem sO (ht:TT t) {l:List Node} {x:Node} {k:Nat} {i:Int} {lr:List (List D)} (hi:i=k) (hk:k≤l.length) (hl:l.length<1000000) (hlr:lr=x.labels.map dh.cells):
 FC 146 [.ow 0 7 (t _ fun _=>(l.map Node.cells).length),bF i,.cl [[.str x.name,.int .u64 x.cap.a,.int .u64 x.cap.b,.int .u64 x.cap.c,.int .u64 x.cap.d,.sl lr,.bool x.up]]] [.row 7 (t _ fun _=>l.map Node.cells)] (.ret (SL (t _ fun _=>(l.take k++x::l.drop k).map Node.cells))) [.dead]:=by
 simp only [ht];subst hi hlr
 refine oT (args':=[.ow 0 7 (l.map Node.cells).length,bF k,SL [Node.cells x]]) ?_ (EG ht (by simp) (by simpa using hk) ?_ rfl (by simpa using hl) (by simp))
 ·intro β w ok vs h
  simp only [ak] at h ⊢
  obtain ⟨u1,Y8,rfl,h1,u2,OI,rfl,h2,u3,VQ,rfl,h3,h4⟩:=h
  exact ⟨u1,_,rfl,h1,u2,_,rfl,h2,u3,VQ,rfl,LA h3,h4⟩
 intro r hr;obtain ⟨y,_,rfl⟩:=List.mem_map.1 hr;rfl
theorem JT (ht:TT t) {l:List Node} {ps:List Place} {es qs:List (List D)} (aD:es=l.map Node.cells) (dZ:qs=ps.map Place.cells) (nm:aI) (a b c d:Int) {lb:List dh} {lr:List (List D)} (hlr:lr=lb.map dh.cells) (up:Bool) (hl:l.length<1000000000) (hn:nm.length<9223372036854775807) (hlb:lb.length<1000000000) (uo:∀p∈lb,p.sm):
 FC 93 [.agg [SL es,SL qs],.agg [ST nm,aB a,aB b,aB c,aB d,SL lr,BL up]] [] (.ret (Ek t (t _ fun _=>qz ⟨l,ps⟩ ⟨nm,⟨a,b,c,d⟩,lb,up⟩))) []:=by
 refine cL ht Tryz.func93 (N:=51) ?_
 cbv
 have aQ:es.length=l.length:=by rw [aD,lgM]
 have cW:qs.length=ps.length:=by rw [dZ,lgM]
 have VR:lr.length=lb.length:=by rw [hlr,lgM]
 refine aP (rW ht _ ‹_›) trv (fun r0 c8=>?_)
 simp only [ht] at c8
 cbv
 apply ap<;>intro h1
 ·simp [ht] at h1
  cbv
  refine an ?_
  (simp only [ht,qz];grind)
 simp [ht] at h1
 cbv
 refine aP (M3 ht ‹_› ‹_› ‹_›) trv (fun r2 ix=>?_)
 simp only [ht] at ix
 cbv
 apply ap<;>intro h3
 ·simp [ht] at h3
  cbv
  refine an ?_
  (simp only [ht,qz];grind)
 simp [ht] at h3
 cbv
 refine aP (Hs ht _ ‹_› (by omega)) trv (fun r4 kW=>?_)
 simp only [ht] at kW
 cbv
 apply ap<;>intro h5
 ·simp [ht] at h5
  cbv
  refine an ?_
  (simp only [ht,qz];grind)
 simp [ht] at h5
 cbv
 apply ap<;>intro h6
 ·simp [ht,ah,aQ] at h6
  cbv
  refine an ?_
  (simp only [ht,qz];grind)
 simp [ht,ah,aQ] at h6
 cbv
 (obtain ⟨r9,jP⟩:∃r,r=idxOf (fun o:Node=>!Op.bytesLess o.name nm) l:=⟨_,rfl⟩;refine dG [1] trv rfl rfl (JS ht nm a b c d lr true aD 145 (fun o:Node=>!Op.bytesLess o.name nm) (by omega) (fun x _=>VP ht nm a b c d true x.name x.cap.a x.cap.b x.cap.c x.cap.d x.up rfl) jP) (cD ?_);have ec:=cC jP;clear jP;rcases ec with ⟨e1,e2,e3⟩|⟨i,x,hi,hil,e1,e2,e3,e4⟩)
 ·cbv
  apply ap<;>intro h7
  ·simp [ht] at h7
   cbv
   refine cE [false,false,false,false,false,false,true,true,true] ?_
   cbv
   iterate 2 refine gI (by simp) ?_
   refine .inr (GM trv (o8 ht ‹_› ‹_›) trv rfl (.inr rfl) rfl ?_)
   cbv
   iterate 3 refine gI (by simp) ?_
   refine dG [3] trv rfl rfl (sO ht (l:=l) (x:=⟨nm,⟨a,b,c,d⟩,lb,true⟩) (k:=pat l nm) (by (simp [ht,pat,e2,aQ];done)) (by (simp [pat,e2];done)) (by simp only [ah] at*;omega) hlr) (cD ?_)
   cbv
   refine an ?_
   (simp only [ht,qz];grind)
  simp [ht] at h7
  omega
 cbv
 apply ap<;>intro h8
 ·simp [ht] at h8
  (simp only [ah] at*;omega)
 simp [ht] at h8
 cbv
 refine cE [false,false,false,false,false,false,true,true,true] ?_
 cbv
 iterate 2 refine gI (by simp) ?_
 refine .inr (GM trv (o8 ht ‹_› ‹_›) trv rfl (.inr rfl) rfl ?_)
 cbv
 iterate 3 refine gI (by simp) ?_
 refine dG [3] trv rfl rfl (sO ht (l:=l) (x:=⟨nm,⟨a,b,c,d⟩,lb,true⟩) (k:=pat l nm) (by (simp only [pat,e3];exact hi)) (by (simp only [pat,e3];omega)) (by simp only [ah] at*;omega) hlr) (cD ?_)
 cbv
 refine an ?_
 (simp only [ht,qz];grind)
def Qk (t:Th) (x:Cf):AV:=.agg [aB x.first,SL (t _ fun _=>x.l.map dU.cells)]
theorem Bb (ht:TT t) {es:List (List D)} (hr:∀r∈es,r.length=3):FC 164 [SL es] [] (.ret (.cl es)) []:=by
 refine cL ht Tryz.func164 (N:=9) ?_
 cbv
 refine ⟨?_,Jn trv rfl ?_⟩
 ·simp only [ht,ah,bO];exact ⟨⟨⟨by omega,Int.le_refl _⟩,trv⟩,hr⟩
 simp [ht,ah,iF]
theorem Ta (ht:TT t) (first rd id kd:Int):
 FC 110 [.agg [aB first,SL []],.agg [aB rd,aB id,bF kd]] [] (.ret (Qk t (t _ fun _=>tell ⟨first,[]⟩ ⟨rd,id,kd⟩))) []:=by
 refine cL ht Tryz.func110 (N:=25) ?_
 cbv
 refine cE [false,false,false,false,false,true,true,true] ?_
 cbv
 iterate 2 refine gI (by simp) ?_
 refine .inl ?_
 (refine nE (fun g=>⟨trv,trv,Bb ht (by simp)⟩) rfl rfl rfl ?_)
 cbv
 iterate 2 refine gI (by simp) ?_
 refine ⟨?_,?_⟩
 ·(simp [ht];done)
 refine ⟨?_,?_⟩
 ·(simp [ht];done)
 cbv
 apply ap<;>intro h0
 ·simp [ht] at h0
 simp [ht] at h0
 cbv
 refine iq trv (by simp [ht]) rfl rfl rfl ?_
 (simp [ht,tell,dU.cells];done)
theorem Tb (ht:TT t) (first rd id kd:Int) (e0:List D) (er:List (List D)) {l:List dU} (aD:e0::er=l.map dU.cells) (hl:l.length<1000000):
 FC 110 [.agg [aB first,SL (e0::er)],.agg [aB rd,aB id,bF kd]] [] (.ret (Qk t (t _ fun _=>tell ⟨first,l⟩ ⟨rd,id,kd⟩))) []:=by
 have hr:∀r∈e0::er,r.length=3:=by rw [aD];intro r hr;obtain ⟨y,_,rfl⟩:=List.mem_map.1 hr;rfl
 have hle:(e0::er).length=l.length:=by rw [aD,lgM]
 refine cL ht Tryz.func110 (N:=25) ?_
 cbv
 refine cE [false,false,false,false,false,true,true,true] ?_
 cbv
 iterate 2 refine gI (by simp) ?_
 refine .inl ?_
 (refine nE (fun g=>⟨trv,trv,Bb ht hr⟩) rfl rfl rfl ?_)
 cbv
 iterate 2 refine gI (by simp) ?_
 refine ⟨?_,?_⟩
 ·(simp only [ht];grind)
 refine ⟨?_,?_⟩
 ·(simp [ht];done)
 cbv
 apply ap<;>intro h0
 ·simp [ht,ah] at h0
  cbv
  refine ⟨?_,?_⟩
  ·(simp only [ht,bO];refine ⟨by simp,⟨by omega,by simp;omega⟩,?_⟩;intro r h;rcases List.mem_append.1 h with h|h;exact hr r h;simp at h;subst h;rfl)
  cbv
  refine an ?_
  (simp only [ah] at h0;simp only [List.length_cons] at hle;have tl:tell ⟨first,l⟩ ⟨rd,id,kd⟩=⟨u64 (first+1),(l++[(⟨rd,id,kd⟩:dU)]).drop 1⟩:=(by unfold tell;rw [if_pos (by simp only [List.length_append,List.length_cons,List.length_nil];omega)]);simp only [ht,tl,aD,iF,u64,oU];rw [List.map_drop,List.map_append];rfl)
 simp [ht,ah] at h0
 cbv
 refine iq trv (by simp [ht]) rfl rfl rfl ?_
 (simp only [ah] at h0;simp only [List.length_cons] at hle;have tl:tell ⟨first,l⟩ ⟨rd,id,kd⟩=⟨first,l++[(⟨rd,id,kd⟩:dU)]⟩:=(by unfold tell;rw [if_neg (by simp only [List.length_append,List.length_cons,List.length_nil];omega)]);simp only [ht,tl,aD];rw [List.map_append];rfl)
theorem Tc (ht:TT t) (first rd id kd:Int) {l:List dU} {es:List (List D)} (aD:es=l.map dU.cells) (hl:l.length<1000000):
 FC 110 [.agg [aB first,SL es],.agg [aB rd,aB id,bF kd]] [] (.ret (Qk t (t _ fun _=>tell ⟨first,l⟩ ⟨rd,id,kd⟩))) []:=by
 cases l with
 |nil=>subst aD;exact Ta ht first rd id kd
 |cons x l=>subst aD;exact Tb ht first rd id kd _ _ rfl hl
theorem Hu {l:List aI} {k:Nat} {x:aI}:Jr (prevStr l k) x=(decide (k=0)||match l[k-1]? with|none=>true|some y=>!sle x y):=by
 cases k with
 |zero=>rfl
 |succ k=>simp only [prevStr,Jr];cases h:l[k]?<;>simp [h]
theorem M5 (ht:TT t) (k:aI) (n:Bool) {vs:List aI} {vr:List (List D)} (Hv:vr=vs.map bf) (hk:k.length<9223372036854775807) (hl:vs.length<1000000000) (hs:∀v∈vs,v.length<9223372036854775807):
 FC 208 [.agg [ST k,BL n,SL vr]] [] (.ret (dH (t _ fun _=>mright ⟨k,n,vs⟩))) []:=by
 refine cL ht Tryz.func208 (N:=40) ?_
 cbv
 have xe:vr.length=vs.length:=by rw [Hv,lgM]
 obtain ⟨J0,fK⟩:∃J0:Nat→Int→Prop,∀n i,J0 n i↔(∃q:Nat,i=q∧q+n=vs.length∧yf none vs=yf (prevStr vs q) (vs.drop q)):=⟨fun n v=>match v with|i=>(∃q:Nat,i=q∧q+n=vs.length∧yf none vs=yf (prevStr vs q) (vs.drop q)),fun _ _=>Iff.rfl⟩
 refine bE ⟨[1,6,7,8],[],[]⟩ (σ:=Int) (fun v=>[(8,.d (.int .i64 (t _ fun _=>v)))]) (fun v=>[]) J0 ?_
 cbv
 refine aF ⟨vs.length,_,(fK _ _).2 ?_,by simp only [ht];rfl,?_⟩
 ·exact ⟨0,rfl,by simp,by simp [prevStr]⟩
 rintro n i hj
 replace hj:=(fK _ _).1 hj
 obtain ⟨k,rfl,j1,j4⟩:=hj
 cbv
 apply ap<;>intro h1
 ·simp [ht,ah,xe] at h1
  cbv
  refine kL ht Hv (cT:=eL t) (by (simp only [ht,ah];omega)) (by (simp only [ht,ah];omega)) (fun _=>rfl) (fun _=>rfl) (fun x2 oc=>?_)
  simp [ht,ah] at oc
  simp only [gW oc,yf] at j4
  have sx2:=hs _ (List.mem_of_getElem? oc)
  cbv
  refine aP (rW ht _ ‹_›) trv (fun r3 lm=>?_)
  simp only [ht] at lm
  cbv
  iterate 8 refine gI (by simp [ht]) ?_
  (refine Ya ht Hv (cT:=eL t) (k-1) (fun g=>by simp [ht,ah] at g ⊢;simp [g]) (fun g=>by simp [ht,ah] at g;simp only [ht,ah];exact ⟨El (by omega) (by omega),by omega⟩) (fun _=>rfl) (fun _=>by simp only [eL]) (fun y my=>?_);simp [ht,ah] at my)
  cbv
  iterate 2 refine gI (by simp [ht]) ?_
  refine gI (by simp [ht,aJ];intros;simp_all) ?_
  refine pI (by simp [ht]) ?_
  apply ap<;>intro h4
  ·simp [ht,ah] at h4
   cbv
   refine an ?_
   (simp only [ht];rw [Hu] at j4;grind [mright,sle])
  simp [ht,ah] at h4
  cbv
  refine cr _ (by simp only [ht];rfl) (n-1) ?_ ((fK _ _).2 ?_)
  ·omega
  simp only [ah]
  refine ⟨k+1,aE (by omega),by omega,?_⟩
  (rw [Hu] at j4;simp only [prevStr];rw [oc];grind [sle])
 simp [ht,ah,xe] at h1
 cbv
 refine aP (rW ht _ ‹_›) trv (fun r5 zo=>?_)
 simp only [ht] at zo
 cbv
 iterate 4 refine gI (by simp) ?_
 refine pI (by simp) ?_
 refine an ?_
 (rw [List.drop_eq_nil_of_le (by omega),yf] at j4;have e:decide ((vs.length:Int)≤4)=decide (vs.length≤4):=(by rw [decide_eq_decide];omega);simp [ht,ah,mright,j4,zo,xe,e];done)
theorem M6 (ht:TT t) {l:List (Term)} {es:List (List D)} (aD:es=l.map Term.cells) (f:Nat) (p:Term→Bool) (hl:l.length<9223372036854775807)
 (hf:∀x∈l,FC f [.agg [ST x.key,BL x.no,SL (x.mR.map bf)]] [] (.ret (BL (p x))) []) {r:Int} (hr:r=idxOf p l):FC 114 [SL es,.fn f []] [] (.ret (bF r)) []:=by
 have hel:es.length=l.length:=by rw [aD,lgM]
 refine cL ht Tryz.func114 (N:=19) ?_
 cbv
 refine bE ⟨[0,1,7,8],[],[]⟩ (σ:=Nat) (fun k=>[(8,bF (t _ fun _=>(k:Int)))]) (fun _=>[]) (vL p l) ?_
 cbv
 refine aF ⟨l.length,0,.nil,by simp only [ht];rfl,fun n k hj=>?_⟩
 cbv
 apply ap<;>intro h
 ·simp only [ht,ah,decide_eq_true_eq] at h
  have hk:k<es.length:=by omega
  obtain ⟨x,hx,pK,px,hpx⟩:=hj.get (by omega)
  have iw:=hf x pK
  rw [←hpx] at iw
  obtain ⟨a,b,c⟩:=x;obtain ⟨Ht,mG⟩:∃lr:List (List D),lr=c.map bf:=⟨_,rfl⟩;simp only [←mG] at iw
  cbv
  refine iW [.str a,.bool b,.sl Ht] ?_ ?_ ?_
  ·simp only [ht,ah];exact sB aD hk fun _=>rfl
  ·simp [ht,ah,aD,hx,mG,Term.cells]
  cbv
  refine eE trv iw ?_
  cbv
  apply ap<;>intro hb
  ·cbv
   refine an ?_
   simp only [ht,ah,hr,hj.hit hx (hpx▸hb)]
  cbv
  refine aF ⟨n-1,k+1,⟨hj.lt hx,hj.next hx (hpx▸hb)⟩,?_⟩
  simp only [ht,ah,aE (show k<9223372036854775807 by omega)];rfl
 simp only [ht,ah,decide_eq_false_iff_not] at h
 have hk:l.length≤k:=by omega
 clear h
 cbv
 refine an ?_
 rw [hr,hj.none hk]
theorem M7 (ht:TT t) {l:List (Term)} {es:List (List D)} (aD:es=l.map Term.cells) (f:Nat) (p:Term→Bool) (hl:l.length<9223372036854775807)
 (hf:∀x∈l,FC f [.agg [ST x.key,BL x.no,SL (x.mR.map bf)]] [] (.ret (BL (p x))) []) {r:Bool} (hr:r=l.any p):FC 74 [SL es,.fn f []] [] (.ret (BL r)) []:=by
 obtain ⟨k,hk⟩:∃k,k=idxOf p l:=⟨_,rfl⟩
 refine cL ht Tryz.func74 (N:=9) ?_
 cbv
 refine eE trv (M6 ht aD f p hl hf hk) ?_
 cbv
 refine an ?_
 simp only [ht,hr,iR,hk]
theorem JU (ht:TT t) (k:aI) (n:Bool) {vs:List aI} {vr:List (List D)} (Hv:vr=vs.map bf) (hk:k.length<9223372036854775807) (hl:vs.length<1000000000) (hs:∀v∈vs,v.length<9223372036854775807):
 FC 207 [.agg [ST k,BL n,SL vr]] [] (.ret (dH (t _ fun _=>!mright ⟨k,n,vs⟩))) []:=by
 refine cL ht Tryz.func207 (N:=6) ?_
 cbv
 have xe:vr.length=vs.length:=by rw [Hv,lgM]
 refine aP (M5 ht _ _ ‹_› ‹_› ‹_› ‹_›) trv (fun r0 c8=>?_)
 simp only [ht] at c8
 cbv
 refine an ?_
 (simp [*];done)
theorem Hw (ht:TT t) {l:List Term} {es:List (List D)} (aD:es=l.map Term.cells) (hl:l.length<1000000000) (uo:∀x∈l,x.sm):
 FC 74 [SL es,.fn 207 []] [] (.ret (dH (t _ fun _=>l.any fun x=>!mright x))) []:=by
 simp only [ht];exact M7 ht aD _ _ (by omega) (fun x hx=>by have h:=JU ht x.key x.no (vs:=x.mR) rfl (uo x hx).1 (uo x hx).2.1 (uo x hx).2.2;simp only [ht,dH] at h;exact h) rfl
theorem M8 (ht:TT t) {l:List Term} {es:List (List D)} (aD:es=l.map Term.cells) (hl:l.length<1000000000) (uo:∀x∈l,x.sm):
 FC 177 [SL es] [] (.ret (dH (t _ fun _=>AL l))) []:=by
 refine cL ht Tryz.func177 (N:=11) ?_
 cbv
 have aQ:es.length=l.length:=by rw [aD,lgM]
 refine gI (by simp [ht]) ?_
 refine eR (fun g0=>⟨by simp [ht] at g0 ⊢;exact g0,trv,Hw ht ‹_› ‹_› ‹_›⟩) rfl rfl (fun r1 cR=>?_)
 simp only [ht] at cR
 cbv
 refine gI (by simp [ht]) ?_
 refine pI (by simp [ht]) ?_
 refine an ?_
 (simp only [ht,ah,AL];grind)
theorem Hy (ht:TT t) (s:aI) {z:Int} (hz:z=47):FC 262 [ST s,.d (.int .u8 z)] [] (.ret (kS (t _ fun _=>(s.count 47:Nat)))) []:=by
 subst hz
 refine Y9 Tryz.func262 (by kernel_rfl) (by kernel_rfl) (by kernel_rfl) (e:=Extern.BytealgCount.count) (by kernel_rfl) ?_
 intro β w vs ok h
 simp only [ak,aj,aL] at h
 obtain ⟨_,_,rfl,rfl,_,_,rfl,rfl,rfl⟩:=h
 refine ⟨_,Lib.run_countString _ _ _,?_⟩
 simp [kS,aj,aL,Lib.countByte,ht]
theorem yU (ht:TT t) (s:aI) {z:Int} (hz:z=47):FC 269 [ST s,.d (.int .u8 z)] [] (.ret (kS (t _ fun _=>Lib.indexByte s 47))) []:=by
 subst hz
 refine Y9 Tryz.func269 (by kernel_rfl) (by kernel_rfl) (by kernel_rfl) (e:=Extern.BytealgIndexByte.indexByte) (by kernel_rfl) ?_
 intro β w vs ok h
 simp only [ak,aj,aL] at h
 obtain ⟨_,_,rfl,rfl,_,_,rfl,rfl,rfl⟩:=h
 refine ⟨_,Lib.run_indexByteString _ _ _,?_⟩
 simp [kS,aj,aL,ht]
theorem Ql (ht:TT t) (s:aI):FC 256 [ST s,ST [47]] [] (.ret (kS (t _ fun _=>(s.count 47:Nat)))) []:=by
 refine cL ht Tryz.func256 (N:=34) ?_
 cbv
 apply ap<;>intro h0
 ·simp [ht] at h0
 simp [ht] at h0
 cbv
 apply ap<;>intro h1
 ·simp [ht] at h1
  cbv
  refine ⟨?_,?_⟩
  ·(simp [ht];done)
  cbv
  refine aP (Hy ht _ (kK ht rfl)) trv (fun r2 ix=>?_)
  simp only [ht] at ix
  cbv
  refine an ?_
  (simp [*];done)
 simp [ht] at h1
theorem EK (ht:TT t) (s:aI) {z:Int} (hz:z=47):FC 265 [ST s,.d (.int .u8 z)] [] (.ret (kS (t _ fun _=>Lib.indexByte s 47))) []:=by
 refine cL ht Tryz.func265 (N:=8) ?_
 cbv
 refine aP (yU ht _ ‹_›) trv (fun r0 c8=>?_)
 simp only [ht] at c8
 cbv
 refine an ?_
 (simp [*];done)
theorem JV (ht:TT t) (s:aI):FC 263 [ST s,ST [47]] [] (.ret (kS (t _ fun _=>Lib.indexByte s 47))) []:=by
 refine cL ht Tryz.func263 (N:=143) ?_
 cbv
 iterate 3 refine gI (by simp [ht]) ?_
 refine pI (by simp [ht]) ?_
 apply ap<;>intro h0
 ·simp [ht] at h0
  cbv
  refine an ?_
  (subst h0;(try simp only [ht]);rfl)
 simp [ht] at h0
 cbv
 apply ap<;>intro h1
 ·simp [ht] at h1
  cbv
  refine ⟨?_,?_⟩
  ·(simp [ht];done)
  cbv
  refine aP (EK ht _ (kK ht rfl)) trv (fun r2 ix=>?_)
  simp only [ht] at ix
  cbv
  refine an ?_
  (simp [*];done)
 simp [ht] at h1
theorem Qm (ht:TT t) (s:aI):FC 257 [ST s,ST [47]] [] (.ret (kS (t _ fun _=>Lib.indexByte s 47))) []:=by
 refine cL ht Tryz.func257 (N:=8) ?_
 cbv
 refine aP (JV ht _) trv (fun r0 c8=>?_)
 simp only [ht] at c8
 cbv
 refine an ?_
 (simp [*];done)
theorem VS {pre:List aI} {m k:Nat} {x:aI} {u:List (List D)} (h:pre.length=k) (hk:k≤m) (hu:u=(pre++List.replicate (m+1-k) []).map bf):
 u.set k (be (u.getD k []) 0 [D.str x])=((pre++[x])++List.replicate (m-k) []).map bf:=by
 obtain ⟨d,rfl⟩:∃d,m=k+d:=⟨m-k,by omega⟩
 have e:k+d+1-k=d+1:=by omega
 rw [hu,e,Nat.add_sub_cancel_left,List.replicate_succ]
 simp [be,←h,bf]
theorem Qn {pre:List aI} {m k:Nat} {x:aI} {V:List (List D)} (hV:V=((pre++[x])++List.replicate (m-k) []).map bf) (h:pre.length=k) (hk:k≤m) (hm:m<1000000000001):
 m+1=V.length∧(bO V.length none (some (IntKind.i64.wrap ((k:Int)+1)))∧∀r∈V,r.length=1)∧iF V none (some (IntKind.i64.wrap ((k:Int)+1)))=(pre++[x]).map bf:=by
 have e:IntKind.i64.wrap ((k:Int)+1)=((k+1:Nat):Int):=by rw [wrap64 (by omega) (by omega)];omega
 have hl:V.length=m+1:=by rw [hV];simp [h];omega
 refine ⟨hl.symm,⟨?_,?_⟩,?_⟩
 ·rw [e,hl];simp only [bO];omega
 ·intro r hr;rw [hV] at hr;obtain ⟨y,_,rfl⟩:=List.mem_map.1 hr;rfl
 rw [e,hV];simp only [iF,Int.toNat_natCast];rw [List.map_append,List.take_append_of_le_length (by simp [h]),List.take_of_length_le (by simp [h])]
theorem Hz (ht:TT t) (s:aI) (hs:s.length<1000000000000):FC 246 [ST s,ST [47],bF 0,bF (-1)] [] (.ret (AK t (t _ fun _=>bR 47 s))) []:=by
 obtain ⟨m,hm⟩:∃m,m=s.count 47:=⟨_,rfl⟩
 have hms:m≤s.length:=by rw [hm];exact List.count_le_length
 have hmin:∀r:Int,r=(m:Nat)→min (IntKind.i64.wrap (r+1)) (IntKind.i64.wrap ((s.length:Int)+1))=((m+1:Nat):Int):=fun r hr=>by rw [hr,wrap64 (by omega) (by omega),wrap64 (by omega) (by omega)];omega
 have hmv:IntKind.i64.wrap (m:Int)=(m:Int):=wrap64 (by omega) (by omega)
 have hmw:IntKind.i64.wrap (((m+1:Nat):Int)-1)=(m:Int):=by rw [wrap64 (by omega) (by omega)];omega
 refine cL ht Tryz.func246 (N:=66) ?_
 cbv
 apply ap<;>intro h0
 ·simp [ht] at h0
 simp [ht] at h0
 cbv
 apply ap<;>intro h1
 ·simp [ht] at h1
 simp [ht] at h1
 cbv
 apply ap<;>intro h2
 ·simp [ht] at h2
  cbv
  refine aP (Ql ht _) trv (fun r3 lm=>?_)
  simp only [ht] at lm
  (rw [←hm] at lm;replace hmin:=hmin _ lm)
  cbv
  refine ⟨?_,?_⟩
  ·(simp only [ht,ah];grind)
  cbv
  obtain ⟨J4,Oj⟩:∃J4:Nat→List UInt8×Int×List (List D)→Prop,∀n s2 i u,J4 n (s2,i,u)↔(∃(k:Nat) (pre:List aI),i=k∧pre.length=k∧bR 47 s=pre++bR 47 s2∧k+s2.count 47=m∧k+n=m∧u=(pre++List.replicate (m+1-k) []).map bf∧s2.length≤s.length):=⟨fun n v=>match v with|(s2,i,u)=>(∃(k:Nat) (pre:List aI),i=k∧pre.length=k∧bR 47 s=pre++bR 47 s2∧k+s2.count 47=m∧k+n=m∧u=(pre++List.replicate (m+1-k) []).map bf∧s2.length≤s.length),fun _ _ _ _=>Iff.rfl⟩
  refine bE ⟨[0,1,2,3,9,10],[],[]⟩ (σ:=List UInt8×Int×List (List D)) (fun v=>[(0,.d (.str (t _ fun _=>v.1))),(10,.d (.int .i64 (t _ fun _=>v.2.1)))]) (fun v=>[(0,.row 1 (t _ fun _=>v.2.2))]) J4 ?_
  cbv
  refine aF ⟨m,(_,_,_),(Oj _ _ _ _).2 ?_,by simp only [ht];rfl,?_⟩
  ·exact ⟨0,[],rfl,rfl,rfl,by omega,by omega,by simp only [hmin];simp,by omega⟩
  rintro n ⟨s2,i,u⟩ hj
  replace hj:=(Oj _ _ _ _).1 hj
  obtain ⟨k,pre,rfl,j1,j2,j3,j4,j5,j6⟩:=hj
  have Qo:=fun x=>VS (x:=x) j1 (show k≤m by omega) j5
  cbv
  apply ap<;>intro h5
  ·simp [ht,ah,hmin,hmv] at h5
   cbv
   refine aP (Qm ht _) trv (fun r6 ou=>?_)
   simp only [ht] at ou
   cbv
   apply ap<;>intro h7
   ·simp [ht] at h7
    cbv
    refine ⟨?_,?_⟩
    ·(exfalso;have q:=En ou h7;omega)
    refine ⟨?_,?_⟩
    ·(exfalso;have q:=En ou h7;omega)
    refine ⟨?_,?_⟩
    ·(exfalso;have q:=En ou h7;omega)
    cbv
    refine an ?_
    (exfalso;have q:=En ou h7;omega)
   simp [ht] at h7
   cbv
   refine ⟨?_,?_⟩
   ·(obtain ⟨j,e1,e2,e3,e4⟩:=Eo ou h7;simp only [ht,e1];simp [bO];rw [wrap64 (by omega) (by omega)];omega)
   refine ⟨?_,?_⟩
   ·(simp only [ht,ah] at*;omega)
   refine ⟨?_,?_⟩
   ·(simp only [ht,ah];grind)
   refine ⟨?_,?_⟩
   ·(obtain ⟨j,e1,e2,e3,e4⟩:=Eo ou h7;simp only [ht,e1];simp [bO];rw [wrap64 (by omega) (by omega)];omega)
   cbv
   refine cr (_,_,_) (by simp only [ht];rfl) (n-1) ?_ ((Oj _ _ _ _).2 ?_)
   ·omega
   simp only [ah]
   (obtain ⟨j,e1,e2,e3,e4⟩:=Eo ou h7;subst e1;have ew:IntKind.i64.wrap ((j:Int)+([47]:aI).length)=((j+1:Nat):Int):=(by simp;rw [wrap64 (by omega) (by omega)]);have ez:IntKind.i64.wrap ((j:Int)+0)=(j:Nat):=(by rw [wrap64 (by omega) (by omega)];omega);rw [ew,ez];simp only [iF,Int.toNat_natCast];exact ⟨k+1,pre++[s2.take j],aE (by omega),by simp [j1],by rw [j2,e3];simp,by omega,by omega,by rw [Qo];simp,by simp;omega⟩)
  simp [ht,ah,hmin,hmv] at h5
  cbv
  refine ⟨?_,?_⟩
  ·(simp only [ht,ah] at*;omega)
  refine ⟨?_,?_⟩
  ·(simp only [ht,ah];grind)
  refine ⟨?_,?_⟩
  ·(have q:=Qn (Qo s2) j1 (by omega) (by omega);simp only [ht,Int.toNat_natCast,hmin];exact ⟨q.1,q.2.1⟩)
  cbv
  refine an ?_
  (have q:=Qn (Qo s2) j1 (by omega) (by omega);simp only [ht,Int.toNat_natCast];rw [q.2.2,j2,AN (by omega)])
 simp [ht] at h2
theorem Qp (ht:TT t) (s:aI) (hs:s.length<1000000000000):FC 226 [ST s,ST [47]] [] (.ret (AK t (t _ fun _=>bR 47 s))) []:=by
 refine cL ht Tryz.func226 (N:=8) ?_
 cbv
 refine aC (Hz ht _ ‹_›) trv (fun r0 c8=>?_)
 simp only [ht] at c8
 cbv
 refine an ?_
 (simp [*];done)
end Dem
end
section
namespace Go.Proofs
open Go.Shelf
def Tryz.yz:Go.Shelf.Ren:=⟨fun|156=>210|165=>228|166=>229|169=>230|240=>247|241=>248|276=>258|277=>259|n=>n,fun|31=>51|9=>9|3=>3|4=>4|0=>0|20=>20|72=>277|76=>281|70=>274|37=>275|75=>280|127=>299|164=>309|5=>5|80=>283|n=>n,fun|n=>n⟩
theorem Tryz.LR:Go.Proofs.Lays.n156 Tryz.prog Tryz.yz:={
 mixed:=by kernel_rfl
 f156:=Tryz.func210.trans (congrArg some (by kernel_rfl))
 f165:=Tryz.func228.trans (congrArg some (by kernel_rfl))
 f166:=Tryz.func229.trans (congrArg some (by kernel_rfl))
 f169:=Tryz.func230.trans (congrArg some (by kernel_rfl))
 f240:=Tryz.func247.trans (congrArg some (by kernel_rfl))
 f241:=Tryz.func248.trans (congrArg some (by kernel_rfl))
 f276:=Tryz.func258.trans (congrArg some (by kernel_rfl))
 f277:=Tryz.func259.trans (congrArg some (by kernel_rfl))
 t0:=Tryz.underlying0
 a0:=Tryz.isAgg0
 z0:=Tryz.sizeOf0
 v0:=Tryz.zeroValue0
 t3:=Tryz.underlying3
 a3:=Tryz.isAgg3
 z3:=Tryz.sizeOf3
 v3:=Tryz.zeroValue3
 t4:=Tryz.underlying4
 a4:=Tryz.isAgg4
 z4:=Tryz.sizeOf4
 v4:=Tryz.zeroValue4
 t9:=Tryz.underlying9
 a9:=Tryz.isAgg9
 z9:=Tryz.sizeOf9
 v9:=Tryz.zeroValue9
 t20:=Tryz.underlying20
 a20:=Tryz.isAgg20
 z20:=Tryz.sizeOf20
 v20:=Tryz.zeroValue20
 t31:=Tryz.underlying51
 a31:=Tryz.isAgg51
 z31:=Tryz.sizeOf51
 v31:=Tryz.zeroValue51
 t37:=Tryz.underlying275
 a37:=Tryz.isAgg275
 z37:=Tryz.sizeOf275
 v37:=Tryz.zeroValue275
 t70:=Tryz.underlying274
 a70:=Tryz.isAgg274
 z70:=Tryz.sizeOf274
 v70:=Tryz.zeroValue274
 t72:=Tryz.underlying277
 a72:=Tryz.isAgg277
 z72:=Tryz.sizeOf277
 v72:=Tryz.zeroValue277
 t75:=Tryz.underlying280
 a75:=Tryz.isAgg280
 z75:=Tryz.sizeOf280
 v75:=Tryz.zeroValue280
 t76:=Tryz.underlying281
 a76:=Tryz.isAgg281
 z76:=Tryz.sizeOf281
 v76:=Tryz.zeroValue281
 t127:=Tryz.underlying299
 a127:=Tryz.isAgg299
 z127:=Tryz.sizeOf299
 v127:=Tryz.zeroValue299
 t164:=Tryz.underlying309
 a164:=Tryz.isAgg309
 z164:=Tryz.sizeOf309
 v164:=Tryz.zeroValue309}
theorem Tryz.nt:Builder.Extra Tryz.prog Tryz.yz:={
 sizeBuilder:=by kernel_rfl
 liesBuilder:=by kernel_rfl
 t5:=Tryz.underlying5
 a5:=Tryz.isAgg5
 z5:=Tryz.sizeOf5
 v5:=Tryz.zeroValue5
 infoByte:=by kernel_rfl
 cellsByte:=by kernel_rfl
 sizeByte:=by kernel_rfl
 neB5:=by decide}
open Go.RowKit in
theorem Tryz.strings_Join_none (a:Option Addr) (c:Nat) (sep:ByteArray) (w:World):
 Calls Tryz.prog 210 #[.slice a 0 c,.string sep] w fun e w'=>e=.returned (.string ⟨#[]⟩)∧w'=w:=Any.strings_Join_none Tryz.LR Tryz.nt a c sep w
open Go.RowKit in
theorem Tryz.strings_Join (bk o c:Nat) (xs:List ByteArray) (sep:ByteArray) (w:World) (hcells:∀(j:Nat) x,xs[j]?=some x→w.cell? ⟨bk,o+j,none⟩=some (.string x)) (hbk:bk<w.heap.size) (hN:xs.length≤140737488355328) (hcap:xs.length≤c) (hlen:(Lib.join (xs.map (·.data.toList)) sep.data.toList).length≤140737488355328):
 Calls Tryz.prog 210 #[.slice (some ⟨bk,o,none⟩) xs.length c,.string sep] w fun e w'=>e=.returned (.string ⟨(Lib.join (xs.map (·.data.toList)) sep.data.toList).toArray⟩)∧Below w.heap.size w w':=Any.strings_Join Tryz.LR Tryz.nt bk o c xs sep w hcells hbk hN hcap hlen
end Go.Proofs
end
section
open Go Dem Go.Proofs
namespace Dem
variable {t:Th}
theorem Da {w:World} {ok:Nat→Prop} {blk sz:Nat}:∀{l:List aI} {off:Nat},ay w ok blk sz (l.map bf) off→∀(j:Nat) x,(l.map fun s=>(⟨s.toArray⟩:ByteArray))[j]?=some x→w.cell? ⟨blk,off+j,none⟩=some (.string x)
 |[],_,_,j,x,hx=>by simp at hx
 |s::l,off,h,j,x,hx=>by
  simp only [List.map_cons,ay,aX,aL,and_true] at h
  obtain ⟨rfl,⟨u,hu,rfl⟩,h3⟩:=h
  cases j with
  |zero=>simp at hx;subst hx;exact hu
  |succ j=>
   have:=Da h3 j x (by simpa using hx)
   rw [show off+(j+1)=off+[D.str s].length+j by simp;omega]
   exact this
theorem Db {β:Nat→Nat} {w w':World} (hb:RowKit.Below w.heap.size w w'):Ext β [] w β [] w':=
 ⟨hb.os,hb.tape,hb.output,hb.size,fun k hk _=>hb.block k hk,fun k c e f hk=>⟨c,by rw [hb.block k (Array.getElem?_eq_some_iff.1 hk).1];exact hk,rfl⟩,fun i h=>by obtain ⟨b,h1,_⟩:=h;simp at h1,fun i b h=>by simp at h⟩
theorem LS (ht:TT t) {l:List aI} {es:List (List D)} (aD:es=l.map bf) (hl:l.length<1000000000) (hlen:(fm l).length≤140737488355328):FC 210 [SL es,ST [47]] [] (.ret (SK (t _ fun _=>fm l))) []:=by
 simp only [ht]
 subst aD
 intro β w vs X cx hx
 simp only [ak,aj,aL] at hx
 obtain ⟨_,_,rfl,⟨base,cap,rfl,hcap,h1⟩,_,_,rfl,rfl,rfl⟩:=hx
 rcases h1 with h1|⟨blk,off,sz,rfl,hok,hrows⟩
 ·have hl0:l=[]:=by simpa using h1
  subst hl0
  refine .inl ⟨enters_of Tryz.func210 (by kernel_rfl) rfl _ _,(Tryz.strings_Join_none base cap ⟨#[47]⟩ w).mono ?_⟩
  rintro e w' ⟨rfl,rfl⟩
  exact ⟨β,Ext.refl _ _ _,cx,by simp [mh,SK,aj,aL,fm,Lib.join_nil]⟩
 have hx:((l.map fun s=>(⟨s.toArray⟩:ByteArray)).map (·.data.toList))=l:=by simp [Function.comp_def]
 have hn:(l.map fun s=>(⟨s.toArray⟩:ByteArray)).length=(l.map bf).length:=by simp
 have key:=Tryz.strings_Join blk off cap (l.map fun s=>(⟨s.toArray⟩:ByteArray)) ⟨#[47]⟩ w (Da hrows) hok.1 (by simp;omega) (by simpa using hcap) (by rw [hx];exact hlen)
 rw [hx,hn] at key
 refine .inl ⟨enters_of Tryz.func210 (by kernel_rfl) rfl _ _,key.mono ?_⟩
 rintro e w' ⟨rfl,hb⟩
 exact ⟨β,Db hb,cx.step (Db hb) (fun i b h=>by simp at h) (fun i j bi bj hi=>by simp at hi),by simp [mh,SK,aj,aL,fm]⟩
theorem Qq (ht:TT t) {l:List (aI)} {es:List (List D)} (aD:es=l.map bf) (f:Nat) (p:aI→Bool) (hl:l.length<9223372036854775807)
 (hf:∀x∈l,FC f [.d (.str x)] [] (.ret (BL (p x))) []) {r:Int} (hr:r=idxOf p l):FC 199 [SL es,.fn f []] [] (.ret (bF r)) []:=by
 have hel:es.length=l.length:=by rw [aD,lgM]
 refine cL ht Tryz.func199 (N:=19) ?_
 cbv
 refine bE ⟨[0,1,7,8],[],[]⟩ (σ:=Nat) (fun k=>[(8,bF (t _ fun _=>(k:Int)))]) (fun _=>[]) (vL p l) ?_
 cbv
 refine aF ⟨l.length,0,.nil,by simp only [ht];rfl,fun n k hj=>?_⟩
 cbv
 apply ap<;>intro h
 ·simp only [ht,ah,decide_eq_true_eq] at h
  have hk:k<es.length:=by omega
  obtain ⟨x,hx,pK,px,hpx⟩:=hj.get (by omega)
  have iw:=hf x pK
  rw [←hpx] at iw
  skip
  cbv
  refine iW [.str x] ?_ ?_ ?_
  ·simp only [ht,ah];exact sB aD hk fun _=>rfl
  ·simp [ht,ah,aD,hx]
  cbv
  refine eE trv iw ?_
  cbv
  apply ap<;>intro hb
  ·cbv
   refine an ?_
   simp only [ht,ah,hr,hj.hit hx (hpx▸hb)]
  cbv
  refine aF ⟨n-1,k+1,⟨hj.lt hx,hj.next hx (hpx▸hb)⟩,?_⟩
  simp only [ht,ah,aE (show k<9223372036854775807 by omega)];rfl
 simp only [ht,ah,decide_eq_false_iff_not] at h
 have hk:l.length≤k:=by omega
 clear h
 cbv
 refine an ?_
 rw [hr,hj.none hk]
theorem Qr (ht:TT t) {l:List (aI)} {es:List (List D)} (aD:es=l.map bf) (f:Nat) (p:aI→Bool) (hl:l.length<9223372036854775807)
 (hf:∀x∈l,FC f [.d (.str x)] [] (.ret (BL (p x))) []) {r:Bool} (hr:r=l.any p):FC 156 [SL es,.fn f []] [] (.ret (BL r)) []:=by
 obtain ⟨k,hk⟩:∃k,k=idxOf p l:=⟨_,rfl⟩
 refine cL ht Tryz.func156 (N:=9) ?_
 cbv
 refine eE trv (Qq ht aD f p hl hf hk) ?_
 cbv
 refine an ?_
 simp only [ht,hr,iR,hk]
theorem JW (ht:TT t) (s:aI) (hs:s.length<9223372036854775807):FC 227 [ST s] [] (.ret (dH (t _ fun _=>!dY s))) []:=by
 refine cL ht Tryz.func227 (N:=6) ?_
 cbv
 refine aP (rW ht _ ‹_›) trv (fun r0 c8=>?_)
 simp only [ht] at c8
 cbv
 refine an ?_
 (simp [*];done)
theorem vP:∀(s:aI),∀x∈bR 47 s,x.length≤s.length
 |[],x,hx=>by simp [bR] at hx;subst hx;exact Nat.le_refl _
 |c::s,x,hx=>by
  have ih:=vP s
  unfold bR at hx
  split at hx
  ·rcases List.mem_cons.1 hx with rfl|hx
   ·simp
   exact Nat.le_trans (ih x hx) (by simp)
  split at hx
  ·rename_i h r e
   rw [e] at ih
   rcases List.mem_cons.1 hx with rfl|hx
   ·have:=ih h (by simp);simp;omega
   exact Nat.le_trans (ih x (by simp [hx])) (by simp)
  simp at hx;subst hx;simp
theorem M9 (ht:TT t) {l:List aI} {es:List (List D)} (aD:es=l.map bf) (hl:l.length<9223372036854775807) (hw:∀x∈l,x.length<9223372036854775807):
 FC 156 [SL es,.fn 227 []] [] (.ret (dH (t _ fun _=>l.any fun n=>!dY n))) []:=by
 simp only [ht];exact Qr ht aD _ _ hl (fun x hx=>by have h:=JW ht x (hw x hx);simp only [ht,dH] at h;exact h) rfl
theorem vQ (ht:TT t) (s:aI) (hs:s.length<1000000000000):FC 209 [ST s] [] (.ret (AK t (t _ fun _=>parts s))) []:=by
 have WG:=oV 47 s
 have hsc:s.count 47≤s.length:=List.count_le_length
 have uo:∀x∈bR 47 s,x.length<9223372036854775807:=fun x hx=>Nat.lt_of_le_of_lt (vP s x hx) (by omega)
 refine cL ht Tryz.func209 (N:=14) ?_
 cbv
 refine aC (Qp ht _ ‹_›) trv (fun r0 c8=>?_)
 simp only [ht] at c8
 have hr0:(r0).length<1000000000001:=by rw [c8];omega
 have hs0:∀x∈r0,x.length<9223372036854775807:=by rw [c8];exact uo
 cbv
 refine gI (by simp [ht]) ?_
 refine eR (fun g1=>⟨by simp [ht] at g1 ⊢;exact g1,trv,M9 ht (kK ht rfl) (by omega) ‹_›⟩) rfl rfl (fun r2 ix=>?_)
 simp only [ht] at ix
 cbv
 refine pI (by simp [ht]) ?_
 apply ap<;>intro h3
 ·simp [ht,ah] at h3
  cbv
  refine an ?_
  (simp only [ht,parts];grind)
 simp [ht,ah] at h3
 cbv
 refine an ?_
 (simp only [ht,parts];grind)
def JX {α:Type} [DecidableEq α] (a:α) (l:List α):Int:=idxOf (fun x=>decide (a=x)) l
theorem LU {α:Type} [DecidableEq α] {a x:α} {l:List α} {k:Nat} (hx:l[k]?=some x) (h:a=x) (h3:∀i<k,∀y,l[i]?=some y→a≠y):JX a l=k:=by
 simp only [JX,idxOf]
 rw [vn hx (by simpa using h) (fun i hi y hy=>by simpa using h3 i hi y hy)]
theorem LV {α:Type} [DecidableEq α] {a:α} {l:List α} {k:Nat} (hk:l.length≤k) (h3:∀i<k,∀y,l[i]?=some y→a≠y):JX a l=-1:=by
 simp only [JX,idxOf]
 rw [AI]
 intro i y hy
 have:i<l.length:=(List.getElem?_eq_some_iff.1 hy).1
 simpa using h3 i (by omega) y hy
theorem Dc {α:Type} {a x:α} {l:List α} {k:Nat} (h3:∀i<k,∀y,l[i]?=some y→a≠y) (hx:l[k]?=some x) (h:a≠x):∀i<k+1,∀y,l[i]?=some y→a≠y:=by
 intro i hi y hy
 rcases Nat.lt_or_ge i k with h1|h1
 ·exact h3 i h1 y hy
 have:i=k:=by omega
 subst this;rw [hx] at hy;cases hy;exact h
theorem HA {α:Type} [DecidableEq α] (a:α) (l:List α):0≤JX a l↔a∈l:=by
 have h:=iR (fun x=>decide (a=x)) l
 rw [Bool.eq_iff_iff] at h
 simp at h
 exact h.symm
theorem HB (ht:TT t) (a:aI) {l:List aI} {es:List (List D)} (aD:es=l.map bf) (hl:l.length<1000000000):
 FC 211 [SL es,ST a] [] (.ret (kS (t _ fun _=>JX a l))) []:=by
 refine cL ht Tryz.func211 (N:=19) ?_
 cbv
 have aQ:es.length=l.length:=by rw [aD,lgM]
 obtain ⟨J0,fK⟩:∃J0:Nat→Int→Prop,∀n i,J0 n i↔(∃k:Nat,i=k∧k+n=l.length∧∀i<k,∀y,l[i]?=some y→a≠y):=⟨fun n v=>match v with|i=>(∃k:Nat,i=k∧k+n=l.length∧∀i<k,∀y,l[i]?=some y→a≠y),fun _ _=>Iff.rfl⟩
 refine bE ⟨[0,1,7,8],[],[]⟩ (σ:=Int) (fun v=>[(8,.d (.int .i64 (t _ fun _=>v)))]) (fun v=>[]) J0 ?_
 cbv
 refine aF ⟨l.length,_,(fK _ _).2 ?_,by simp only [ht];rfl,?_⟩
 ·exact ⟨0,rfl,by simp,fun i hi=>by omega⟩
 rintro n i hj
 replace hj:=(fK _ _).1 hj
 obtain ⟨k,rfl,j1,j4⟩:=hj
 cbv
 apply ap<;>intro h1
 ·simp [ht,ah,aQ] at h1
  cbv
  refine kL ht aD (cT:=eL t) (by (simp only [ht,ah];omega)) (by (simp only [ht,ah];omega)) (fun _=>rfl) (fun _=>rfl) (fun x2 oc=>?_)
  simp [ht,ah] at oc
  cbv
  apply ap<;>intro h3
  ·simp [ht] at h3
   cbv
   refine an ?_
   (simp only [ht];rw [LU ‹_› ‹_› j4];done)
  simp [ht] at h3
  cbv
  refine cr _ (by simp only [ht];rfl) (n-1) ?_ ((fK _ _).2 ?_)
  ·omega
  simp only [ah]
  exact ⟨k+1,aE (by omega),by omega,Dc j4 ‹_› ‹_›⟩
 simp [ht,ah,aQ] at h1
 cbv
 refine an ?_
 (simp only [ht];rw [LV (by omega) j4];done)
theorem Na (ht:TT t) (a:aI) {l:List aI} {es:List (List D)} (aD:es=l.map bf) (hl:l.length<1000000000):
 FC 182 [SL es,ST a] [] (.ret (dH (t _ fun _=>l.contains a))) []:=by
 refine cL ht Tryz.func182 (N:=9) ?_
 cbv
 have aQ:es.length=l.length:=by rw [aD,lgM]
 refine aP (HB ht _ ‹_› ‹_›) trv (fun r0 c8=>?_)
 simp only [ht] at c8
 cbv
 refine an ?_
 (simp [ht,c8,HA];done)
theorem VT (ht:TT t) (s:aI) (hs:s.length<1000000000000):FC 178 [ST s] [] (.ret (AK t (t _ fun _=>mB s))) []:=by
 have hp:=ki s
 refine cL ht Tryz.func178 (N:=22) ?_
 cbv
 refine aC (vQ ht _ ‹_›) trv (fun r0 c8=>?_)
 simp only [ht] at c8
 have hrl:(r0).length=(parts s).length:=by rw [c8]
 cbv
 obtain ⟨J1,oe⟩:∃J1:Nat→List (List D)×Int→Prop,∀n u i,J1 n (u,i)↔(∃k:Nat,i=k∧k+n=(parts s).length∧u=((mB s).take k).map bf):=⟨fun n v=>match v with|(u,i)=>(∃k:Nat,i=k∧k+n=(parts s).length∧u=((mB s).take k).map bf),fun _ _ _=>Iff.rfl⟩
 refine bE ⟨[0,3,7,8],[(3,1)],[]⟩ (σ:=List (List D)×Int) (fun v=>[(3,.ow 0 1 (t _ fun _=>(v.1).length)),(8,.d (.int .i64 (t _ fun _=>v.2)))]) (fun v=>[(0,.row 1 (t _ fun _=>v.1))]) J1 ?_
 cbv
 refine aF ⟨(parts s).length,([],_),(oe _ _ _).2 ?_,by simp only [ht];rfl,?_⟩
 ·exact ⟨0,rfl,by simp,rfl⟩
 rintro n ⟨u,i⟩ hj
 replace hj:=(oe _ _ _).1 hj
 obtain ⟨k,rfl,j1,j4⟩:=hj
 cbv
 apply ap<;>intro h2
 ·simp [ht,ah] at h2
  cbv
  refine aC (vQ ht _ ‹_›) trv (fun r3 lm=>?_)
  simp only [ht] at lm
  have hrl:(r3).length=(parts s).length:=by rw [lm]
  cbv
  refine ⟨?_,?_⟩
  ·(simp only [ht];refine ⟨?_,fun r hr=>by obtain ⟨y,_,rfl⟩:=List.mem_map.1 hr;rfl⟩;rw [aE (by omega)];simp only [bO];rw [lgM];omega)
  cbv
  (refine aP (LS ht (l:=r3.take (k+1)) (by simp only [ht,iF];rw [aE (by omega),List.map_take];rfl) (by simp;omega) (by rw [lm];exact Nat.le_trans (CV s (k+1)) (by omega))) trv (fun r4 kW=>?_);simp only [ht] at kW;rw [lm] at kW)
  cbv
  refine ⟨?_,?_⟩
  ·(simp only [ht];grind)
  cbv
  refine cr (_,_) (by simp only [ht,←List.length_append];rfl) (n-1) ?_ ((oe _ _ _).2 ?_)
  ·omega
  simp only [ah]
  exact ⟨k+1,aE (by omega),by omega,by rw [CW (by omega),j4,←kW];simp⟩
 simp [ht,ah] at h2
 cbv
 refine iq trv (by simp [ht]) rfl rfl rfl ?_
 (simp [ht,j4,List.take_of_length_le (show (mB s).length≤k by rw [iu];omega)];done)
theorem HC (ht:TT t) (a b:aI) (hs:b.length<1000000000000):FC 136 [ST a,ST b] [] (.ret (dH (t _ fun _=>nH a b))) []:=by
 have hp:=ki b
 have hl:=iu b
 refine cL ht Tryz.func136 (N:=9) ?_
 cbv
 refine aC (VT ht _ ‹_›) trv (fun r0 c8=>?_)
 simp only [ht] at c8
 have hr0:(r0).length<1000000000:=by rw [c8];omega
 cbv
 refine aP (Na ht _ (kK ht rfl) ‹_›) trv (fun r1 cR=>?_)
 simp only [ht] at cR
 cbv
 refine an ?_
 (simp [nH, *];done)
theorem Td (x y:Nat) (hx:x<18446744073709551616) (hy:y<18446744073709551616):MM x y=if (x*y / 18446744073709551616=0) then (((x*y:Nat):Int),true) else (0,false):=by
 unfold MM
 simp only [Int.toNat_natCast]
 by_cases h:x*y<18446744073709551616
 ·rw [if_pos h,if_pos (Nat.div_eq_of_lt h)]
 rw [if_neg h,if_neg (by have:=Nat.div_le_div_right (c:=18446744073709551616) (Nat.le_of_not_lt h);simp at this;omega)]
theorem Te (x:Nat):x &&& 4294967295=x%4294967296:=by
 have:=Nat.and_two_pow_sub_one_eq_mod x 32
 simpa using this
theorem Qs (x:Nat) (hx:x<18446744073709551616):IntKind.u64.wrap ((BitVec.ofInt IntKind.u64.bits (x:Int) &&& BitVec.ofInt IntKind.u64.bits 4294967295).toNat:Int)=((x%4294967296:Nat):Int):=by
 have e1:BitVec.ofInt IntKind.u64.bits (x:Int)=BitVec.ofNat 64 x:=by simp [IntKind.bits]
 have e2:BitVec.ofInt IntKind.u64.bits 4294967295=BitVec.ofNat 64 4294967295:=by rfl
 rw [e1,e2]
 have:(BitVec.ofNat 64 x &&& BitVec.ofNat 64 4294967295).toNat=x%4294967296:=by
  rw [BitVec.toNat_and,BitVec.toNat_ofNat,BitVec.toNat_ofNat,Nat.mod_eq_of_lt (a:=x) (by simpa using hx),Nat.mod_eq_of_lt (a:=4294967295) (by decide),Te]
 have h2:x%4294967296<18446744073709551616:=by omega
 rw [oU]
 show (((BitVec.ofNat 64 x &&& BitVec.ofNat 64 4294967295).toNat:Nat):Int)%18446744073709551616=_
 rw [this];omega
theorem LW (x:Nat):(x:Int).fdiv (2^(min (32:Int).toNat IntKind.u64.bits))=((x / 4294967296:Nat):Int):=by
 show (x:Int).fdiv (2^32)=_
 rw [Int.fdiv_eq_ediv_of_nonneg _ (by decide)];norm_cast
theorem EL {n:Nat} (h:n<18446744073709551616):IntKind.u64.wrap (n:Int)=n:=by rw [oU];omega
theorem Tf (ht:TT t) (x y:Nat) (hx:x<18446744073709551616) (hy:y<18446744073709551616) {a b:Int} (ha:a=x) (hb:b=y):
 FC 202 [aB a,aB b] [] (.ret (.dV [aB (t _ fun _=>((x*y / 18446744073709551616:Nat):Int)),aB (t _ fun _=>IntKind.u64.wrap ((x*y:Nat):Int))])) []:=by
 obtain ⟨k1,k2,k3,k4⟩:=Lib.mul64_hi x y hx hy
 refine cL ht Tryz.func202 (N:=51) ?_
 cbv
 refine ⟨by simp [ht],by simp [ht],by simp [ht],by simp [ht],by simp [ht],?_⟩
 refine an ?_
 simp only [ht,ah]
 subst ha hb
 have b1:x / 4294967296≤4294967295:=by omega
 have b2:y / 4294967296≤4294967295:=by omega
 have b3:x%4294967296≤4294967295:=by omega
 have b4:y%4294967296≤4294967295:=by omega
 have m1:=Lib.half_mul_le b1 b2
 have m2:=Lib.half_mul_le b1 b4
 have m3:=Lib.half_mul_le b3 b2
 have m4:=Lib.half_mul_le b3 b4
 have k5:x / 4294967296*(y / 4294967296)+(x / 4294967296*(y%4294967296)+x%4294967296*(y%4294967296) / 4294967296) / 4294967296<18446744073709551616:=by omega
 have k6:x*y / 18446744073709551616<18446744073709551616:=by
  rw [Nat.div_lt_iff_lt_mul (by decide)]
  exact Nat.mul_lt_mul'' hx hy
 simp only [LW,Qs x hx,Qs y hy,←Int.natCast_mul]
 rw [EL k1,EL (n:=x / 4294967296*(y%4294967296)) (by omega),EL (n:=x%4294967296*(y / 4294967296)) (by omega),EL (n:=x / 4294967296*(y / 4294967296)) (by omega)]
 simp only [LW,←Int.natCast_add]
 rw [EL k2,Qs _ k2]
 simp only [LW,←Int.natCast_add]
 rw [EL k5,EL k3]
 simp only [LW,←Int.natCast_add]
 rw [k4,EL k6]
theorem Nb (ht:TT t) (x y:Int) (hx:0≤x∧x<18446744073709551616) (hy:0≤y∧y<18446744073709551616) {r:Int} {ok:Bool} (h:(r,ok)=MM x y):
 FC 169 [aB x,aB y] [] (.ret (.dV [aB r,BL ok])) []:=by
 obtain ⟨a,rfl⟩:=Int.eq_ofNat_of_zero_le hx.1
 obtain ⟨b,rfl⟩:=Int.eq_ofNat_of_zero_le hy.1
 have ha:a<18446744073709551616:=by omega
 have hb:b<18446744073709551616:=by omega
 rw [Td a b ha hb] at h
 have hw:a*b / 18446744073709551616=0→IntKind.u64.wrap ((a*b:Nat):Int)=((a*b:Nat):Int):=fun e=>by
  refine EL ?_
  rcases Nat.lt_or_ge (a*b) 18446744073709551616 with h1|h1
  ·exact h1
  have:=Nat.div_le_div_right (c:=18446744073709551616) h1;simp at this;omega
 obtain ⟨w,hw2⟩:∃w,w=IntKind.u64.wrap ((a*b:Nat):Int):=⟨_,rfl⟩
 obtain ⟨z,hz⟩:∃z,z=a*b / 18446744073709551616:=⟨_,rfl⟩
 have hc:=Tf ht a b ha hb rfl rfl
 rw [←hw2,←hz] at hc
 rw [←hw2,←hz] at hw
 rw [←hz] at h
 obtain ⟨x,hx0⟩:∃x:Int,x=a:=⟨_,rfl⟩
 obtain ⟨y,hy0⟩:∃y:Int,y=b:=⟨_,rfl⟩
 rw [←hx0,←hy0] at hc ⊢
 refine cL ht Tryz.func169 (N:=17) ?_
 cbv
 refine gR trv hc trv rfl rfl ?_
 cbv
 apply ap<;>intro hc
 ·cbv
  refine an ?_
  simp only [ht,ah,Bool.not_eq_true',decide_eq_false_iff_not] at hc
  rw [if_neg (by omega)] at h
  cases h;rfl
 cbv
 refine an ?_
 simp only [ht,ah,Bool.not_eq_false',decide_eq_true_eq] at hc
 have Uf:z=0:=by omega
 rw [if_pos Uf] at h
 cases h
 simp only [ht,hw Uf]
theorem Qt (ht:TT t) (m x y:Int) (hx:0≤x∧x<18446744073709551616) (hm:0≤m∧m<18446744073709551616) {r:Int} {ok:Bool} (h:(r,ok)=MM x m):
 FC 168 [aB x,aB y,.ptr 0 0] [.var [aB m]] (.ret (.dV [aB r,BL ok])) [.var [aB m]]:=by
 refine kM ht (bC:=[.var [aB m]]) Tryz.func168 rfl rfl (N:=12) rfl rfl (n:=1) rfl rfl ?_
 cbv
 refine gR trv (Nb ht x m hx hm h) trv rfl rfl ?_
 cbv
 exact an rfl
theorem Tg (ht:TT t) (m:Int) (a0 a1 a2 a3 b0 b1 b2 b3:Int) (op:Int→Int→Int×Bool) (F:Nat) (hop:∀(x y r:Int) (ok:Bool),(r,ok)=op x y→0≤x∧x<18446744073709551616→FC F [.d (.int .u64 x),.d (.int .u64 y),.ptr 0 0] [.var [aB m]] (.ret (.dV [.d (.int .u64 r),.d (.bool ok)])) [.var [aB m]])
 (u0:0≤a0∧a0<18446744073709551616) (u1:0≤a1∧a1<18446744073709551616) (u2:0≤a2∧a2<18446744073709551616) (u3:0≤a3∧a3<18446744073709551616)
 {r0 r1 r2 r3:Int} {ok:Bool} (h:(⟨r0,r1,r2,r3⟩,ok)=both op ⟨a0,a1,a2,a3⟩ ⟨b0,b1,b2,b3⟩):
 FC 167 [.agg [.d (.int .u64 a0),.d (.int .u64 a1),.d (.int .u64 a2),.d (.int .u64 a3)],.agg [.d (.int .u64 b0),.d (.int .u64 b1),.d (.int .u64 b2),.d (.int .u64 b3)],.fn F [.ptr 0 0]] [.var [aB m]]
  (.ret (.dV [.agg [.d (.int .u64 r0),.d (.int .u64 r1),.d (.int .u64 r2),.d (.int .u64 r3)],.d (.bool ok)])) [.var [aB m]]:=by
 obtain ⟨⟨s0,k0⟩,e0⟩:∃s,s=op a0 b0:=⟨_,rfl⟩
 obtain ⟨⟨s1,k1⟩,e1⟩:∃s,s=op a1 b1:=⟨_,rfl⟩
 obtain ⟨⟨s2,k2⟩,e2⟩:∃s,s=op a2 b2:=⟨_,rfl⟩
 obtain ⟨⟨s3,k3⟩,e3⟩:∃s,s=op a3 b3:=⟨_,rfl⟩
 have h0:(k0&&k1&&k2&&k3)=false→r0=0∧r1=0∧r2=0∧r3=0∧ok=false:=by
  intro hk;simp only [both,←e0,←e1,←e2,←e3] at h;rw [if_neg (by rw [hk];simp)] at h;cases h;exact ⟨rfl,rfl,rfl,rfl,rfl⟩
 have h1:(k0&&k1&&k2&&k3)=true→r0=s0∧r1=s1∧r2=s2∧r3=s3∧ok=true:=by
  intro hk;simp only [both,←e0,←e1,←e2,←e3] at h;rw [if_pos hk] at h;cases h;exact ⟨rfl,rfl,rfl,rfl,rfl⟩
 clear h
 have fin:∀{B:List az},(k0&&k1&&k2&&k3)=false→Ed 1 True (AV.dV [.agg [.d (.int .u64 0),.d (.int .u64 0),.d (.int .u64 0),.d (.int .u64 0)],.d (.bool false)]) (.var [aB m]::B) (some (True,AV.dV [.agg [.d (.int .u64 0),.d (.int .u64 0),.d (.int .u64 0),.d (.int .u64 0)],.d (.bool false)]))
  (.ret (.dV [.agg [.d (.int .u64 r0),.d (.int .u64 r1),.d (.int .u64 r2),.d (.int .u64 r3)],.d (.bool ok)])) [.var [aB m]]:=by
  intro bx hk
  obtain ⟨rfl,rfl,rfl,rfl,rfl⟩:=h0 hk
  exact an rfl
 refine kM ht (bC:=[.var [aB m]]) Tryz.func167 rfl rfl (N:=34) rfl rfl (n:=1) rfl rfl ?_
 cbv
 refine bE ⟨[2,3,4,6,12,13],[],[]⟩ (σ:=Nat) (fun j=>[(13,.d (.int .i64 j))]) (fun j=>[(1,.var [.d (.int .u64 (bif Nat.blt 0 j then s0 else a0)),.d (.int .u64 (bif Nat.blt 1 j then s1 else a1)),.d (.int .u64 (bif Nat.blt 2 j then s2 else a2)),.d (.int .u64 (bif Nat.blt 3 j then s3 else a3))])])
  (fun n j=>n+j=4∧(0<j→k0=true)∧(1<j→k1=true)∧(2<j→k2=true)∧(3<j→k3=true)) ?_
 cbv
 refine aF ⟨4,0,⟨rfl,by omega,by omega,by omega,by omega⟩,rfl,?_⟩
 rintro n j ⟨hn,g0,g1,g2,g3⟩
 have hj:j=0∨j=1∨j=2∨j=3∨j=4:=by omega
 rcases hj with rfl|rfl|rfl|rfl|rfl
 ·cbv
  refine ld (by simp [ht]) ?_
  cbv
  refine ⟨by simp [ht],by simp [ht],dG [0] trv rfl rfl (hop _ _ _ _ e0 u0) (cD ?_)⟩
  cbv
  apply ap<;>intro hc
  ·simp only [ht,Bool.not_eq_true'] at hc
   cbv
   exact fin (by simp [hc])
  simp only [ht,Bool.not_eq_false'] at hc
  cbv
  refine ⟨by simp [ht],?_⟩
  refine aF ⟨3-0,0+1,⟨⟨by omega,by omega,by simp_all,by simp_all,by simp_all,by simp_all⟩,?_⟩⟩
  simp only [ht];rfl
 ·cbv
  refine ld (by simp [ht]) ?_
  cbv
  refine ⟨by simp [ht],by simp [ht],dG [0] trv rfl rfl (hop _ _ _ _ e1 u1) (cD ?_)⟩
  cbv
  apply ap<;>intro hc
  ·simp only [ht,Bool.not_eq_true'] at hc
   cbv
   exact fin (by simp [hc])
  simp only [ht,Bool.not_eq_false'] at hc
  cbv
  refine ⟨by simp [ht],?_⟩
  refine aF ⟨3-1,1+1,⟨⟨by omega,by omega,by simp_all,by simp_all,by simp_all,by simp_all⟩,?_⟩⟩
  simp only [ht];rfl
 ·cbv
  refine ld (by simp [ht]) ?_
  cbv
  refine ⟨by simp [ht],by simp [ht],dG [0] trv rfl rfl (hop _ _ _ _ e2 u2) (cD ?_)⟩
  cbv
  apply ap<;>intro hc
  ·simp only [ht,Bool.not_eq_true'] at hc
   cbv
   exact fin (by simp [hc])
  simp only [ht,Bool.not_eq_false'] at hc
  cbv
  refine ⟨by simp [ht],?_⟩
  refine aF ⟨3-2,2+1,⟨⟨by omega,by omega,by simp_all,by simp_all,by simp_all,by simp_all⟩,?_⟩⟩
  simp only [ht];rfl
 ·cbv
  refine ld (by simp [ht]) ?_
  cbv
  refine ⟨by simp [ht],by simp [ht],dG [0] trv rfl rfl (hop _ _ _ _ e3 u3) (cD ?_)⟩
  cbv
  apply ap<;>intro hc
  ·simp only [ht,Bool.not_eq_true'] at hc
   cbv
   exact fin (by simp [hc])
  simp only [ht,Bool.not_eq_false'] at hc
  cbv
  refine ⟨by simp [ht],?_⟩
  refine aF ⟨3-3,3+1,⟨⟨by omega,by omega,by simp_all,by simp_all,by simp_all,by simp_all⟩,?_⟩⟩
  simp only [ht];rfl
 cbv
 refine pE (by simp [ht]) ?_
 cbv
 obtain ⟨rfl,rfl,rfl,rfl,rfl⟩:=h1 (by simp [g0,g1,g2,g3])
 exact an rfl
theorem Nc (ht:TT t) (a0 a1 a2 a3 n:Int) (hu:(⟨a0,a1,a2,a3⟩:bG).u') (hn:0≤n∧n<18446744073709551616):
 FC 117 [V4 a0 a1 a2 a3,aB n] [] (.ret (Za (t _ fun _=>Jt ⟨a0,a1,a2,a3⟩ n))) []:=by
 obtain ⟨⟨⟨r0,r1,r2,r3⟩,ok⟩,h⟩:∃r,r=Jt ⟨a0,a1,a2,a3⟩ n:=⟨_,rfl⟩
 rw [←h]
 obtain ⟨u0,u1,u2,u3⟩:=hu
 refine cL ht Tryz.func117 (N:=12) ?_
 cbv
 refine dG [1] trv rfl rfl (Tg ht n a0 a1 a2 a3 0 0 0 0 (fun x _=>MM x n) 168 (fun x y r ok e hx=>Qt ht n x y hx hn e) u0 u1 u2 u3 h) (cD ?_)
 cbv
 refine an ?_
 simp only [ht]
def Ask.sm (x:Ask):Prop:=x.path.length<1000000000000∧x.fY.u'∧x.cg.length<1000000000∧∀m∈x.cg,m.sm
theorem rX (ht:TT t) (p:aI) (a b c d n pr tk:Int) {sl:List Term} (sr:List (List D)) (hu:(⟨a,b,c,d⟩:bG).u'):
 FC 77 [.agg [ST p,aB a,aB b,aB c,aB d,bF n,bF pr,bF tk,SL sr]] [] (.ret (Za (t _ fun _=>cV ⟨p,⟨a,b,c,d⟩,n,pr,tk,sl⟩))) []:=by
 refine cL ht Tryz.func77 (N:=12) ?_
 cbv
 (refine aP (Nc ht a b c d _ hu (by simp only [ht];rw [oU];omega)) trv (fun r9 jP=>?_);simp only [ht,oU] at jP)
 cbv
 refine an ?_
 (simp [cV, *];done)
theorem JY (ht:TT t) (n a b:Int):FC 176 [bF n,bF a,bF b] [] (.ret (dH (t _ fun _=>RJ n a b))) []:=by
 refine cL ht Tryz.func176 (N:=15) ?_
 cbv
 iterate 3 refine gI (by simp [ht]) ?_
 refine pI (by simp [ht]) ?_
 refine an ?_
 (simp [ht,RJ];done)
theorem De (ht:TT t) (p:aI) (a b c d n pr tk:Int) {sl:List Term} {sr:List (List D)} (hsr:sr=sl.map Term.cells) (uo:(⟨p,⟨a,b,c,d⟩,n,pr,tk,sl⟩:Ask).sm):
 FC 132 [.agg [ST p,aB a,aB b,aB c,aB d,bF n,bF pr,bF tk,SL sr]] [] (.ret (kS (t _ fun _=>eS ⟨p,⟨a,b,c,d⟩,n,pr,tk,sl⟩))) []:=by
 obtain ⟨h1,h2,h3,h4⟩:=uo
 simp only at h1 h2 h3 h4
 refine cL ht Tryz.func132 (N:=46) ?_
 cbv
 have aar:sr.length=sl.length:=by rw [hsr,lgM]
 (refine aP (rX ht p a b c d n pr tk (sl:=sl) sr h2) trv (fun r9 jP=>?_);simp only [ht] at jP)
 cbv
 refine aP (HC ht _ _ ‹_›) trv (fun r0 c8=>?_)
 simp only [ht] at c8
 cbv
 apply ap<;>intro h1
 ·simp [ht] at h1
  cbv
  refine an ?_
  (simp only [ht,eS];grind)
 simp [ht] at h1
 cbv
 refine aP (JY ht _ _ _) trv (fun r2 ix=>?_)
 simp only [ht] at ix
 cbv
 iterate 3 refine gI (by simp [ht]) ?_
 refine eR (fun g3=>⟨by simp [ht] at g3 ⊢;exact g3,trv,JY ht _ _ _⟩) rfl rfl (fun r4 kW=>?_)
 simp only [ht] at kW
 cbv
 refine gI (by simp [ht]) ?_
 refine pI (by simp [ht]) ?_
 iterate 3 refine gI (by simp [ht]) ?_
 refine eR (fun g5=>⟨by simp [ht] at g5 ⊢;exact g5,trv,JY ht _ _ _⟩) rfl rfl (fun r6 ou=>?_)
 simp only [ht] at ou
 cbv
 refine gI (by simp [ht]) ?_
 refine pI (by simp [ht]) ?_
 apply ap<;>intro h7
 ·simp [ht] at h7
  cbv
  refine an ?_
  (simp only [ht,eS];grind)
 simp [ht] at h7
 cbv
 refine aP (M8 ht ‹_› ‹_› ‹_›) trv (fun r8 WS=>?_)
 simp only [ht] at WS
 cbv
 apply ap<;>intro h9
 ·simp [ht] at h9
  cbv
  refine an ?_
  (simp only [ht,eS];grind)
 simp [ht] at h9
 cbv
 apply ap<;>intro h10
 ·simp [ht] at h10
  cbv
  refine an ?_
  (simp only [ht,eS];grind)
 simp [ht] at h10
 cbv
 refine an ?_
 (simp only [ht,eS];grind)
theorem LX (ht:TT t) (s:aI) (hs:s.length<1000000000000):FC 178 [ST s] [] (.ret (.ow 0 1 (t _ fun _=>((mB s).map bf).length))) [.row 1 (t _ fun _=>(mB s).map bf)]:=by
 have hp:=ki s
 refine cL ht Tryz.func178 (N:=22) ?_
 cbv
 refine aC (vQ ht _ ‹_›) trv (fun r0 c8=>?_)
 simp only [ht] at c8
 have hrl:(r0).length=(parts s).length:=by rw [c8]
 cbv
 obtain ⟨J1,oe⟩:∃J1:Nat→List (List D)×Int→Prop,∀n u i,J1 n (u,i)↔(∃k:Nat,i=k∧k+n=(parts s).length∧u=((mB s).take k).map bf):=⟨fun n v=>match v with|(u,i)=>(∃k:Nat,i=k∧k+n=(parts s).length∧u=((mB s).take k).map bf),fun _ _ _=>Iff.rfl⟩
 refine bE ⟨[0,3,7,8],[(3,1)],[]⟩ (σ:=List (List D)×Int) (fun v=>[(3,.ow 0 1 (t _ fun _=>(v.1).length)),(8,.d (.int .i64 (t _ fun _=>v.2)))]) (fun v=>[(0,.row 1 (t _ fun _=>v.1))]) J1 ?_
 cbv
 refine aF ⟨(parts s).length,([],_),(oe _ _ _).2 ?_,by simp only [ht];rfl,?_⟩
 ·exact ⟨0,rfl,by simp,rfl⟩
 rintro n ⟨u,i⟩ hj
 replace hj:=(oe _ _ _).1 hj
 obtain ⟨k,rfl,j1,j4⟩:=hj
 cbv
 apply ap<;>intro h2
 ·simp [ht,ah] at h2
  cbv
  refine aC (vQ ht _ ‹_›) trv (fun r3 lm=>?_)
  simp only [ht] at lm
  have hrl:(r3).length=(parts s).length:=by rw [lm]
  cbv
  refine ⟨?_,?_⟩
  ·(simp only [ht];refine ⟨?_,fun r hr=>by obtain ⟨y,_,rfl⟩:=List.mem_map.1 hr;rfl⟩;rw [aE (by omega)];simp only [bO];rw [lgM];omega)
  cbv
  (refine aP (LS ht (l:=r3.take (k+1)) (by simp only [ht,iF];rw [aE (by omega),List.map_take];rfl) (by simp;omega) (by rw [lm];exact Nat.le_trans (CV s (k+1)) (by omega))) trv (fun r4 kW=>?_);simp only [ht] at kW;rw [lm] at kW)
  cbv
  refine ⟨?_,?_⟩
  ·(simp only [ht];grind)
  cbv
  refine cr (_,_) (by simp only [ht,←List.length_append];rfl) (n-1) ?_ ((oe _ _ _).2 ?_)
  ·omega
  simp only [ah]
  exact ⟨k+1,aE (by omega),by omega,by rw [CW (by omega),j4,←kW];simp⟩
 simp [ht,ah] at h2
 cbv
 refine Cb trv rfl rfl rfl rfl ?_ ?_
 ·(simp [ht,j4,List.take_of_length_le (show (mB s).length≤k by rw [iu];omega)];done)
 (simp [ht,j4,List.take_of_length_le (show (mB s).length≤k by rw [iu];omega)];done)
theorem EM (ht:TT t) {es:List (List D)} {x:D} {row:List D} {i n c:Nat} (hn:n=es.length) (hi:i≤n) (hc:n≤c) (hc0:n=0→c=0) (aD:∀r∈es,r.length=1) (hrow:(x::row).length=1) (hs:n<1000000) {r:List (List D)} (hr:r=es.take i++(x::row)::es.drop i):
 FC 198 [.vw 0 1 0 n c true,bF (i:Int),SL [x::row]] [.row 1 es] (.ret (SL r)) [.dead]:=by
 obtain ⟨n1,Ac⟩:∃n1,n1=n+1:=⟨_,rfl⟩
 obtain ⟨i1,hi1⟩:∃i1,i1=i+1:=⟨_,rfl⟩
 obtain ⟨ni,hni⟩:∃ni,ni=n-i:=⟨_,rfl⟩
 obtain ⟨ci,pN⟩:∃ci,ci=c-i:=⟨_,rfl⟩
 obtain ⟨w9,JO⟩:∃w9,w9=c-i1:=⟨_,rfl⟩
 obtain ⟨o7,tW⟩:∃o7,o7=n1-i:=⟨_,rfl⟩
 have hW:∀P:Prop,((IntKind.i64.wrap ((n:Int)+1)=(n1:Int))→(IntKind.i64.wrap ((n1:Int)-(i:Int))=(o7:Int))→(IntKind.i64.wrap ((i:Int)+1)=(i1:Int))→P)→P:=
  fun P h=>h (by rw [wrap64 (by omega) (by omega)];omega) (by rw [wrap64 (by omega) (by omega)];omega) (by rw [wrap64 (by omega) (by omega)];omega)
 have hrl:r.length=n1:=by rw [hr,List.length_append,List.length_cons,List.length_take,List.length_drop];omega
 have VJ:n≠0→FC 222 [SL [x::row],.vw 0 1 i1 ni w9 true] [.row 1 es] (.ret (BL false)) [.row 1 es]:=fun h0=>
  iE UC Tryz.func222 rfl rfl rfl rfl (tS:=51) (tR:=4) rfl rfl (by intro h;rw [h] at hn;exact h0 hn)
 refine kM ht (bC:=[.row 1 es]) Tryz.func198 rfl rfl (N:=95) rfl rfl (n:=1) rfl rfl ?_
 cbv
 refine bH (.vw 0 1 i ni ci true) [.row 1 es] ?_ ?_ rfl ?_
 ·simp [ht,dJ,bO];omega
 ·simp [ht,aW,aT,hni,pN]
 cbv
 refine pE (by simp [ht]) ?_
 cbv
 apply ap<;>intro h
 ·have hin:i=n:=by simp [ht,ah] at h;omega
  clear h
  cbv
  refine bH (.ow 1 1 n1) [.dead,.row 1 r] ?_ ?_ ?_ ?_
  ·simp only [ht]
   refine ⟨⟨hn,by simp;omega,?_⟩,rfl,hn,fun h=>⟨hc0 (by rw [hn,h];rfl),rfl⟩⟩
   intro r hr
   rcases List.mem_append.1 hr with hr|hr
   ·exact aD r hr
   simp at hr;subst hr;exact hrow
  ·simp [ht,Ac,hn]
  ·simp only [ht];rw [hr]
   have:i=es.length:=by omega
   subst this;simp
  cbv
  refine iq trv ?_ rfl rfl rfl rfl
  simp only [ht];exact hrl.symm
 have hin:i<n:=by simp [ht,ah] at h;omega
 clear h
 have A8:r=(r.drop 0).take n1:=by rw [List.drop_zero,List.take_of_length_le (by omega)]
 cbv
 apply ap<;>intro h2
 ·have VK:c=n:=by
   refine hW _ fun e1 e2 e3=>?_
   simp [ht,ah,e1] at h2;omega
  clear h2
  obtain ⟨L,hL⟩:∃L:List (List D),L=es.take i++List.replicate (es.length+1-i) [D.str []]:=⟨_,rfl⟩
  have Iz:L.length=n1:=by rw [hL];simp;omega
  obtain ⟨L1,tX⟩:∃L1,L1=wrote L i [x::row]:=⟨_,rfl⟩
  have mF:L1.length=n1:=by rw [tX];simp [wrote,Iz];omega
  have oG:r=wrote L1 i1 (es.drop i):=by rw [hi1,tX,hL,vM (by omega),hr]
  cbv
  refine bH (.vw 0 1 0 i c true) [.row 1 es] ?_ ?_ rfl ?_
  ·simp [ht,dJ,bO];omega
  ·simp [ht,aW,aT]
  cbv
  refine bH (.vw 1 1 0 n1 n1 false) [.row 1 es,.row 1 L] ?_ ?_ ?_ ?_
  ·refine hW _ fun e1 e2 e3=>?_
   simp [ht,ah,e1,e2];omega
  ·refine hW _ fun e1 e2 e3=>?_
   simp [ht,ah,e1,e2];omega
  ·refine hW _ fun e1 e2 e3=>?_
   simp [ht,ah,e1,e2,hL];omega
  cbv
  refine bH (.vw 1 1 i o7 o7 false) [.row 1 es,.row 1 L] ?_ ?_ rfl ?_
  ·simp [ht,dJ,bO];omega
  ·simp [ht,aW,aT,tW]
  cbv
  refine bH (bF 1) [.row 1 es,.row 1 L1] ?_ ?_ ?_ ?_
  ·simp only [ht,eO]
   refine ⟨⟨by omega,?_⟩,?_⟩
   ·intro h;rw [h] at Iz;simp at Iz;omega
   intro r hr;have:=List.mem_of_mem_take hr;simp at this;rw [this];exact hrow
  ·simp [ht,ah];omega
  ·simp [ht,tX,show min 1 o7=1 by omega]
  cbv
  refine cE [false,false,false,false,false,false,false,false,true] ?_
  cbv
  repeat (refine gI (by (simp;done)) ?_)
  refine ij (.vw 1 1 i1 ni ni false) (fun _=>⟨?_,?_⟩) ?_
  ·refine hW _ fun e1 e2 e3=>?_
   simp [ht,ah,e3,dJ,bO];omega
  ·refine hW _ fun e1 e2 e3=>?_
   simp [ht,ah,e3,aW,aT];omega
  cbv
  repeat (refine gI (by (simp;done)) ?_)
  refine ij (.vw 0 1 i ni ci true) (fun _=>⟨?_,?_⟩) ?_
  ·simp [ht,dJ,bO];omega
  ·simp [ht,aW,aT,hni,pN]
  cbv
  refine bH (bF (ni:Nat)) [.row 1 es,.row 1 r,.bt] ?_ ?_ ?_ ?_
  ·simp only [ht,eO]
   refine ⟨by omega,⟨by omega,?_⟩,?_⟩
   ·intro h;rw [h] at mF;simp at mF;omega
   intro r hr;exact aD r (List.mem_of_mem_drop (List.mem_of_mem_take hr))
  ·simp [ht,ah]
  ·simp only [ht,oG]
   rw [List.take_of_length_le (by simp;omega)]
  cbv
  refine yQ [true] trv ?_ rfl rfl rfl ?_
  ·simp only [ht];omega
  simp only [ht];rw [←A8]
 have VK:n<c:=by
  refine hW _ fun e1 e2 e3=>?_
  simp [ht,ah,e1] at h2;omega
 clear h2
 obtain ⟨L1,tX⟩:∃L1,L1=wrote es i1 (es.drop i):=⟨_,rfl⟩
 have oG:r=wrote L1 i [x::row]:=by rw [tX,hi1,EF (by omega),hr]
 have mF:L1.length=n1:=by rw [tX];simp [wrote];omega
 cbv
 refine bH (.vw 0 1 0 n1 c true) [.row 1 es] ?_ ?_ rfl ?_
 ·refine hW _ fun e1 e2 e3=>?_
  simp [ht,ah,e1,dJ,bO];omega
 ·refine hW _ fun e1 e2 e3=>?_
  simp [ht,ah,e1,aW,aT]
 cbv
 refine bH (.vw 0 1 i1 ni w9 true) [.row 1 es] ?_ ?_ rfl ?_
 ·refine hW _ fun e1 e2 e3=>?_
  simp [ht,ah,e3,dJ,bO];omega
 ·refine hW _ fun e1 e2 e3=>?_
  simp [ht,ah,e3,aW,aT];omega
 cbv
 refine eE trv (VJ (by omega)) ?_
 cbv
 refine ld (by simp [ht]) ?_
 cbv
 refine cE [false,false,false,false,false,false,false,false,true] ?_
 cbv
 repeat (refine gI (by (simp;done)) ?_)
 refine ij (.vw 0 1 i1 ni w9 true) (fun _=>⟨?_,?_⟩) ?_
 ·refine hW _ fun e1 e2 e3=>?_
  simp [ht,ah,e3,dJ,bO];omega
 ·refine hW _ fun e1 e2 e3=>?_
  simp [ht,ah,e3,aW,aT];omega
 cbv
 repeat (refine gI (by (simp;done)) ?_)
 refine ij (.vw 0 1 i o7 ci true) (fun _=>⟨?_,?_⟩) ?_
 ·simp [ht,dJ,bO];omega
 ·simp [ht,aW,aT,tW,pN]
 cbv
 refine bH (bF (ni:Nat)) [.row 1 L1,.bt] ?_ ?_ ?_ ?_
 ·simp only [ht,eO]
  refine ⟨by omega,⟨by omega,?_⟩,?_⟩
  ·intro h;rw [h] at hn;simp at hn;omega
  intro r hr;exact aD r (List.mem_of_mem_drop (List.mem_of_mem_take hr))
 ·simp [ht,ah];omega
 ·simp only [ht,tX]
  rw [List.take_of_length_le (by simp;omega)]
 cbv
 refine bH (.vw 0 1 i o7 ci true) [.row 1 L1,.bt] ?_ ?_ rfl ?_
 ·simp [ht,dJ,bO];omega
 ·simp [ht,aW,aT,tW,pN]
 cbv
 refine bH (bF 1) [.row 1 r,.bt] ?_ ?_ ?_ ?_
 ·simp only [ht,eO]
  refine ⟨⟨by omega,?_⟩,?_⟩
  ·intro h;rw [h] at mF;simp at mF;omega
  intro r hr;have:=List.mem_of_mem_take hr;simp at this;rw [this];exact hrow
 ·simp [ht,ah];omega
 ·simp [ht,oG,show min 1 o7=1 by omega]
 cbv
 refine yQ [true] trv ?_ rfl rfl rfl ?_
 ·simp only [ht];omega
 simp only [ht];rw [←A8]
theorem HD (ht:TT t) {es:List (List D)} {x:D} {row:List D} {i n:Nat} (hn:n=es.length) (hi:i≤n) (aD:∀r∈es,r.length=1) (hrow:(x::row).length=1) (hs:n<1000000) {r:List (List D)} (hr:r=es.take i++(x::row)::es.drop i):
 FC 198 [.ow 0 1 n,bF (i:Int),SL [x::row]] [.row 1 es] (.ret (SL r)) [.dead]:=
 dR fun c hc hc0=>EM ht hn hi hc hc0 aD hrow hs hr
theorem EN (ht:TT t) {l:List aI} {x:aI} {k:Nat} {i:Int} (hi:i=k) (hk:k≤l.length) (hl:l.length<1000000):
 FC 198 [.ow 0 1 (t _ fun _=>(l.map bf).length),bF i,.cl [[.str x]]] [.row 1 (t _ fun _=>l.map bf)] (.ret (SL (t _ fun _=>(l.take k++x::l.drop k).map bf))) [.dead]:=by
 simp only [ht];subst hi
 refine oT (args':=[.ow 0 1 (l.map bf).length,bF k,SL [bf x]]) ?_ (HD ht (by simp) (by simpa using hk) ?_ rfl (by simpa using hl) (by simp))
 ·intro β w ok vs h
  simp only [ak] at h ⊢
  obtain ⟨u1,Y8,rfl,h1,u2,OI,rfl,h2,u3,VQ,rfl,h3,h4⟩:=h
  exact ⟨u1,_,rfl,h1,u2,_,rfl,h2,u3,VQ,rfl,LA h3,h4⟩
 intro r hr;obtain ⟨y,_,rfl⟩:=List.mem_map.1 hr;rfl
theorem HE (ht:TT t) (s:aI) (hs:s.length<1000000000000):FC 155 [ST s] [] (.ret (AK t (t _ fun _=>above s))) []:=by
 have hp:=ki s
 have hl:=iu s
 refine cL ht Tryz.func155 (N:=7) ?_
 cbv
 refine jV trv (LX ht s ‹_›) trv rfl (.inr rfl) ?_
 cbv
 refine dG [0] trv rfl rfl (EN ht (l:=mB s) (x:=[]) (k:=0) rfl (by omega) (by omega)) (cD ?_)
 cbv
 refine an ?_
 (simp [ht,above];done)
theorem Bc (ht:TT t) (s:aI) (hs:s.length<1000000000000):FC 125 [ST s] [] (.ret (dH (t _ fun _=>named s))) []:=by
 refine cL ht Tryz.func125 (N:=10) ?_
 cbv
 iterate 2 refine gI (by simp [ht]) ?_
 refine eR (fun g0=>⟨by simp [ht] at g0 ⊢;exact g0,trv,HC ht _ _ ‹_›⟩) rfl rfl (fun r1 cR=>?_)
 simp only [ht] at cR
 cbv
 refine pI (by simp [ht]) ?_
 refine an ?_
 (simp [named, *];done)
theorem Df (ht:TT t) (s:aI) (hs:s.length<1000000000000):FC 127 [ST s] [] (.ret (SK (t _ fun _=>parent s))) []:=by
 have hp:=ki s
 have hl:=iu s
 obtain ⟨ps,hps⟩:∃p,p=parent s:=⟨_,rfl⟩
 refine cL ht Tryz.func127 (N:=13) ?_
 cbv
 refine aC (HE ht _ ‹_›) trv (fun r0 c8=>?_)
 simp only [ht] at c8
 have hla:(r0).length=(parts s).length+1:=by rw [c8];simp [above,iu]
 have hpx:(r0)[(r0).length-2]?=some ps:=by rw [hps,c8,parent,List.getD_eq_getElem?_getD,List.getElem?_eq_getElem (by rw [c8] at hla;omega)];rfl
 cbv
 (refine yR ht (l:=r0) (cells:=bf) (cT:=eL t) (i:=r0.length-2) (x:=ps) (by simp only [ht];done) hpx (by simp only [ht,ah,lgM];rw [wrap64 (by omega) (by omega)];omega) (fun _=>rfl) (fun _=>rfl) ?_)
 cbv
 refine an ?_
 (simp [ht,hps];done)
def bc.bw (_:Th) (e:bc):List D:=[.str e.path,.int .u64 e.eX.a,.int .u64 e.eX.b,.int .u64 e.eX.c,.int .u64 e.eX.d,.int .u64 e.used.a,.int .u64 e.used.b,.int .u64 e.used.c,.int .u64 e.used.d]
def Yj (e:bc):AV:=.agg [ST e.path,aB e.eX.a,aB e.eX.b,aB e.eX.c,aB e.eX.d,aB e.used.a,aB e.used.b,aB e.used.c,aB e.used.d]
def Yk (r:bc×Bool):AV:=.dV [Yj r.1,BL r.2]
def UJ (t:Th) (l:List bc):AV:=SL (t _ fun _=>l.map bc.cells)
def Bd (t:Th) (r:List bc×Int):AV:=.dV [UJ t r.1,bF r.2]
theorem Ng (ht:TT t) (q:aI) {l:List (bc)} {es:List (List D)} (aD:es=l.map bc.cells) (f:Nat) (p:bc→Bool) (hl:l.length<9223372036854775807)
 (hf:∀x∈l,FC f [.agg [ST x.path,aB x.eX.a,aB x.eX.b,aB x.eX.c,aB x.eX.d,aB x.used.a,aB x.used.b,aB x.used.c,aB x.used.d],.ptr 0 0] [.var [ST q]] (.ret (BL (p x))) [.var [ST q]]) {r:Int} (hr:r=idxOf p l):FC 174 [SL es,.fn f [.ptr 0 0]] [.var [ST q]] (.ret (bF r)) [.var [ST q]]:=by
 have hel:es.length=l.length:=by rw [aD,lgM]
 refine kM ht (bC:=[.var [ST q]]) Tryz.func174 rfl rfl (N:=19) rfl rfl (n:=1) rfl rfl ?_
 cbv
 refine bE ⟨[0,1,7,8],[],[]⟩ (σ:=Nat) (fun k=>[(8,bF (t _ fun _=>(k:Int)))]) (fun _=>[]) (vL p l) ?_
 cbv
 refine aF ⟨l.length,0,.nil,by simp only [ht];rfl,fun n k hj=>?_⟩
 cbv
 apply ap<;>intro h
 ·simp only [ht,ah,decide_eq_true_eq] at h
  have hk:k<es.length:=by omega
  obtain ⟨x,hx,pK,px,hpx⟩:=hj.get (by omega)
  have iw:=hf x pK
  rw [←hpx] at iw
  obtain ⟨nm,⟨a,b,c,d⟩,⟨e,g,u,v⟩⟩:=x
  cbv
  refine iW [.str nm,.int .u64 a,.int .u64 b,.int .u64 c,.int .u64 d,.int .u64 e,.int .u64 g,.int .u64 u,.int .u64 v] ?_ ?_ ?_
  ·simp only [ht,ah];exact sB aD hk fun _=>rfl
  ·simp [ht,ah,aD,hx]
  cbv
  refine eE trv iw ?_
  cbv
  apply ap<;>intro hb
  ·cbv
   refine an ?_
   simp only [ht,ah,hr,hj.hit hx (hpx▸hb)]
  cbv
  refine aF ⟨n-1,k+1,⟨hj.lt hx,hj.next hx (hpx▸hb)⟩,?_⟩
  simp only [ht,ah,aE (show k<9223372036854775807 by omega)];rfl
 simp only [ht,ah,decide_eq_false_iff_not] at h
 have hk:l.length≤k:=by omega
 clear h
 cbv
 refine an ?_
 rw [hr,hj.none hk]
theorem Nh (ht:TT t) (q:aI) (x:bc):FC 175 [.agg [ST x.path,aB x.eX.a,aB x.eX.b,aB x.eX.c,aB x.eX.d,aB x.used.a,aB x.used.b,aB x.used.c,aB x.used.d],.ptr 0 0] [.var [ST q]] (.ret (BL (decide (x.path=q)))) [.var [ST q]]:=by
 obtain ⟨nm,⟨a,b,c,d⟩,⟨e,g,u,v⟩⟩:=x
 refine kM ht (bC:=[.var [ST q]]) Tryz.func175 rfl rfl (N:=8) rfl rfl (n:=1) rfl rfl ?_
 cbv
 refine an ?_
 simp [ht]
theorem lT (ht:TT t) (q:aI) {l:List bc} {es:List (List D)} (aD:es=l.map bc.cells) (hl:l.length<1000000000):
 FC 126 [SL es,ST q] [] (.ret (kS (t _ fun _=>bU l q))) []:=by
 obtain ⟨r,hr⟩:∃r,r=bU l q:=⟨_,rfl⟩
 refine cL ht Tryz.func126 (N:=8) ?_
 cbv
 refine eE trv (Ng ht q aD 175 (fun x=>decide (x.path=q)) (by omega) (fun x _=>Nh ht q x) (r:=r) hr) ?_
 cbv
 exact an (by simp [ht,hr])
theorem EO {l:List bc} {q:aI} {r:Int} (h:r=bU l q):(r=-1∧qD l q=(bc.zero,false))∨∃(k:Nat) (x:bc),r=k∧k<l.length∧l[k]?=some x∧qD l q=(x,true):=by
 rcases cC (p:=fun e:bc=>decide (e.path=q)) (l:=l) (r:=r) h with ⟨e1,e2,e3⟩|⟨i,x,hi,hil,e1,e2,e3,e4⟩
 ·exact .inl ⟨e1,by simp [qD,e3]⟩
 exact .inr ⟨i,x,hi,hil,e1,by simp [qD,e4]⟩
theorem Qu (ht:TT t) (q:aI) {l:List bc} {es:List (List D)} (aD:es=l.map bc.cells) (hl:l.length<1000000000):
 FC 180 [SL es,ST q] [] (.ret (Yk (t _ fun _=>qD l q))) []:=by
 refine cL ht Tryz.func180 (N:=17) ?_
 cbv
 have aQ:es.length=l.length:=by rw [aD,lgM]
 refine aP (lT ht _ ‹_› ‹_›) trv (fun r0 c8=>?_)
 simp only [ht] at c8
 have ec:=EO c8
 clear c8
 rcases ec with ⟨e1,e2⟩|⟨i,x,hi,hil,e1,e2⟩
 ·cbv
  apply ap<;>intro h1
  ·simp [ht] at h1
   cbv
   refine an ?_
   (simp [ht,e2,bc.zero,bG.zero];done)
  simp [ht] at h1
  omega
 cbv
 apply ap<;>intro h2
 ·simp [ht] at h2
  (simp only [ah] at*;omega)
 simp [ht] at h2
 cbv
 refine yR ht aD (cT:=bc.bw t) e1 ‹_› (fun _=>rfl) (fun _=>rfl) ?_
 cbv
 refine an ?_
 (simp [ht,e2];done)
theorem Ti (ht:TT t) (a b c d:Int):FC 90 [V4 a b c d] [] (.ret (UJ t (t _ fun _=>[⟨[],⟨a,b,c,d⟩,bG.zero⟩]))) []:=by
 refine cL ht Tryz.func90 (N:=6) ?_
 cbv
 refine an ?_
 (simp [ht,bG.zero];done)
def Jb.bw (t:Th) (j:Jb):List D:=[.int .u64 j.id,.str j.x.path,.int .u64 j.x.fY.a,.int .u64 j.x.fY.b,.int .u64 j.x.fY.c,.int .u64 j.x.fY.d,.int .i64 j.x.count,.int .i64 j.x.prio,.int .i64 j.x.eI,.sl (t _ fun _=>j.x.cg.map Term.cells),.bool j.runs,.int .i64 j.left]
def EJb (t:Th) (j:Jb):AV:=.agg [aB j.id,ST j.x.path,aB j.x.fY.a,aB j.x.fY.b,aB j.x.fY.c,aB j.x.fY.d,bF j.x.count,bF j.x.prio,bF j.x.eI,SL (t _ fun _=>j.x.cg.map Term.cells),BL j.runs,bF j.left]
def VU (t:Th) (r:Jb×Bool):AV:=.dV [EJb t r.1,BL r.2]
theorem HF (ht:TT t) (id:Int) {l:List (Jb)} {es:List (List D)} (aD:es=l.map Jb.cells) (f:Nat) (p:Jb→Bool) (hl:l.length<9223372036854775807)
 (hf:∀x∈l,FC f [.agg [aB x.id,ST x.x.path,aB x.x.fY.a,aB x.x.fY.b,aB x.x.fY.c,aB x.x.fY.d,bF x.x.count,bF x.x.prio,bF x.x.eI,SL (x.x.cg.map Term.cells),BL x.runs,bF x.left],.ptr 0 0] [.var [aB id]] (.ret (BL (p x))) [.var [aB id]]) {r:Int} (hr:r=idxOf p l):FC 70 [SL es,.fn f [.ptr 0 0]] [.var [aB id]] (.ret (bF r)) [.var [aB id]]:=by
 have hel:es.length=l.length:=by rw [aD,lgM]
 refine kM ht (bC:=[.var [aB id]]) Tryz.func70 rfl rfl (N:=19) rfl rfl (n:=1) rfl rfl ?_
 cbv
 refine bE ⟨[0,1,7,8],[],[]⟩ (σ:=Nat) (fun k=>[(8,bF (t _ fun _=>(k:Int)))]) (fun _=>[]) (vL p l) ?_
 cbv
 refine aF ⟨l.length,0,.nil,by simp only [ht];rfl,fun n k hj=>?_⟩
 cbv
 apply ap<;>intro h
 ·simp only [ht,ah,decide_eq_true_eq] at h
  have hk:k<es.length:=by omega
  obtain ⟨x,hx,pK,px,hpx⟩:=hj.get (by omega)
  have iw:=hf x pK
  rw [←hpx] at iw
  obtain ⟨id',⟨p',⟨a',b',c',d'⟩,n',WT,Lf,sq⟩,WU,WV⟩:=x;obtain ⟨Ht,mG⟩:∃lr:List (List D),lr=sq.map Term.cells:=⟨_,rfl⟩;simp only [←mG] at iw
  cbv
  refine iW [.int .u64 id',.str p',.int .u64 a',.int .u64 b',.int .u64 c',.int .u64 d',.int .i64 n',.int .i64 WT,.int .i64 Lf,.sl Ht,.bool WU,.int .i64 WV] ?_ ?_ ?_
  ·simp only [ht,ah];exact sB aD hk fun _=>rfl
  ·simp [ht,ah,aD,hx,mG,Jb.cells]
  cbv
  refine eE trv iw ?_
  cbv
  apply ap<;>intro hb
  ·cbv
   refine an ?_
   simp only [ht,ah,hr,hj.hit hx (hpx▸hb)]
  cbv
  refine aF ⟨n-1,k+1,⟨hj.lt hx,hj.next hx (hpx▸hb)⟩,?_⟩
  simp only [ht,ah,aE (show k<9223372036854775807 by omega)];rfl
 simp only [ht,ah,decide_eq_false_iff_not] at h
 have hk:l.length≤k:=by omega
 clear h
 cbv
 refine an ?_
 rw [hr,hj.none hk]
theorem Ni (ht:TT t) (id i n k l a b c d:Int) (p:aI) (sr:List (List D)) (rn:Bool) (lf:Int):FC 99 [.agg [aB i,ST p,aB a,aB b,aB c,aB d,bF n,bF k,bF l,SL sr,BL rn,bF lf],.ptr 0 0] [.var [aB id]] (.ret (BL (decide (i=id)))) [.var [aB id]]:=by
 refine kM ht (bC:=[.var [aB id]]) Tryz.func99 rfl rfl (N:=8) rfl rfl (n:=1) rfl rfl ?_
 cbv
 refine an ?_
 simp [ht]
theorem rY (ht:TT t) (id rd nx ef af:Int) (ns ps ts qs el al:List (List D)) {l:List Jb} {es:List (List D)} (aD:es=l.map Jb.cells) (hl:l.length<1000000000):
 FC 43 [.agg [aB rd,aB nx,SL ns,SL ps,SL ts,SL es,SL qs,aB ef,SL el,aB af,SL al],aB id] [] (.ret (kS (t _ fun _=>Ew l id))) []:=by
 obtain ⟨r,hr⟩:∃r,r=Ew l id:=⟨_,rfl⟩
 refine cL ht Tryz.func43 (N:=9) ?_
 cbv
 refine dG [1] trv rfl rfl (HF ht id aD 99 (fun x=>decide (x.id=id)) (by omega) (fun x _=>Ni ht id _ _ _ _ _ _ _ _ _ _ _ _) (r:=r) hr) (cD ?_)
 cbv
 exact an (by simp [ht,hr])
theorem mH (ht:TT t) (id rd nx ef af:Int) (ns ps ts qs el al:List (List D)) {l:List Jb} {es:List (List D)} (aD:es=l.map Jb.cells) (hl:l.length<1000000000):
 FC 17 [.agg [aB rd,aB nx,SL ns,SL ps,SL ts,SL es,SL qs,aB ef,SL el,aB af,SL al],aB id] [] (.ret (VU t (t _ fun _=>bD l id))) []:=by
 refine cL ht Tryz.func17 (N:=18) ?_
 cbv
 have aQ:es.length=l.length:=by rw [aD,lgM]
 refine aP (rY ht _ _ _ _ _ _ _ _ _ _ _ ‹_› ‹_›) trv (fun r0 c8=>?_)
 simp only [ht] at c8
 have ec:=cC c8
 clear c8
 rcases ec with ⟨e1,e2,e3⟩|⟨i,x,hi,hil,e1,e2,e3,e4⟩
 ·cbv
  apply ap<;>intro h1
  ·simp [ht] at h1
   cbv
   refine an ?_
   (simp [ht,bD,e3,Jb.zero,Ask.zero,bG.zero];done)
  simp [ht] at h1
  omega
 cbv
 apply ap<;>intro h2
 ·simp [ht] at h2
  (simp only [ah] at*;omega)
 simp [ht] at h2
 cbv
 refine yR ht aD (cT:=Jb.bw t) e1 ‹_› (fun _=>rfl) (fun _=>(by (simp only [ht,Jb.bw];rfl))) ?_
 cbv
 refine an ?_
 (simp [ht,bD,e4];done)
theorem Nj (ht:TT t) (ts:List (List D)) {l:List (aI)} {es:List (List D)} (aD:es=l.map bf) (f:Nat) (p:aI→Bool) (hl:l.length<9223372036854775807)
 (hf:∀x∈l,FC f [.d (.str x),.ptr 0 0] [.var [SL ts]] (.ret (BL (p x))) [.var [SL ts]]) {r:Int} (hr:r=idxOf p l):FC 199 [SL es,.fn f [.ptr 0 0]] [.var [SL ts]] (.ret (bF r)) [.var [SL ts]]:=by
 have hel:es.length=l.length:=by rw [aD,lgM]
 refine kM ht (bC:=[.var [SL ts]]) Tryz.func199 rfl rfl (N:=19) rfl rfl (n:=1) rfl rfl ?_
 cbv
 refine bE ⟨[0,1,7,8],[],[]⟩ (σ:=Nat) (fun k=>[(8,bF (t _ fun _=>(k:Int)))]) (fun _=>[]) (vL p l) ?_
 cbv
 refine aF ⟨l.length,0,.nil,by simp only [ht];rfl,fun n k hj=>?_⟩
 cbv
 apply ap<;>intro h
 ·simp only [ht,ah,decide_eq_true_eq] at h
  have hk:k<es.length:=by omega
  obtain ⟨x,hx,pK,px,hpx⟩:=hj.get (by omega)
  have iw:=hf x pK
  rw [←hpx] at iw
  skip
  cbv
  refine iW [.str x] ?_ ?_ ?_
  ·simp only [ht,ah];exact sB aD hk fun _=>rfl
  ·simp [ht,ah,aD,hx]
  cbv
  refine eE trv iw ?_
  cbv
  apply ap<;>intro hb
  ·cbv
   refine an ?_
   simp only [ht,ah,hr,hj.hit hx (hpx▸hb)]
  cbv
  refine aF ⟨n-1,k+1,⟨hj.lt hx,hj.next hx (hpx▸hb)⟩,?_⟩
  simp only [ht,ah,aE (show k<9223372036854775807 by omega)];rfl
 simp only [ht,ah,decide_eq_false_iff_not] at h
 have hk:l.length≤k:=by omega
 clear h
 cbv
 refine an ?_
 rw [hr,hj.none hk]
theorem Nk (ht:TT t) (ts:List (List D)) {l:List (aI)} {es:List (List D)} (aD:es=l.map bf) (f:Nat) (p:aI→Bool) (hl:l.length<9223372036854775807)
 (hf:∀x∈l,FC f [.d (.str x),.ptr 0 0] [.var [SL ts]] (.ret (BL (p x))) [.var [SL ts]]) {r:Bool} (hr:r=l.any p):FC 156 [SL es,.fn f [.ptr 0 0]] [.var [SL ts]] (.ret (BL r)) [.var [SL ts]]:=by
 obtain ⟨k,hk⟩:∃k,k=idxOf p l:=⟨_,rfl⟩
 refine kM ht (bC:=[.var [SL ts]]) Tryz.func156 rfl rfl (N:=9) rfl rfl (n:=1) rfl rfl ?_
 cbv
 refine eE trv (Nj ht ts aD f p hl hf hk) ?_
 cbv
 refine an ?_
 simp only [ht,hr,iR,hk]
theorem Qv (ht:TT t) (q:aI) {l:List bc} {es:List (List D)} (aD:es=l.map bc.cells) (hl:l.length<1000000000) {r:Bool} (hr:r=!(qD l q).2):
 FC 179 [ST q,.ptr 0 0] [.var [SL es]] (.ret (BL r)) [.var [SL es]]:=by
 refine kM ht (bC:=[.var [SL es]]) Tryz.func179 rfl rfl (N:=14) rfl rfl (n:=1) rfl rfl ?_
 cbv
 have aQ:es.length=l.length:=by rw [aD,lgM]
 refine aP (Qu ht _ ‹_› ‹_›) trv (fun r0 c8=>?_)
 simp only [ht] at c8
 cbv
 refine an ?_
 (simp [*];done)
theorem Dg (ht:TT t) (p:aI) {l:List bc} {es:List (List D)} (aD:es=l.map bc.cells) (hl:l.length<1000000000) (hp:p.length<1000000000000):
 FC 133 [SL es,ST p] [] (.ret (dH (t _ fun _=>jH l p))) []:=by
 have h1:=ki p
 have h2:=iu p
 obtain ⟨ws,hws⟩:∃ws,ws=mB p++[[]]:=⟨_,rfl⟩
 obtain ⟨r9,jP⟩:∃r,r=ws.any (fun q=>!(qD l q).2):=⟨_,rfl⟩
 refine cL ht Tryz.func133 (N:=12) ?_
 cbv
 have aQ:es.length=l.length:=by rw [aD,lgM]
 refine jV trv (LX ht p ‹_›) trv rfl (.inr rfl) ?_
 cbv
 refine ⟨?_,?_⟩
 ·(simp only [ht];grind)
 cbv
 (refine UA (v:=BL r9) trv rfl (by simp [ht]) (by exact dD [0] rfl rfl rfl rfl (Nk ht es (l:=ws) (by simp only [ht,hws];simp) 179 (fun q=>!(qD l q).2) (by rw [hws];simp;omega) (fun x _=>Qv ht x aD hl rfl) jP)) ?_)
 cbv
 refine an ?_
 (simp only [ht,jH,←hws,←jP];done)
end Dem
end
