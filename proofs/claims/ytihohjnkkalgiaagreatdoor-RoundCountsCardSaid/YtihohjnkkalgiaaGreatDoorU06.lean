/- Parts of a proof, joined. -/
import Derived.Test.YtihohjnkkalgiaaGreatDoorU05
import Derived.Laws.Externs
import Derived.Shelf.Strings.OnBuilder
import Derived.Test.YtihohjnkkalgiaaGreatDoorProg
import Derived.Lib.Mul64
set_option linter.all false
set_option maxRecDepth 100000
set_option maxHeartbeats 4000000
section
open Go Dem Go.Proofs
namespace Dem
variable {t:Th}
theorem HL (ht:TT t) {es:List (List D)} (aC:∀r∈es,r.length=7) (hs:es.length*80≤140737488355328) {m:Nat} (hm:m=es.length):
 FC 147 [SL es] [] (.ret (.ow 0 7 m)) [.row 7 es]:=by
 refine cr ht Tryz.func147 (N:=8) ?_
 cbv
 refine ⟨fun b hb=>?_⟩
 simp only [ht] at hb
 cbv
 apply ap<;>intro h
 ·have he:=hb h
  subst he
  cbv
  exact He trv rfl rfl (by rw [hm];rfl) rfl
 clear hb h
 cbv
 refine ⟨?_,?_⟩
 ·simp only [ht];simp;exact ⟨hs,aC⟩
 refine CD trv rfl rfl rfl rfl ?_ ?_
 ·simp only [ht];rw [hm];simp
 simp only [ht];rfl
theorem vW (ht:TT t) {es:List (List D)} (aC:∀r∈es,r.length=6) (hs:es.length*56≤140737488355328) {m:Nat} (hm:m=es.length):
 FC 118 [SL es] [] (.ret (.ow 0 6 m)) [.row 6 es]:=by
 refine cr ht Tryz.func118 (N:=8) ?_
 cbv
 refine ⟨fun b hb=>?_⟩
 simp only [ht] at hb
 cbv
 apply ap<;>intro h
 ·have he:=hb h
  subst he
  cbv
  exact He trv rfl rfl (by rw [hm];rfl) rfl
 clear hb h
 cbv
 refine ⟨?_,?_⟩
 ·simp only [ht];simp;exact ⟨hs,aC⟩
 refine CD trv rfl rfl rfl rfl ?_ ?_
 ·simp only [ht];rw [hm];simp
 simp only [ht];rfl
theorem CK (ht:TT t) {es:List (List D)} {x:D} {row:List D} {i n c:Nat} (hn:n=es.length) (hi:i≤n) (hc:n≤c) (hc0:n=0→c=0) (aC:∀r∈es,r.length=7) (hrow:(x::row).length=7) (hs:n<1000000) {r:List (List D)} (hr:r=es.take i++(x::row)::es.drop i):
 FC 146 [.vw 0 7 0 n c true,bD (i:Int),SL [x::row]] [.row 7 es] (.ret (SL r)) [.dead]:=by
 obtain ⟨n1,Cx⟩:∃n1,n1=n+1:=⟨_,rfl⟩
 obtain ⟨i1,hi1⟩:∃i1,i1=i+1:=⟨_,rfl⟩
 obtain ⟨ni,hni⟩:∃ni,ni=n-i:=⟨_,rfl⟩
 obtain ⟨ci,qg⟩:∃ci,ci=c-i:=⟨_,rfl⟩
 obtain ⟨xy,Kj⟩:∃xy,xy=c-i1:=⟨_,rfl⟩
 obtain ⟨pL,uv⟩:∃pL,pL=n1-i:=⟨_,rfl⟩
 have hW:∀P:Prop,((IntKind.i64.wrap ((n:Int)+1)=(n1:Int))→(IntKind.i64.wrap ((n1:Int)-(i:Int))=(pL:Int))→(IntKind.i64.wrap ((i:Int)+1)=(i1:Int))→P)→P:=
  fun P h=>h (by rw [wrap64 (by omega) (by omega)];omega) (by rw [wrap64 (by omega) (by omega)];omega) (by rw [wrap64 (by omega) (by omega)];omega)
 have hrl:r.length=n1:=by rw [hr,List.length_append,List.length_cons,List.length_take,List.length_drop];omega
 have Ww:n≠0→FC 188 [SL [x::row],.vw 0 7 i1 ni xy true] [.row 7 es] (.ret (BL false)) [.row 7 es]:=fun h0=>
  iG Ql Tryz.func188 rfl rfl rfl rfl (tS:=25) (tR:=4) rfl rfl (by intro h;rw [h] at hn;exact h0 hn)
 refine jG ht (bz:=[.row 7 es]) Tryz.func146 rfl rfl (N:=95) rfl rfl (n:=1) rfl rfl ?_
 cbv
 refine bF (.vw 0 7 i ni ci true) [.row 7 es] ?_ ?_ rfl ?_
 ·simp [ht,dR,bN];omega
 ·simp [ht,aV,aP,hni,qg]
 cbv
 refine pX (by simp [ht]) ?_
 cbv
 apply ap<;>intro h
 ·have hin:i=n:=by simp [ht,ah] at h;omega
  clear h
  cbv
  refine bF (.ow 1 7 n1) [.dead,.row 7 r] ?_ ?_ ?_ ?_
  ·simp only [ht]
   refine ⟨⟨hn,by simp;omega,?_⟩,rfl,hn,fun h=>⟨hc0 (by rw [hn,h];rfl),rfl⟩⟩
   intro r hr
   rcases List.mem_append.1 hr with hr|hr
   ·exact aC r hr
   simp at hr;subst hr;exact hrow
  ·simp [ht,Cx,hn]
  ·simp only [ht];rw [hr]
   have:i=es.length:=by omega
   subst this;simp
  cbv
  refine lQ trv ?_ rfl rfl rfl rfl
  simp only [ht];exact hrl.symm
 have hin:i<n:=by simp [ht,ah] at h;omega
 clear h
 have BD:r=(r.drop 0).take n1:=by rw [List.drop_zero,List.take_of_length_le (by omega)]
 cbv
 apply ap<;>intro h2
 ·have Wx:c=n:=by
   refine hW _ fun e1 e2 e3=>?_
   simp [ht,ah,e1] at h2;omega
  clear h2
  obtain ⟨L,hL⟩:∃L:List (List D),L=es.take i++List.replicate (es.length+1-i) [D.str [],D.int IntKind.u64 0,D.int IntKind.u64 0,D.int IntKind.u64 0,D.int IntKind.u64 0,D.sl [],D.bool false]:=⟨_,rfl⟩
  have I1:L.length=n1:=by rw [hL];simp;omega
  obtain ⟨L1,uw⟩:∃L1,L1=wrote L i [x::row]:=⟨_,rfl⟩
  have mJ:L1.length=n1:=by rw [uw];simp [wrote,I1];omega
  have oN:r=wrote L1 i1 (es.drop i):=by rw [hi1,uw,hL,vV (by omega),hr]
  cbv
  refine bF (.vw 0 7 0 i c true) [.row 7 es] ?_ ?_ rfl ?_
  ·simp [ht,dR,bN];omega
  ·simp [ht,aV,aP]
  cbv
  refine bF (.vw 1 7 0 n1 n1 false) [.row 7 es,.row 7 L] ?_ ?_ ?_ ?_
  ·refine hW _ fun e1 e2 e3=>?_
   simp [ht,ah,e1,e2];omega
  ·refine hW _ fun e1 e2 e3=>?_
   simp [ht,ah,e1,e2];omega
  ·refine hW _ fun e1 e2 e3=>?_
   simp [ht,ah,e1,e2,hL];omega
  cbv
  refine bF (.vw 1 7 i pL pL false) [.row 7 es,.row 7 L] ?_ ?_ rfl ?_
  ·simp [ht,dR,bN];omega
  ·simp [ht,aV,aP,uv]
  cbv
  refine bF (bD 1) [.row 7 es,.row 7 L1] ?_ ?_ ?_ ?_
  ·simp only [ht,eR]
   refine ⟨⟨by omega,?_⟩,?_⟩
   ·intro h;rw [h] at I1;simp at I1;omega
   intro r hr;have:=List.mem_of_mem_take hr;simp at this;rw [this];exact hrow
  ·simp [ht,ah];omega
  ·simp [ht,uw,show min 1 pL=1 by omega]
  cbv
  refine bS [false,false,false,false,false,false,false,false,true] ?_
  cbv
  repeat (refine gI (by (simp;done)) ?_)
  refine iy (.vw 1 7 i1 ni ni false) (fun _=>⟨?_,?_⟩) ?_
  ·refine hW _ fun e1 e2 e3=>?_
   simp [ht,ah,e3,dR,bN];omega
  ·refine hW _ fun e1 e2 e3=>?_
   simp [ht,ah,e3,aV,aP];omega
  cbv
  repeat (refine gI (by (simp;done)) ?_)
  refine iy (.vw 0 7 i ni ci true) (fun _=>⟨?_,?_⟩) ?_
  ·simp [ht,dR,bN];omega
  ·simp [ht,aV,aP,hni,qg]
  cbv
  refine bF (bD (ni:Nat)) [.row 7 es,.row 7 r,.bq] ?_ ?_ ?_ ?_
  ·simp only [ht,eR]
   refine ⟨by omega,⟨by omega,?_⟩,?_⟩
   ·intro h;rw [h] at mJ;simp at mJ;omega
   intro r hr;exact aC r (List.mem_of_mem_drop (List.mem_of_mem_take hr))
  ·simp [ht,ah]
  ·simp only [ht,oN]
   rw [List.take_of_length_le (by simp;omega)]
  cbv
  refine zw [true] trv ?_ rfl rfl rfl ?_
  ·simp only [ht];omega
  simp only [ht];rw [←BD]
 have Wx:n<c:=by
  refine hW _ fun e1 e2 e3=>?_
  simp [ht,ah,e1] at h2;omega
 clear h2
 obtain ⟨L1,uw⟩:∃L1,L1=wrote es i1 (es.drop i):=⟨_,rfl⟩
 have oN:r=wrote L1 i [x::row]:=by rw [uw,hi1,E2 (by omega),hr]
 have mJ:L1.length=n1:=by rw [uw];simp [wrote];omega
 cbv
 refine bF (.vw 0 7 0 n1 c true) [.row 7 es] ?_ ?_ rfl ?_
 ·refine hW _ fun e1 e2 e3=>?_
  simp [ht,ah,e1,dR,bN];omega
 ·refine hW _ fun e1 e2 e3=>?_
  simp [ht,ah,e1,aV,aP]
 cbv
 refine bF (.vw 0 7 i1 ni xy true) [.row 7 es] ?_ ?_ rfl ?_
 ·refine hW _ fun e1 e2 e3=>?_
  simp [ht,ah,e3,dR,bN];omega
 ·refine hW _ fun e1 e2 e3=>?_
  simp [ht,ah,e3,aV,aP];omega
 cbv
 refine dx trv (Ww (by omega)) ?_
 cbv
 refine lA (by simp [ht]) ?_
 cbv
 refine bS [false,false,false,false,false,false,false,false,true] ?_
 cbv
 repeat (refine gI (by (simp;done)) ?_)
 refine iy (.vw 0 7 i1 ni xy true) (fun _=>⟨?_,?_⟩) ?_
 ·refine hW _ fun e1 e2 e3=>?_
  simp [ht,ah,e3,dR,bN];omega
 ·refine hW _ fun e1 e2 e3=>?_
  simp [ht,ah,e3,aV,aP];omega
 cbv
 repeat (refine gI (by (simp;done)) ?_)
 refine iy (.vw 0 7 i pL ci true) (fun _=>⟨?_,?_⟩) ?_
 ·simp [ht,dR,bN];omega
 ·simp [ht,aV,aP,uv,qg]
 cbv
 refine bF (bD (ni:Nat)) [.row 7 L1,.bq] ?_ ?_ ?_ ?_
 ·simp only [ht,eR]
  refine ⟨by omega,⟨by omega,?_⟩,?_⟩
  ·intro h;rw [h] at hn;simp at hn;omega
  intro r hr;exact aC r (List.mem_of_mem_drop (List.mem_of_mem_take hr))
 ·simp [ht,ah];omega
 ·simp only [ht,uw]
  rw [List.take_of_length_le (by simp;omega)]
 cbv
 refine bF (.vw 0 7 i pL ci true) [.row 7 L1,.bq] ?_ ?_ rfl ?_
 ·simp [ht,dR,bN];omega
 ·simp [ht,aV,aP,uv,qg]
 cbv
 refine bF (bD 1) [.row 7 r,.bq] ?_ ?_ ?_ ?_
 ·simp only [ht,eR]
  refine ⟨⟨by omega,?_⟩,?_⟩
  ·intro h;rw [h] at mJ;simp at mJ;omega
  intro r hr;have:=List.mem_of_mem_take hr;simp at this;rw [this];exact hrow
 ·simp [ht,ah];omega
 ·simp [ht,oN,show min 1 pL=1 by omega]
 cbv
 refine zw [true] trv ?_ rfl rfl rfl ?_
 ·simp only [ht];omega
 simp only [ht];rw [←BD]
theorem E3 (ht:TT t) {es:List (List D)} {x:D} {row:List D} {i n:Nat} (hn:n=es.length) (hi:i≤n) (aC:∀r∈es,r.length=7) (hrow:(x::row).length=7) (hs:n<1000000) {r:List (List D)} (hr:r=es.take i++(x::row)::es.drop i):
 FC 146 [.ow 0 7 n,bD (i:Int),SL [x::row]] [.row 7 es] (.ret (SL r)) [.dead]:=
 dX fun c hc hc0=>CK ht hn hi hc hc0 aC hrow hs hr
theorem HM (ht:TT t) (bu:Int) {l:List (Place)} {es:List (List D)} (aC:es=l.map Place.cells) (f:Nat) (p:Place→Bool) (hl:l.length<9223372036854775807)
 (hf:∀x∈l,FC f [.agg [.d (.int .u64 x.bu),.d (.str x.node),.d (.int .u64 x.v.a),.d (.int .u64 x.v.b),.d (.int .u64 x.v.c),.d (.int .u64 x.v.d)],.ptr 1 0] [.var [.d (.int .u64 bu)],.var [.fn 161 [.ptr 0 0]]] (.ret (BL (p x))) [.var [.d (.int .u64 bu)],.var [.fn 161 [.ptr 0 0]]]) {r:Int} (hr:r=idxOf p l):FC 173 [SL es,.fn f [.ptr 1 0]] [.var [.d (.int .u64 bu)],.var [.fn 161 [.ptr 0 0]]] (.ret (bD r)) [.var [.d (.int .u64 bu)],.var [.fn 161 [.ptr 0 0]]]:=by
 have hel:es.length=l.length:=by rw [aC,lgM]
 refine jG ht (bz:=[.var [.d (.int .u64 bu)],.var [.fn 161 [.ptr 0 0]]]) Tryz.func173 rfl rfl (N:=19) rfl rfl (n:=2) rfl rfl ?_
 cbv
 refine bA ⟨[0,1,7,8],[],[]⟩ (σ:=Nat) (fun k=>[(8,bD (t _ fun _=>(k:Int)))]) (fun _=>[]) (tF p l) ?_
 cbv
 refine aE ⟨l.length,0,.nil,by simp only [ht];rfl,fun n k hj=>?_⟩
 cbv
 apply ap<;>intro h
 ·simp only [ht,ah,decide_eq_true_eq] at h
  have hk:k<es.length:=by omega
  obtain ⟨x,hx,mQ,px,hpx⟩:=hj.get (by omega)
  have gJ:=hf x mQ
  rw [←hpx] at gJ
  obtain ⟨jb,nd,⟨v1,v2,v3,v4⟩⟩:=x
  cbv
  refine ix [.int .u64 jb,.str nd,.int .u64 v1,.int .u64 v2,.int .u64 v3,.int .u64 v4] ?_ ?_ ?_
  ·simp only [ht,ah];exact pK aC hk fun _=>rfl
  ·simp [ht,ah,aC,hx]
  cbv
  refine dx trv gJ ?_
  cbv
  apply ap<;>intro hb
  ·cbv
   refine an ?_
   simp only [ht,ah,hr,hj.hit hx (hpx▸hb)]
  cbv
  refine aE ⟨n-1,k+1,⟨hj.lt hx,hj.next hx (hpx▸hb)⟩,?_⟩
  simp only [ht,ah,aB (show k<9223372036854775807 by omega)];rfl
 simp only [ht,ah,decide_eq_false_iff_not] at h
 have hk:l.length≤k:=by omega
 clear h
 cbv
 refine an ?_
 rw [hr,hj.none hk]
theorem HN (ht:TT t) (bu:Int) {l:List (Place)} {es:List (List D)} (aC:es=l.map Place.cells) {m c:Nat} (hm:m=l.length) (hc:m≤c) (f:Nat) (p:Place→Bool) (hl:l.length<9223372036854775807)
 (hf:∀x∈l,FC f [.agg [.d (.int .u64 x.bu),.d (.str x.node),.d (.int .u64 x.v.a),.d (.int .u64 x.v.b),.d (.int .u64 x.v.c),.d (.int .u64 x.v.d)],.ptr 1 0] [.var [.d (.int .u64 bu)],.var [.fn 161 [.ptr 0 0]]] (.ret (BL (p x))) [.var [.d (.int .u64 bu)],.var [.fn 161 [.ptr 0 0]]]) {r:List (List D)} (hr:r=(l.filter (fun x=>!p x)).map Place.cells):
 FC 200 [.vw 2 6 0 m c true,.fn f [.ptr 1 0]] [.var [.d (.int .u64 bu)],.var [.fn 161 [.ptr 0 0]],.row 6 es] (.ret (SL r)) [.var [.d (.int .u64 bu)],.var [.fn 161 [.ptr 0 0]],.dead]:=by
 have hel:es.length=m:=by rw [aC,lgM,hm]
 have hrows:∀r∈es,r.length=6:=by rw [aC];intro r hr;obtain ⟨y,_,rfl⟩:=List.mem_map.1 hr;rfl
 obtain ⟨k,hk⟩:∃k,k=idxOf p l:=⟨_,rfl⟩
 have QJ:(t (List (List D)) fun _=>(es.drop 0).take m)=l.map Place.cells:=by simp only [ht];rw [List.drop_zero,List.take_of_length_le (by omega),aC]
 have hidx:=HM ht bu QJ f p hl hf hk
 obtain ⟨J,hJ⟩:∃J:Nat→Nat×Nat×List (List D)→Prop,∀n v,J n v↔(v.2.1+n=m∧v.1<v.2.1∧v.2.2.length=m∧(∀r∈v.2.2,r.length=6)∧v.2.2.take v.1=((l.take v.2.1).filter (fun x=>!p x)).map Place.cells∧v.2.2.drop v.2.1=es.drop v.2.1):=⟨fun n v=>v.2.1+n=m∧v.1<v.2.1∧v.2.2.length=m∧(∀r∈v.2.2,r.length=6)∧v.2.2.take v.1=((l.take v.2.1).filter (fun x=>!p x)).map Place.cells∧v.2.2.drop v.2.1=es.drop v.2.1,fun _ _=>Iff.rfl⟩
 refine jG ht (bz:=[.var [.d (.int .u64 bu)],.var [.fn 161 [.ptr 0 0]],.row 6 es]) Tryz.func200 rfl rfl (N:=42) rfl rfl (n:=3) rfl rfl ?_
 cbv
 refine Qn (TT.eq ht) (v:=bD k) [false,false,true] [0,1] trv rfl ?_ rfl rfl rfl rfl rfl rfl rfl hidx ?_
 ·simp [ht];omega
 cbv
 apply ap<;>intro h
 ·have wF:k=-1:=by simp [ht] at h;exact h
  have hnone:=nY (hk▸wF:idxOf p l=-1)
  clear h
  cbv
  refine zw [false,false,true] trv ?_ rfl rfl rfl ?_
  ·simp only [ht];omega
  simp only [ht,hr];rw [filter_all hnone,←aC,List.drop_zero,List.take_of_length_le (by omega)]
 have wF:k≠-1:=by simp [ht] at h;exact h
 clear h
 obtain ⟨i0,x0,Vx,hx0,Ze,hb0⟩:=nZ (hk▸wF:idxOf p l≠-1)
 rw [←hk] at Vx
 subst Vx
 have Zf:i0<m:=by rw [hm];exact (List.getElem?_eq_some_iff.1 hx0).1
 cbv
 refine bA ⟨[0,1,5,6],[],[]⟩ (σ:=Nat×Nat×List (List D)) (fun v=>[(5,bD (t _ fun _=>(v.1:Int))),(6,bD (t _ fun _=>(v.2.1:Int)))]) (fun v=>[(2,.row 6 (t _ fun _=>v.2.2))]) J ?_
 cbv
 refine aE ⟨m-(i0+1),(i0,i0+1,es),(hJ _ _).2 ⟨?_,?_,hel,hrows,?_,rfl⟩,by simp only [ht,ah,Int.ofNat_eq_natCast,aB (show i0<9223372036854775807 by omega)];rfl,?_⟩
 ·show i0+1+(m-(i0+1))=m;omega
 ·show i0<i0+1;omega
 ·show es.take i0=_
  rw [cV hx0,List.filter_append,filter_all hb0,aC,←List.map_take];simp [Ze]
 rintro n ⟨i,j,cur⟩ hj
 obtain ⟨j1,j2,j3,j4,j5,j6⟩:=(hJ _ _).1 hj
 clear hj
 simp only at j1 j2 j3 j4 j5 j6
 cbv
 apply ap<;>intro h
 ·have Vy:j<m:=by simp [ht,ah] at h;omega
  clear h
  obtain ⟨x,hx⟩:∃x,l[j]?=some x:=⟨l[j]'(by omega),by simp⟩
  have mQ:x∈l:=List.mem_of_getElem? hx
  have gJ:=hf x mQ
  have HO:cur[j]?=some (Place.cells x):=by
   have:(cur.drop j)[0]?=(es.drop j)[0]?:=by rw [j6]
   rw [List.getElem?_drop,List.getElem?_drop,Nat.add_zero,aC,List.getElem?_map,hx] at this
   exact this
  obtain ⟨px,hpx⟩:∃b,b=p x:=⟨_,rfl⟩
  rw [←hpx] at gJ
  obtain ⟨cx,E4⟩:∃cx,cx=Place.cells x:=⟨_,rfl⟩
  rw [←E4] at HO
  have hstep:(l.take (j+1)).filter (fun x=>!p x)=(l.take j).filter (fun x=>!p x)++(if px then [] else [x]):=by
   rw [cV hx,List.filter_append];cases px<;>simp [←hpx]
  obtain ⟨jb,nd,⟨v1,v2,v3,v4⟩⟩:=x
  cbv
  refine ⟨?_,Qi [.int .u64 jb,.str nd,.int .u64 v1,.int .u64 v2,.int .u64 v3,.int .u64 v4] ?_ ?_ ?_⟩
  ·simp [ht,ah];omega
  ·simp [ht,ah,j3];omega
  ·simp [ht,ah,List.getD_eq_getElem?_getD,HO,E4]
  cbv
  refine dJ [0,1] trv rfl rfl gJ (cA ?_)
  cbv
  apply ap<;>intro hb
  ·have hb':px=false:=by simpa [ht] using hb
   clear hb
   obtain ⟨nc,hnc⟩:∃nc,nc=cur.set i cx:=⟨_,rfl⟩
   have qg:(cur.getD i []).length=6:=j4 _ (by rw [List.getD_eq_getElem?_getD,List.getElem?_eq_getElem (by omega)];exact List.getElem_mem _)
   cbv
   refine ⟨?_,?_⟩
   ·simp [ht,ah];omega
   refine ⟨?_,?_⟩
   ·simp [ht,ah,j3];exact ⟨by omega,by simpa using qg.symm▸(Nat.le_refl _)⟩
   refine aE ⟨n-1,(i+1,j+1,nc),⟨by omega,(hJ _ _).2 ⟨?_,?_,?_,?_,?_,?_⟩⟩,?_⟩
   ·show j+1+(n-1)=m;omega
   ·show i+1<j+1;omega
   ·show nc.length=m;rw [hnc,List.length_set];exact j3
   ·show ∀r∈nc,r.length=6
    intro r hr;rw [hnc] at hr
    rcases List.mem_or_eq_of_mem_set hr with hr|rfl
    ·exact j4 r hr
    rw [E4];rfl
   ·show nc.take (i+1)=_
    rw [hnc,kN _ _ _ (by omega),j5,hstep,hb',E4];simp
   ·show nc.drop (j+1)=es.drop (j+1)
    rw [hnc,nt _ _ _ _ (by omega),←List.drop_drop,j6,List.drop_drop]
   simp only [ht,ah,Int.ofNat_eq_natCast,aB (show i<9223372036854775807 by omega),aB (show j<9223372036854775807 by omega)]
   have ei:0+((i:Int)).toNat=i:=by simp
   have e:cur.set i (be (cur.getD i []) 0 [.int .u64 jb,.str nd,.int .u64 v1,.int .u64 v2,.int .u64 v3,.int .u64 v4])=nc:=by rw [hnc,kM _ _ (by rw [qg];rfl),E4]
   simp only [ei,e];rfl
  have hb':px=true:=by simpa [ht] using hb
  clear hb
  cbv
  refine aE ⟨n-1,(i,j+1,cur),⟨by omega,(hJ _ _).2 ⟨?_,?_,j3,j4,?_,?_⟩⟩,?_⟩
  ·show j+1+(n-1)=m;omega
  ·show i<j+1;omega
  ·show cur.take i=_
   rw [j5,hstep,hb'];simp
  ·show cur.drop (j+1)=es.drop (j+1)
   rw [←List.drop_drop,j6,List.drop_drop]
  simp only [ht,ah,Int.ofNat_eq_natCast,aB (show j<9223372036854775807 by omega)];rfl
 have Vy:j=m:=by simp [ht,ah] at h;omega
 clear h
 obtain ⟨mi,yB⟩:∃mi,mi=m-i:=⟨_,rfl⟩
 obtain ⟨ci,qg⟩:∃ci,ci=c-i:=⟨_,rfl⟩
 obtain ⟨nc,hnc⟩:∃nc,nc=wrote cur i (List.replicate mi [.int .u64 0,.str [],.int .u64 0,.int .u64 0,.int .u64 0,.int .u64 0]):=⟨_,rfl⟩
 have hnt:nc.take i=r:=by
  have hl':(cur.take i).length=i:=by simp;omega
  rw [hnc,wrote,List.append_assoc,List.take_left' hl',j5,hr,Vy,hm,List.take_length]
 have Zg:i≤nc.length:=by rw [hnc];simp [wrote];omega
 cbv
 refine bF (.vw 2 6 i mi ci true) [.var [.d (.int .u64 bu)],.var [.fn 161 [.ptr 0 0]],.row 6 cur] ?_ ?_ ?_ ?_
 ·simp [ht,ah,dR,bN];omega
 ·simp [ht,ah,aV,aP,yB,qg]
 ·simp only [ht]
 cbv
 refine bF (.ek []) [.var [.d (.int .u64 bu)],.var [.fn 161 [.ptr 0 0]],.row 6 nc] ?_ rfl ?_ ?_
 ·simp [ht,eR]
  refine ⟨by omega,?_⟩
  intro h;rw [h] at j3;simp at j3;omega
 ·simp only [ht,hnc]
 cbv
 refine bF (.vw 2 6 0 i c true) [.var [.d (.int .u64 bu)],.var [.fn 161 [.ptr 0 0]],.row 6 nc] ?_ ?_ rfl ?_
 ·simp [ht,ah,dR,bN];omega
 ·simp [ht,ah,aV,aP]
 cbv
 refine zw [false,false,true] trv ?_ rfl rfl rfl ?_
 ·simp only [ht];omega
 simp only [ht];rw [List.drop_zero,hnt]
theorem Kk (ht:TT t) (bu:Int) {l:List (Place)} {es:List (List D)} (aC:es=l.map Place.cells) {m:Nat} (hm:m=l.length) (f:Nat) (p:Place→Bool) (hl:l.length<9223372036854775807)
 (hf:∀x∈l,FC f [.agg [.d (.int .u64 x.bu),.d (.str x.node),.d (.int .u64 x.v.a),.d (.int .u64 x.v.b),.d (.int .u64 x.v.c),.d (.int .u64 x.v.d)],.ptr 1 0] [.var [.d (.int .u64 bu)],.var [.fn 161 [.ptr 0 0]]] (.ret (BL (p x))) [.var [.d (.int .u64 bu)],.var [.fn 161 [.ptr 0 0]]]) {r:List (List D)} (hr:r=(l.filter (fun x=>!p x)).map Place.cells):
 FC 200 [.ow 2 6 m,.fn f [.ptr 1 0]] [.var [.d (.int .u64 bu)],.var [.fn 161 [.ptr 0 0]],.row 6 es] (.ret (SL r)) [.var [.d (.int .u64 bu)],.var [.fn 161 [.ptr 0 0]],.dead]:=
 dX fun c hc _=>HN ht bu aC hm hc f p hl hf hr
theorem TQ (ht:TT t) (bu jb:Int) (nd:aH) (v1 v2 v3 v4:Int) {r:Bool} (hr:r=!decide (jb=bu)):FC 161 [.agg [.d (.int .u64 jb),.d (.str nd),.d (.int .u64 v1),.d (.int .u64 v2),.d (.int .u64 v3),.d (.int .u64 v4)],.ptr 0 0] [.var [.d (.int .u64 bu)]] (.ret (BL r)) [.var [.d (.int .u64 bu)]]:=by
 refine jG ht (bz:=[.var [.d (.int .u64 bu)]]) Tryz.func161 rfl rfl (N:=8) rfl rfl (n:=1) rfl rfl ?_
 cbv
 refine an ?_
 simp only [ht,hr]
theorem TR (ht:TT t) (bu jb:Int) (nd:aH) (v1 v2 v3 v4:Int) {r:Bool} (hr:r=decide (jb=bu)):FC 201 [.agg [.d (.int .u64 jb),.d (.str nd),.d (.int .u64 v1),.d (.int .u64 v2),.d (.int .u64 v3),.d (.int .u64 v4)],.ptr 1 0] [.var [.d (.int .u64 bu)],.var [.fn 161 [.ptr 0 0]]] (.ret (BL r)) [.var [.d (.int .u64 bu)],.var [.fn 161 [.ptr 0 0]]]:=by
 obtain ⟨q,hq⟩:∃q,q=!decide (jb=bu):=⟨_,rfl⟩
 refine jG ht (bz:=[.var [.d (.int .u64 bu)],.var [.fn 161 [.ptr 0 0]]]) Tryz.func201 rfl rfl (N:=8) rfl rfl (n:=2) rfl rfl ?_
 cbv
 refine dJ [0] trv rfl rfl (TQ ht bu jb nd v1 v2 v3 v4 hq) (cA ?_)
 cbv
 refine an ?_
 simp only [ht,hr,hq];simp
theorem Kl (ht:TT t) (bu:Int) {l:List Place} {es:List (List D)} (aC:es=l.map Place.cells) (hl:l.length<1000000) {r:List (List D)} (hr:r=(l.filter (fun x=>!decide (x.bu=bu))).map Place.cells):
 FC 160 [SL es,.fn 161 [.ptr 0 0]] [.var [.d (.int .u64 bu)]] (.ret (SL r)) [.var [.d (.int .u64 bu)]]:=by
 have hrows:∀r∈es,r.length=6:=by rw [aC];intro r hr;obtain ⟨y,_,rfl⟩:=List.mem_map.1 hr;rfl
 obtain ⟨m,hm⟩:∃m,m=l.length:=⟨_,rfl⟩
 have hel:m=es.length:=by rw [aC,lgM,hm]
 refine jG ht (bz:=[.var [.d (.int .u64 bu)]]) Tryz.func160 rfl rfl (N:=9) rfl rfl (n:=1) rfl rfl ?_
 cbv
 refine jY trv (vW ht hrows (by rw [←hel];omega) hel) trv rfl (.inr rfl) ?_
 cbv
 refine dJ [0,1,2] trv rfl rfl (Kk ht bu aC hm 201 (fun x=>decide (x.bu=bu)) (by omega) (fun x _=>TR ht bu x.bu x.node x.v.a x.v.b x.v.c x.v.d rfl) hr) (cA ?_)
 cbv
 exact an rfl
theorem Km (ht:TT t) (bu:Int) {ns:List (List D)} {l:List Place} {es:List (List D)} (aC:es=l.map Place.cells) (hl:l.length<1000000) {r:List (List D)} (hr:r=(l.filter (fun x=>!decide (x.bu=bu))).map Place.cells):
 FC 108 [.agg [SL ns,SL es],az bu] [] (.ret (.agg [SL ns,SL r])) []:=by
 refine cr ht Tryz.func108 (N:=12) ?_
 cbv
 refine bS [false,false,false,false,false,false,true,true] ?_
 cbv
 repeat (refine gI (by (simp;done)) ?_)
 refine .inl (Wf [true,false,true] [1] (fun _=>⟨trv,trv,Kl ht bu aC hl hr⟩) rfl rfl (.inr ⟨rfl,rfl⟩) rfl rfl rfl rfl ?_)
 cbv
 exact an rfl
theorem QK (ht:TT t) (name nm:aH) (a b c d:Int) (lr:List (List D)) (up:Bool) {r:Bool} (hr:r=decide (nm=name)):
 FC 113 [.agg [.d (.str nm),.d (.int .u64 a),.d (.int .u64 b),.d (.int .u64 c),.d (.int .u64 d),.d (.sl lr),.d (.bool up)],.ptr 0 0] [.var [.d (.str name)]] (.ret (BL r)) [.var [.d (.str name)]]:=by
 refine jG ht (bz:=[.var [.d (.str name)]]) Tryz.func113 rfl rfl (N:=8) rfl rfl (n:=1) rfl rfl ?_
 cbv
 refine an ?_
 simp only [ht,hr]
theorem Nt (ht:TT t) (name:aH) {l:List (Node)} {es:List (List D)} (aC:es=l.map Node.cells) (f:Nat) (p:Node→Bool) (hl:l.length<9223372036854775807)
 (hf:∀x∈l,FC f [.agg [.d (.str x.name),.d (.int .u64 x.cap.a),.d (.int .u64 x.cap.b),.d (.int .u64 x.cap.c),.d (.int .u64 x.cap.d),.d (.sl (x.labels.map dj.cells)),.d (.bool x.up)],.ptr 0 0] [.var [.d (.str name)]] (.ret (BL (p x))) [.var [.d (.str name)]]) {r:Int} (hr:r=idxOf p l):FC 112 [SL es,.fn f [.ptr 0 0]] [.var [.d (.str name)]] (.ret (bD r)) [.var [.d (.str name)]]:=by
 have hel:es.length=l.length:=by rw [aC,lgM]
 refine jG ht (bz:=[.var [.d (.str name)]]) Tryz.func112 rfl rfl (N:=19) rfl rfl (n:=1) rfl rfl ?_
 cbv
 refine bA ⟨[0,1,7,8],[],[]⟩ (σ:=Nat) (fun k=>[(8,bD (t _ fun _=>(k:Int)))]) (fun _=>[]) (tF p l) ?_
 cbv
 refine aE ⟨l.length,0,.nil,by simp only [ht];rfl,fun n k hj=>?_⟩
 cbv
 apply ap<;>intro h
 ·simp only [ht,ah,decide_eq_true_eq] at h
  have hk:k<es.length:=by omega
  obtain ⟨x,hx,mQ,px,hpx⟩:=hj.get (by omega)
  have gJ:=hf x mQ
  rw [←hpx] at gJ
  obtain ⟨nm,⟨a,b,c,d⟩,lb,up⟩:=x;obtain ⟨lr,hlr⟩:∃lr:List (List D),lr=lb.map dj.cells:=⟨_,rfl⟩;simp only [←hlr] at gJ
  cbv
  refine ix [.str nm,.int .u64 a,.int .u64 b,.int .u64 c,.int .u64 d,.sl lr,.bool up] ?_ ?_ ?_
  ·simp only [ht,ah];exact pK aC hk fun _=>rfl
  ·simp [ht,ah,aC,hx,hlr]
  cbv
  refine dx trv gJ ?_
  cbv
  apply ap<;>intro hb
  ·cbv
   refine an ?_
   simp only [ht,ah,hr,hj.hit hx (hpx▸hb)]
  cbv
  refine aE ⟨n-1,k+1,⟨hj.lt hx,hj.next hx (hpx▸hb)⟩,?_⟩
  simp only [ht,ah,aB (show k<9223372036854775807 by omega)];rfl
 simp only [ht,ah,decide_eq_false_iff_not] at h
 have hk:l.length≤k:=by omega
 clear h
 cbv
 refine an ?_
 rw [hr,hj.none hk]
theorem Mf (ht:TT t) (name:aH) {l:List Node} {es ps:List (List D)} (aC:es=l.map Node.cells) (hl:l.length<9223372036854775807) {r:Int} (hr:r=idxOf (fun x=>decide (x.name=name)) l):
 FC 73 [.agg [SL es,SL ps],ST name] [] (.ret (bD r)) []:=by
 refine cr ht Tryz.func73 (N:=9) ?_
 cbv
 refine dJ [1] trv rfl rfl (Nt ht name aC 113 (fun x=>decide (x.name=name)) hl (fun x _=>QK ht name x.name x.cap.a x.cap.b x.cap.c x.cap.d _ x.up rfl) hr) (cA ?_)
 cbv
 exact an rfl
theorem QL (ht:TT t) (name:aH) {l:List Node} {es ps:List (List D)} (aC:es=l.map Node.cells) (hl:l.length<9223372036854775807) {nm:aH} {a b c d:Int} {lb:List dj} {up ok:Bool} (hr:eF name l=(⟨nm,⟨a,b,c,d⟩,lb,up⟩,ok)) {lr:List (List D)} (hlr:lr=lb.map dj.cells):
 FC 33 [.agg [SL es,SL ps],ST name] [] (.ret (.ek [.agg [.d (.str nm),.d (.int .u64 a),.d (.int .u64 b),.d (.int .u64 c),.d (.int .u64 d),.d (.sl lr),.d (.bool up)],BL ok])) []:=by
 have hrows:∀r∈es,r.length=7:=by rw [aC];intro r hr;obtain ⟨y,_,rfl⟩:=List.mem_map.1 hr;rfl
 obtain ⟨k,hk⟩:∃k,k=idxOf (fun x:Node=>decide (x.name=name)) l:=⟨_,rfl⟩
 have hneg:k<0→k=-1:=by intro h;rw [hk] at h ⊢;unfold idxOf at h ⊢;split at h<;>omega
 refine cr ht Tryz.func33 (N:=18) ?_
 cbv
 refine gF trv (Mf ht name aC hl hk) trv rfl rfl ?_
 cbv
 apply ap<;>intro h
 ·have wF:k=-1:=hneg (by simpa [ht] using h)
  clear h hneg
  have hp:=M9 (hk▸wF)
  rw [hr] at hp
  obtain ⟨⟨rfl,⟨rfl,rfl,rfl,rfl⟩,rfl,rfl⟩,rfl⟩:(nm=[]∧(a=0∧b=0∧c=0∧d=0)∧lb=[]∧up=false)∧ok=false:=by
   simpa [Node.zero,bE.zero] using hp
  have abi:lr=[]:=by rw [hlr];rfl
  subst abi
  clear hlr
  cbv
  exact an rfl
 have wF:k≠-1:=by intro h1;rw [h1] at h;simp [ht] at h
 clear h hneg
 obtain ⟨i,x,h1,h2,h3⟩:=Na (hk▸wF)
 rw [hr] at h3
 simp only [Prod.mk.injEq] at h3
 obtain ⟨rfl,rfl⟩:=h3
 rw [←hk] at h1
 subst h1
 have hi:i<l.length:=(List.getElem?_eq_some_iff.1 h2).1
 have hel:es.length=l.length:=by rw [aC,lgM]
 cbv
 refine ix [.str nm,.int .u64 a,.int .u64 b,.int .u64 c,.int .u64 d,.sl lr,.bool up] ?_ ?_ ?_
 ·simp only [ht,ah,Int.ofNat_eq_natCast];exact ⟨by omega,by omega,hrows⟩
 ·simp [ht,aC,h2,hlr]
 cbv
 exact an rfl
theorem TS (x y:Int) {r s:Int} (hr:r=(((x.toNat+y.toNat)%18446744073709551616:Nat):Int)) (hs:s=(((x.toNat+y.toNat) / 18446744073709551616:Nat):Int)):
 FC 212 [.d (.int .u64 x),.d (.int .u64 y),.d (.int .u64 0)] [] (.ret (.ek [.d (.int .u64 r),.d (.int .u64 s)])) []:=by
 refine fcX Tryz.func212 (by kernel_rfl) (by kernel_rfl) (by kernel_rfl) (e:=add64Entry) (by kernel_rfl) ?_
 intro β w vs ok h
 simp only [ak,aj,aJ] at h
 obtain ⟨_,_,rfl,rfl,_,_,rfl,rfl,_,_,rfl,rfl,rfl⟩:=h
 refine ⟨.tuple #[.int .u64 r,.int .u64 s],?_,?_⟩
 ·subst hr hs;rfl
 simp only [aj,ak,aJ];exact ⟨_,rfl,_,_,rfl,rfl,_,_,rfl,rfl,rfl⟩
def Wy:Array Value→Sem Value:=fun args=>do
 let (x,y,b) ←Extern.MathBitsCarry.three "Sub64" args
 pure (Extern.MathBitsCarry.pair ((x+Extern.MathBitsCarry.m64-y-b)%Extern.MathBitsCarry.m64) (if x<y+b then 1 else 0))
theorem TU (x y:Int) {r s:Int} (hr:r=(((x.toNat+18446744073709551616-y.toNat)%18446744073709551616:Nat):Int)) (hs:s=((if x.toNat<y.toNat then 1 else 0:Nat):Int)):
 FC 224 [.d (.int .u64 x),.d (.int .u64 y),.d (.int .u64 0)] [] (.ret (.ek [.d (.int .u64 r),.d (.int .u64 s)])) []:=by
 refine fcX Tryz.func224 (by kernel_rfl) (by kernel_rfl) (by kernel_rfl) (e:=Wy) (by kernel_rfl) ?_
 intro β w vs ok h
 simp only [ak,aj,aJ] at h
 obtain ⟨_,_,rfl,rfl,_,_,rfl,rfl,_,_,rfl,rfl,rfl⟩:=h
 refine ⟨.tuple #[.int .u64 r,.int .u64 s],?_,?_⟩
 ·subst hr hs;rfl
 simp only [aj,ak,aJ];exact ⟨_,rfl,_,_,rfl,rfl,_,_,rfl,rfl,rfl⟩
theorem Nu (ht:TT t) (x y:Int) {r:Int} {ok:Bool} (h:(r,ok)=Hj x y):
 FC 183 [.d (.int .u64 x),.d (.int .u64 y)] [] (.ret (.ek [.d (.int .u64 r),.d (.bool ok)])) []:=by
 obtain ⟨a,ha⟩:∃a:Int,a=(((x.toNat+y.toNat)%18446744073709551616:Nat):Int):=⟨_,rfl⟩
 obtain ⟨b,hb⟩:∃b:Int,b=(((x.toNat+y.toNat) / 18446744073709551616:Nat):Int):=⟨_,rfl⟩
 refine cr ht Tryz.func183 (N:=17) ?_
 cbv
 refine gF trv (TS x y ha hb) trv rfl rfl ?_
 cbv
 apply ap<;>intro hc
 ·cbv
  refine an ?_
  simp only [ht,ah,Bool.not_eq_true',decide_eq_false_iff_not] at hc ha hb
  simp only [Hj] at h
  rw [if_neg (by omega)] at h
  cases h;rfl
 cbv
 refine an ?_
 simp only [ht,ah,Bool.not_eq_false',decide_eq_true_eq] at hc ha hb
 simp only [Hj] at h
 rw [if_pos (by omega)] at h
 cases h
 rw [ha,Nat.mod_eq_of_lt (by omega)]
theorem Nv (ht:TT t) (x y:Int) {r:Int} {ok:Bool} (h:(r,ok)=Hl x y):
 FC 203 [.d (.int .u64 x),.d (.int .u64 y)] [] (.ret (.ek [.d (.int .u64 r),.d (.bool ok)])) []:=by
 obtain ⟨a,ha⟩:∃a:Int,a=(((x.toNat+18446744073709551616-y.toNat)%18446744073709551616:Nat):Int):=⟨_,rfl⟩
 obtain ⟨b,hb⟩:∃b:Int,b=((if x.toNat<y.toNat then 1 else 0:Nat):Int):=⟨_,rfl⟩
 refine cr ht Tryz.func203 (N:=17) ?_
 cbv
 refine gF trv (TU x y ha hb) trv rfl rfl ?_
 cbv
 apply ap<;>intro hc
 ·cbv
  refine an ?_
  simp only [ht,ah,Bool.not_eq_true',decide_eq_false_iff_not] at hc ha hb
  simp only [Hl] at h
  by_cases hlt:x.toNat<y.toNat
  ·rw [if_pos hlt] at h;cases h;rfl
  rw [if_neg hlt] at hb;exact absurd (by rw [hb];rfl) hc
 cbv
 refine an ?_
 simp only [ht,ah,Bool.not_eq_false',decide_eq_true_eq] at hc ha hb
 simp only [Hl] at h
 by_cases hlt:x.toNat<y.toNat
 ·rw [if_pos hlt] at hb;rw [hb] at hc;exact absurd hc (by decide)
 rw [if_neg hlt] at h;cases h
 have e:(x.toNat+18446744073709551616-y.toNat)%18446744073709551616=(x.toNat-y.toNat)%18446744073709551616:=by omega
 rw [ha,e]
theorem QM (ht:TT t) (a0 a1 a2 a3 b0 b1 b2 b3:Int) (op:Int→Int→Int×Bool) (F:Nat) (hop:∀(x y r:Int) (ok:Bool),(r,ok)=op x y→FC F [.d (.int .u64 x),.d (.int .u64 y)] [] (.ret (.ek [.d (.int .u64 r),.d (.bool ok)])) [])
 {r0 r1 r2 r3:Int} {ok:Bool} (h:(⟨r0,r1,r2,r3⟩,ok)=both op ⟨a0,a1,a2,a3⟩ ⟨b0,b1,b2,b3⟩):
 FC 167 [.agg [.d (.int .u64 a0),.d (.int .u64 a1),.d (.int .u64 a2),.d (.int .u64 a3)],.agg [.d (.int .u64 b0),.d (.int .u64 b1),.d (.int .u64 b2),.d (.int .u64 b3)],.fn F []] []
  (.ret (.ek [.agg [.d (.int .u64 r0),.d (.int .u64 r1),.d (.int .u64 r2),.d (.int .u64 r3)],.d (.bool ok)])) []:=by
 obtain ⟨⟨s0,k0⟩,e0⟩:∃s,s=op a0 b0:=⟨_,rfl⟩
 obtain ⟨⟨s1,k1⟩,e1⟩:∃s,s=op a1 b1:=⟨_,rfl⟩
 obtain ⟨⟨s2,k2⟩,e2⟩:∃s,s=op a2 b2:=⟨_,rfl⟩
 obtain ⟨⟨s3,k3⟩,e3⟩:∃s,s=op a3 b3:=⟨_,rfl⟩
 have h0:(k0&&k1&&k2&&k3)=false→r0=0∧r1=0∧r2=0∧r3=0∧ok=false:=by
  intro hk;simp only [both,←e0,←e1,←e2,←e3] at h;rw [if_neg (by rw [hk];simp)] at h;cases h;exact ⟨rfl,rfl,rfl,rfl,rfl⟩
 have h1:(k0&&k1&&k2&&k3)=true→r0=s0∧r1=s1∧r2=s2∧r3=s3∧ok=true:=by
  intro hk;simp only [both,←e0,←e1,←e2,←e3] at h;rw [if_pos hk] at h;cases h;exact ⟨rfl,rfl,rfl,rfl,rfl⟩
 clear h
 have fin:∀{bx:List aA},(k0&&k1&&k2&&k3)=false→EI 0 True (AV.ek [.agg [.d (.int .u64 0),.d (.int .u64 0),.d (.int .u64 0),.d (.int .u64 0)],.d (.bool false)]) bx (some (True,AV.ek [.agg [.d (.int .u64 0),.d (.int .u64 0),.d (.int .u64 0),.d (.int .u64 0)],.d (.bool false)]))
  (.ret (.ek [.agg [.d (.int .u64 r0),.d (.int .u64 r1),.d (.int .u64 r2),.d (.int .u64 r3)],.d (.bool ok)])) []:=by
  intro bx hk
  obtain ⟨rfl,rfl,rfl,rfl,rfl⟩:=h0 hk
  exact an rfl
 refine cr ht Tryz.func167 (N:=34) ?_
 cbv
 refine bA ⟨[2,3,4,6,12,13],[],[]⟩ (σ:=Nat) (fun j=>[(13,.d (.int .i64 j))]) (fun j=>[(0,.var [.d (.int .u64 (bif Nat.blt 0 j then s0 else a0)),.d (.int .u64 (bif Nat.blt 1 j then s1 else a1)),.d (.int .u64 (bif Nat.blt 2 j then s2 else a2)),.d (.int .u64 (bif Nat.blt 3 j then s3 else a3))])])
  (fun n j=>n+j=4∧(0<j→k0=true)∧(1<j→k1=true)∧(2<j→k2=true)∧(3<j→k3=true)) ?_
 cbv
 refine aE ⟨4,0,⟨rfl,by omega,by omega,by omega,by omega⟩,rfl,?_⟩
 rintro n j ⟨hn,g0,g1,g2,g3⟩
 have hj:j=0∨j=1∨j=2∨j=3∨j=4:=by omega
 rcases hj with rfl|rfl|rfl|rfl|rfl
 ·cbv
  refine lA (by simp [ht]) ?_
  cbv
  refine ⟨by simp [ht],by simp [ht],gF trv (hop _ _ _ _ e0) trv rfl rfl ?_⟩
  cbv
  apply ap<;>intro hc
  ·simp only [ht,Bool.not_eq_true'] at hc
   cbv
   exact fin (by simp [hc])
  simp only [ht,Bool.not_eq_false'] at hc
  cbv
  refine ⟨by simp [ht],?_⟩
  trace_state
  refine aE ⟨3-0,0+1,⟨⟨by omega,by omega,by simp_all,by simp_all,by simp_all,by simp_all⟩,?_⟩⟩
  simp only [ht];rfl
 ·cbv
  refine lA (by simp [ht]) ?_
  cbv
  refine ⟨by simp [ht],by simp [ht],gF trv (hop _ _ _ _ e1) trv rfl rfl ?_⟩
  cbv
  apply ap<;>intro hc
  ·simp only [ht,Bool.not_eq_true'] at hc
   cbv
   exact fin (by simp [hc])
  simp only [ht,Bool.not_eq_false'] at hc
  cbv
  refine ⟨by simp [ht],?_⟩
  trace_state
  refine aE ⟨3-1,1+1,⟨⟨by omega,by omega,by simp_all,by simp_all,by simp_all,by simp_all⟩,?_⟩⟩
  simp only [ht];rfl
 ·cbv
  refine lA (by simp [ht]) ?_
  cbv
  refine ⟨by simp [ht],by simp [ht],gF trv (hop _ _ _ _ e2) trv rfl rfl ?_⟩
  cbv
  apply ap<;>intro hc
  ·simp only [ht,Bool.not_eq_true'] at hc
   cbv
   exact fin (by simp [hc])
  simp only [ht,Bool.not_eq_false'] at hc
  cbv
  refine ⟨by simp [ht],?_⟩
  trace_state
  refine aE ⟨3-2,2+1,⟨⟨by omega,by omega,by simp_all,by simp_all,by simp_all,by simp_all⟩,?_⟩⟩
  simp only [ht];rfl
 ·cbv
  refine lA (by simp [ht]) ?_
  cbv
  refine ⟨by simp [ht],by simp [ht],gF trv (hop _ _ _ _ e3) trv rfl rfl ?_⟩
  cbv
  apply ap<;>intro hc
  ·simp only [ht,Bool.not_eq_true'] at hc
   cbv
   exact fin (by simp [hc])
  simp only [ht,Bool.not_eq_false'] at hc
  cbv
  refine ⟨by simp [ht],?_⟩
  trace_state
  refine aE ⟨3-3,3+1,⟨⟨by omega,by omega,by simp_all,by simp_all,by simp_all,by simp_all⟩,?_⟩⟩
  simp only [ht];rfl
 cbv
 refine pX (by simp [ht]) ?_
 cbv
 obtain ⟨rfl,rfl,rfl,rfl,rfl⟩:=h1 (by simp [g0,g1,g2,g3])
 exact an rfl
theorem QN (ht:TT t) (a0 a1 a2 a3 b0 b1 b2 b3:Int) {r0 r1 r2 r3:Int} {ok:Bool} (h:(⟨r0,r1,r2,r3⟩,ok)=iV ⟨a0,a1,a2,a3⟩ ⟨b0,b1,b2,b3⟩):
 FC 137 [V4 a0 a1 a2 a3,V4 b0 b1 b2 b3] [] (.ret (.ek [V4 r0 r1 r2 r3,BL ok])) []:=by
 refine cr ht Tryz.func137 (N:=11) ?_
 cbv
 refine gF trv (QM ht _ _ _ _ _ _ _ _ Hj 183 (fun x y r ok=>Nu ht x y) h) trv rfl rfl ?_
 cbv
 exact an rfl
theorem E5 (ht:TT t) (a0 a1 a2 a3 b0 b1 b2 b3:Int) {r0 r1 r2 r3:Int} {ok:Bool} (h:(⟨r0,r1,r2,r3⟩,ok)=eH ⟨a0,a1,a2,a3⟩ ⟨b0,b1,b2,b3⟩):
 FC 170 [V4 a0 a1 a2 a3,V4 b0 b1 b2 b3] [] (.ret (.ek [V4 r0 r1 r2 r3,BL ok])) []:=by
 refine cr ht Tryz.func170 (N:=11) ?_
 cbv
 refine gF trv (QM ht _ _ _ _ _ _ _ _ Hl 203 (fun x y r ok=>Nv ht x y) h) trv rfl rfl ?_
 cbv
 exact an rfl
theorem TV (ht:TT t) (a0 a1 a2 a3 b0 b1 b2 b3:Int) {ok:Bool} (h:ok=mE ⟨a0,a1,a2,a3⟩ ⟨b0,b1,b2,b3⟩):
 FC 142 [V4 a0 a1 a2 a3,V4 b0 b1 b2 b3] [] (.ret (BL ok)) []:=by
 obtain ⟨⟨⟨r0,r1,r2,r3⟩,k⟩,e⟩:∃s,s=eH ⟨b0,b1,b2,b3⟩ ⟨a0,a1,a2,a3⟩:=⟨_,rfl⟩
 have hk:ok=k:=by rw [h];unfold mE;rw [←e]
 refine cr ht Tryz.func142 (N:=14) ?_
 cbv
 refine gF trv (E5 ht _ _ _ _ _ _ _ _ e) trv rfl rfl ?_
 cbv
 exact an (by rw [hk])
theorem Wz (ht:TT t) (name:aH) {l:List Node} {ps:List Place} {es qs:List (List D)} (aC:es=l.map Node.cells) (dF:qs=ps.map Place.cells) (hl:l.length<9223372036854775807) (EB:ps.length<9223372036854775807) {a b c d:Int} {ok:Bool} (hr:eG name l ps=(⟨a,b,c,d⟩,ok)):
 FC 120 [.agg [SL es,SL qs],ST name] [] (.ret (.ek [V4 a b c d,BL ok])) []:=by
 have hrows:∀r∈qs,r.length=6:=by rw [dF];intro r hr;obtain ⟨y,_,rfl⟩:=List.mem_map.1 hr;rfl
 have hel:qs.length=ps.length:=by rw [dF,lgM]
 obtain ⟨x,Zh,hf⟩:∃x Zh,eF name l=(x,Zh):=⟨_,_,rfl⟩
 obtain ⟨nm,⟨a0,b0,c0,d0⟩,lb,up⟩:=x
 obtain ⟨lr,hlr⟩:∃lr,lr=lb.map dj.cells:=⟨_,rfl⟩
 obtain ⟨J,hJ⟩:∃J:Nat→(bE×Bool)×Nat→Prop,∀n v,J n v↔(v.2+n=ps.length∧(ps.drop v.2).foldl (dP name) v.1=ps.foldl (dP name) (⟨a0,b0,c0,d0⟩,Zh)):=⟨fun n v=>v.2+n=ps.length∧(ps.drop v.2).foldl (dP name) v.1=ps.foldl (dP name) (⟨a0,b0,c0,d0⟩,Zh),fun _ _=>Iff.rfl⟩
 refine cr ht Tryz.func120 (N:=45) ?_
 cbv
 refine L0 trv (QL ht name aC hl hf hlr) trv rfl rfl rfl ?_
 cbv
 refine bA ⟨[1,4,7,8,20,21,22],[],[]⟩ (σ:=(bE×Bool)×Nat) (fun v=>[(7,BL (t _ fun _=>v.1.2)),(22,bD (t _ fun _=>(v.2:Int)))]) (fun v=>[(1,.var [.d (.int .u64 (t _ fun _=>v.1.1.a)),.d (.int .u64 (t _ fun _=>v.1.1.b)),.d (.int .u64 (t _ fun _=>v.1.1.c)),.d (.int .u64 (t _ fun _=>v.1.1.d))])]) J ?_
 cbv
 refine aE ⟨ps.length,((⟨a0,b0,c0,d0⟩,Zh),0),(hJ _ _).2 ⟨by simp,by simp⟩,by simp only [ht];rfl,?_⟩
 rintro n ⟨⟨⟨a1,b1,c1,d1⟩,Sy⟩,k⟩ hj
 obtain ⟨j1,j2⟩:=(hJ _ _).1 hj
 clear hj
 simp only at j1 j2
 cbv
 apply ap<;>intro h
 ·have hk:k<ps.length:=by simp [ht,ah] at h;omega
  clear h
  obtain ⟨x,hx⟩:∃x,ps[k]?=some x:=⟨ps[k],by simp⟩
  obtain ⟨jb,nd,⟨v1,v2,v3,v4⟩⟩:=x
  have hd:ps.drop k=⟨jb,nd,⟨v1,v2,v3,v4⟩⟩::ps.drop (k+1):=by
   rw [List.drop_eq_getElem_cons hk];congr 1
   rw [List.getElem?_eq_getElem hk] at hx;exact Option.some.inj hx
  rw [hd,List.foldl_cons] at j2
  cbv
  refine ix [.int .u64 jb,.str nd,.int .u64 v1,.int .u64 v2,.int .u64 v3,.int .u64 v4] ?_ ?_ ?_
  ·simp only [ht,ah];exact ⟨by omega,by omega,hrows⟩
  ·simp [ht,ah,dF,hx]
  cbv
  repeat (first|refine gI (by (simp [ht];done)) ?_|refine pI (by (simp [ht];done)) ?_)
  apply ap<;>intro hb
  ·have hb':(Sy&&decide (nd=name))=true:=by simp [ht] at hb ⊢;exact hb
   clear hb
   obtain ⟨⟨⟨r0,r1,r2,r3⟩,okr⟩,hv⟩:∃s,s=eH ⟨a1,b1,c1,d1⟩ ⟨v1,v2,v3,v4⟩:=⟨_,rfl⟩
   have hst:dP name (⟨a1,b1,c1,d1⟩,Sy) ⟨jb,nd,⟨v1,v2,v3,v4⟩⟩=(⟨r0,r1,r2,r3⟩,okr):=by simp only [dP,hb',if_true];exact hv.symm
   rw [hst] at j2
   cbv
   refine gF trv (E5 ht _ _ _ _ _ _ _ _ (by simp only [ht];exact hv)) trv rfl rfl ?_
   cbv
   refine aE ⟨n-1,((⟨r0,r1,r2,r3⟩,okr),k+1),⟨by omega,(hJ _ _).2 ⟨by show k+1+(n-1)=_;omega,j2⟩⟩,?_⟩
   simp only [ht,ah,aB (show k<9223372036854775807 by omega)];rfl
  have hb':(Sy&&decide (nd=name))=false:=by simp [ht] at hb ⊢;exact hb
  clear hb
  have hst:dP name (⟨a1,b1,c1,d1⟩,Sy) ⟨jb,nd,⟨v1,v2,v3,v4⟩⟩=(⟨a1,b1,c1,d1⟩,Sy):=by simp [dP,hb']
  rw [hst] at j2
  cbv
  refine aE ⟨n-1,((⟨a1,b1,c1,d1⟩,Sy),k+1),⟨by omega,(hJ _ _).2 ⟨by show k+1+(n-1)=_;omega,j2⟩⟩,?_⟩
  simp only [ht,ah,aB (show k<9223372036854775807 by omega)];rfl
 have hk:k=ps.length:=by simp [ht,ah] at h;omega
 clear h
 rw [hk,List.drop_length,List.foldl_nil] at j2
 have SV:(if Sy then ((⟨a1,b1,c1,d1⟩:bE),Sy) else (bE.zero,false))=(⟨a,b,c,d⟩,ok):=by rw [←hr,eG,hf,←j2]
 cbv
 apply ap<;>intro hb
 ·have hb':Sy=false:=by simpa [ht] using hb
  clear hb
  subst hb'
  obtain ⟨⟨rfl,rfl,rfl,rfl⟩,rfl⟩:(a=0∧b=0∧c=0∧d=0)∧ok=false:=by simpa [bE.zero,eq_comm] using SV
  cbv
  exact an rfl
 have hb':Sy=true:=by simpa [ht] using hb
 clear hb
 subst hb'
 obtain ⟨⟨rfl,rfl,rfl,rfl⟩,rfl⟩:(a1=a∧b1=b∧c1=c∧d1=d)∧true=ok:=by simpa using SV
 cbv
 refine an ?_
 simp only [ht]
theorem TW (ht:TT t) (name:aH) {l:List Node} {es ps:List (List D)} (aC:es=l.map Node.cells) (hl:l.length<9223372036854775807):
 FC 33 [.agg [SL es,SL ps],ST name] [] (.ret (Qs t (t _ fun _=>eF name l))) []:=by
 simp only [ht]
 generalize hr:eF name l=r
 obtain ⟨⟨nm,⟨a,b,c,d⟩,lb,up⟩,ok⟩:=r
 exact (by simpa only [Qs,Vu,ht] using QL ht name aC hl hr rfl)
theorem E6 (ht:TT t) (name:aH) {l:List Node} {ps:List Place} {es qs:List (List D)} (aC:es=l.map Node.cells) (dF:qs=ps.map Place.cells) (hl:l.length<9223372036854775807) (EB:ps.length<9223372036854775807):
 FC 120 [.agg [SL es,SL qs],ST name] [] (.ret (Zb (t _ fun _=>eG name l ps))) []:=by
 simp only [ht]
 generalize hr:eG name l ps=r
 obtain ⟨⟨a,b,c,d⟩,ok⟩:=r
 exact Wz ht name aC dF hl EB hr
theorem oq (ht:TT t) (a b c d e f g h:Int):FC 142 [V4 a b c d,V4 e f g h] [] (.ret (cU (t _ fun _=>mE ⟨a,b,c,d⟩ ⟨e,f,g,h⟩))) []:=by
 simp only [ht];exact TV ht _ _ _ _ _ _ _ _ rfl
theorem TX (ht:TT t) (name:aH) (v0 v1 v2 v3:Int) {l:List Node} {ps:List Place} {es qs:List (List D)} (aC:es=l.map Node.cells) (dF:qs=ps.map Place.cells) (hl:l.length<9223372036854775807) (EB:ps.length<9223372036854775807):
 FC 119 [.agg [SL es,SL qs],ST name,V4 v0 v1 v2 v3] [] (.ret (kp (t _ fun _=>pY name ⟨v0,v1,v2,v3⟩ l ps))) []:=by
 refine cr ht Tryz.func119 (N:=39) ?_
 cbv
 refine aD (TW ht _ ‹_› ‹_›) trv (fun r0 cN=>?_)
 simp only [ht] at cN
 cbv
 refine aG (E6 ht _ ‹_› ‹_› ‹_› ‹_›) trv (fun r1 cM=>?_)
 simp only [ht] at cM
 cbv
 apply ap<;>intro h2
 ·simp [ht] at h2
  cbv
  refine an ?_
  (simp only [ht,pY];grind)
 simp [ht] at h2
 cbv
 apply ap<;>intro h3
 ·simp [ht] at h3
  cbv
  refine an ?_
  (simp only [ht,pY];grind)
 simp [ht] at h3
 cbv
 iterate 2 refine gI (by simp [ht]) ?_
 refine cj (fun g4=>⟨by simp [ht] at g4 ⊢;exact g4,trv,oq ht _ _ _ _ _ _ _ _⟩) rfl rfl (fun r5 sO=>?_)
 simp only [ht] at sO
 cbv
 refine gI (by simp [ht]) ?_
 refine pI (by simp [ht]) ?_
 apply ap<;>intro h6
 ·simp [ht] at h6
  cbv
  refine an ?_
  (simp_all [pY];done)
 simp [ht] at h6
 cbv
 refine an ?_
 (simp_all [pY];done)
theorem CL (ht:TT t) {ps:List Place} {es:List (List D)} (aC:es=ps.map Place.cells) (hs:ps.length<1000000000):
 FC 118 [SL es] [] (.ret (.ow 0 6 (t _ fun _=>(ps.map Place.cells).length))) [.row 6 (t _ fun _=>ps.map Place.cells)]:=by
 simp only [ht];subst aC
 refine vW ht ?_ ?_ (by simp)
 ·intro r hr;obtain ⟨y,_,rfl⟩:=List.mem_map.1 hr;rfl
 simp;omega
theorem WA (ht:TT t) (bu:Int) (v0 v1 v2 v3:Int) {l:List Node} {ps:List Place} {names:List aH} {es qs ns:List (List D)} (aC:es=l.map Node.cells) (dF:qs=ps.map Place.cells) (eE:ns=names.map bB) (hl:l.length<1000000000) (EB:ps.length<100000000) (Py:names.length<100000000):
 FC 78 [.agg [SL es,SL qs],az bu,SL ns,V4 v0 v1 v2 v3] [] (.ret (EQ t (t _ fun _=>xk ⟨l,ps⟩ bu names ⟨v0,v1,v2,v3⟩))) []:=by
 refine cr ht Tryz.func78 (N:=45) ?_
 cbv
 have aF:es.length=l.length:=by rw [aC,lgM]
 have bZ:qs.length=ps.length:=by rw [dF,lgM]
 have cZ:ns.length=names.length:=by rw [eE,lgM]
 refine bS [false,false,false,false,false,false,false,true] ?_
 cbv
 iterate 4 refine gI (by simp) ?_
 refine .inr (G9 trv (CL ht ‹_› (by omega)) trv rfl (.inr rfl) rfl ?_)
 cbv
 refine gI (by simp) ?_
 obtain ⟨J0,dz⟩:∃J0:Nat→Int×List (List D)→Prop,∀n i u,J0 n (i,u)↔(∃(k:Nat) (rs:List Place),i=k∧k+n=names.length∧u=rs.map Place.cells∧rs.length=ps.length+k∧gu l bu ⟨v0,v1,v2,v3⟩ names ps=gu l bu ⟨v0,v1,v2,v3⟩ (names.drop k) rs):=⟨fun n v=>match v with|(i,u)=>(∃(k:Nat) (rs:List Place),i=k∧k+n=names.length∧u=rs.map Place.cells∧rs.length=ps.length+k∧gu l bu ⟨v0,v1,v2,v3⟩ names ps=gu l bu ⟨v0,v1,v2,v3⟩ (names.drop k) rs),fun _ _ _=>Iff.rfl⟩
 refine bA ⟨[1,4,7,8,10,20,21,22],[],[]⟩ (σ:=Int×List (List D)) (fun v=>[(22,.d (.int .i64 (t _ fun _=>v.1)))]) (fun v=>[(2,.var [AV.cl [],AV.cl []]),(4,.row 6 (t _ fun _=>v.2)),(3,.var [AV.d (D.sl es),.ow 4 6 (t _ fun _=>(v.2).length)])]) J0 ?_
 cbv
 refine aE ⟨names.length,(_,_),(dz _ _ _).2 ?_,by simp only [ht];rfl,?_⟩
 ·exact ⟨0,ps,rfl,by simp,by simp,by simp,by simp⟩
 rintro n ⟨i,u⟩ hj
 replace hj:=(dz _ _ _).1 hj
 obtain ⟨k,rs,rfl,j1,j2,j3,j4⟩:=hj
 have HP:u.length=rs.length:=by rw [j2,lgM]
 cbv
 apply ap<;>intro h1
 ·simp [ht,ah,cZ] at h1
  cbv
  refine ig ht eE (cT:=gC t) (by (simp only [ht,ah];omega)) (by (simp only [ht,ah];omega)) (fun _=>rfl) (fun _=>rfl) (fun x2 gX=>?_)
  simp [ht,ah] at gX
  rw [eI gX,gu] at j4
  cbv
  refine aG (TX ht _ _ _ _ _ ‹_› (by (simp only [ht];omega)) (by omega) (by omega)) (by simp [ht]) (fun r3 kO=>?_)
  simp only [ht] at kO
  cbv
  apply ap<;>intro h4
  ·simp [ht] at h4
   cbv
   refine an ?_
   (simp only [ht,xk];grind)
  simp [ht] at h4
  cbv
  refine ⟨?_,?_⟩
  ·(simp only [ht,true_and];exact Vv j2 (fun _=>rfl) rfl (by omega) (by decide))
  cbv
  refine bG (_,_) (by simp only [ht,←List.length_append];rfl) (n-1) ?_ ((dz _ _ _).2 ?_)
  ·omega
  simp only [ah]
  refine ⟨k+1,rs++[⟨bu,x2,⟨v0,v1,v2,v3⟩⟩],aB (by omega),by omega,?_,by simp;omega,?_⟩
  ·(simp [*];done)
  (simp_all;done)
 simp [ht,ah,cZ] at h1
 cbv
 refine lQ trv (by simp [ht]) rfl rfl rfl ?_
 (rw [List.drop_eq_nil_of_le (by omega),gu] at j4;simp [ht,xk,j4,aC,j2];done)
theorem BE (ht:TT t) (name:aH) {l:List Node} {es ps:List (List D)} (aC:es=l.map Node.cells) (hl:l.length<9223372036854775807):
 FC 73 [.agg [SL es,SL ps],ST name] [] (.ret (kp (t _ fun _=>idxOf (fun x=>decide (x.name=name)) l))) []:=by
 simp only [ht];exact Mf ht name aC hl rfl
theorem pM (ht:TT t) {l:List Node} {es:List (List D)} (aC:es=l.map Node.cells) (hs:l.length<1000000000):
 FC 147 [SL es] [] (.ret (.ow 0 7 (t _ fun _=>(l.map Node.cells).length))) [.row 7 (t _ fun _=>l.map Node.cells)]:=by
 simp only [ht];subst aC
 refine HL ht ?_ ?_ (by simp)
 ·intro r hr;obtain ⟨y,_,rfl⟩:=List.mem_map.1 hr;rfl
 simp;omega
def dj.aS (_:Th) (x:dj):List D:=[.str x.key,.str x.value]
theorem Nw (ht:TT t) (c:Int) {l:List (Int×Int)} {es:List (List D)} (aC:es=l.map (fun x=>[D.int .i32 x.1,D.int .i32 x.2])) (f:Nat) (p:Int×Int→Bool) (hl:l.length<9223372036854775807)
 (hf:∀x∈l,FC f [.agg [.d (.int .i32 x.1),.d (.int .i32 x.2)],.ptr 0 0] [.var [.d (.int .i32 c)]] (.ret (BL (p x))) [.var [.d (.int .i32 c)]]) {r:Int} (hr:r=idxOf p l):FC 225 [SL es,.fn f [.ptr 0 0]] [.var [.d (.int .i32 c)]] (.ret (bD r)) [.var [.d (.int .i32 c)]]:=by
 have hel:es.length=l.length:=by rw [aC,lgM]
 refine jG ht (bz:=[.var [.d (.int .i32 c)]]) Tryz.func225 rfl rfl (N:=19) rfl rfl (n:=1) rfl rfl ?_
 cbv
 refine bA ⟨[0,1,7,8],[],[]⟩ (σ:=Nat) (fun k=>[(8,bD (t _ fun _=>(k:Int)))]) (fun _=>[]) (tF p l) ?_
 cbv
 refine aE ⟨l.length,0,.nil,by simp only [ht];rfl,fun n k hj=>?_⟩
 cbv
 apply ap<;>intro h
 ·simp only [ht,ah,decide_eq_true_eq] at h
  have hk:k<es.length:=by omega
  obtain ⟨x,hx,mQ,px,hpx⟩:=hj.get (by omega)
  have gJ:=hf x mQ
  rw [←hpx] at gJ
  obtain ⟨lo,hi⟩:=x
  cbv
  refine ix [.int .i32 lo,.int .i32 hi] ?_ ?_ ?_
  ·simp only [ht,ah];exact pK aC hk fun _=>rfl
  ·simp [ht,ah,aC,hx]
  cbv
  refine dx trv gJ ?_
  cbv
  apply ap<;>intro hb
  ·cbv
   refine an ?_
   simp only [ht,ah,hr,hj.hit hx (hpx▸hb)]
  cbv
  refine aE ⟨n-1,k+1,⟨hj.lt hx,hj.next hx (hpx▸hb)⟩,?_⟩
  simp only [ht,ah,aB (show k<9223372036854775807 by omega)];rfl
 simp only [ht,ah,decide_eq_false_iff_not] at h
 have hk:l.length≤k:=by omega
 clear h
 cbv
 refine an ?_
 rw [hr,hj.none hk]
theorem Nx (ht:TT t) (c:Int) {l:List (Int×Int)} {es:List (List D)} (aC:es=l.map (fun x=>[D.int .i32 x.1,D.int .i32 x.2])) (f:Nat) (p:Int×Int→Bool) (hl:l.length<9223372036854775807)
 (hf:∀x∈l,FC f [.agg [.d (.int .i32 x.1),.d (.int .i32 x.2)],.ptr 0 0] [.var [.d (.int .i32 c)]] (.ret (BL (p x))) [.var [.d (.int .i32 c)]]) {r:Bool} (hr:r=l.any p):FC 204 [SL es,.fn f [.ptr 0 0]] [.var [.d (.int .i32 c)]] (.ret (BL r)) [.var [.d (.int .i32 c)]]:=by
 obtain ⟨k,hk⟩:∃k,k=idxOf p l:=⟨_,rfl⟩
 refine jG ht (bz:=[.var [.d (.int .i32 c)]]) Tryz.func204 rfl rfl (N:=9) rfl rfl (n:=1) rfl rfl ?_
 cbv
 refine dx trv (Nw ht c aC f p hl hf hk) ?_
 cbv
 refine an ?_
 simp only [ht,hr,fh,hk]
theorem QO (ht:TT t) (c lo hi:Int) {r:Bool} (hr:r=(decide (lo≤c)&&decide (c≤hi))):FC 205 [.agg [.d (.int .i32 lo),.d (.int .i32 hi)],.ptr 0 0] [.var [.d (.int .i32 c)]] (.ret (BL r)) [.var [.d (.int .i32 c)]]:=by
 refine jG ht (bz:=[.var [.d (.int .i32 c)]]) Tryz.func205 rfl rfl (N:=14) rfl rfl (n:=1) rfl rfl ?_
 cbv
 repeat (first|refine gI (by (simp [ht];done)) ?_|refine pI (by (simp [ht];done)) ?_)
 refine an ?_
 simp [ht,hr]
theorem Mg (ht:TT t) (c:Int) (l:List (Int×Int)) {es:List (List D)} (aC:es=l.map (fun x=>[D.int .i32 x.1,D.int .i32 x.2])) (hl:l.length<9223372036854775807) {r:Bool} (hr:r=Hr c l):FC 171 [.d (.int .i32 c),SL es] [] (.ret (BL r)) []:=by
 refine cr ht Tryz.func171 (N:=8) ?_
 cbv
 refine dx trv (Nx ht c aC 205 (fun x=>decide (x.1≤c)&&decide (c≤x.2)) hl (fun x _=>QO ht c x.1 x.2 rfl) hr) ?_
 cbv
 exact an rfl
theorem TY (ht:TT t) (s:aH) (hs:s.length<9223372036854775807) {r:Int} (hr:r=rf s):FC 206 [ST s] [] (.ret (bD r)) []:=by
 obtain ⟨J,hJ⟩:∃J:Nat→Nat×Nat→Prop,∀n v,J n v↔(s.length≤v.1+n∧v.2+(iM s n v.1).length=rf s):=⟨fun n v=>s.length≤v.1+n∧v.2+(iM s n v.1).length=rf s,fun _ _=>Iff.rfl⟩
 have hc:rf s≤s.length:=Ba s _ _
 refine cr ht Tryz.func206 (N:=10) ?_
 cbv
 refine bA ⟨[2,4],[],[]⟩ (σ:=Nat×Nat) (fun v=>[(2,bD (t _ fun _=>(v.2:Int)))]) (fun v=>[(0,.it s (t _ fun _=>v.1))]) J ?_
 cbv
 refine aE ⟨s.length,(0,0),(hJ _ _).2 ⟨by simp,by simp [rf,Dt]⟩,by simp only [ht];rfl,?_⟩
 rintro n ⟨pos,k⟩ hj
 obtain ⟨hf,hj⟩:=(hJ _ _).1 hj
 cbv
 refine ⟨fun hp=>?_,fun hp=>?_⟩
 ·simp only [ht] at hp hj hf
  cases n with
  |zero=>exfalso;omega
  |succ n=>
  rw [iM,if_pos hp] at hj
  cbv
  refine lA rfl ?_
  cbv
  have hd:=L3 s pos hp
  refine aE ⟨n,(pos+(dec s pos).2,k+1),⟨by omega,(hJ _ _).2 ⟨?_,?_⟩⟩,?_⟩
  ·show s.length≤pos+_+n;omega
  ·rw [←hj];simp only [List.length_cons];omega
  simp only [ht,ah,aB (show k<9223372036854775807 by simp at hj;omega)];rfl
 simp only [ht] at hp hj
 cbv
 refine pX rfl ?_
 cbv
 refine an ?_
 have e:iM s n pos=[]:=by cases n with
  |zero=>rfl
  |succ n=>rw [iM,if_neg hp]
 rw [e] at hj
 simp only [ht,ah,hr,←hj];rfl
theorem QR (ht:TT t) (s:aH) (hs:s.length<9223372036854775807) {r:Int} (hr:r=rf s):FC 172 [ST s] [] (.ret (bD r)) []:=by
 refine cr ht Tryz.func172 (N:=5) ?_
 cbv
 refine gF trv (TY ht s hs hr) trv rfl rfl ?_
 cbv
 exact an rfl
theorem BF (ht:TT t) (s:aH) (hs:s.length<9223372036854775807) {r:Bool} (hr:r=eB s):FC 121 [ST s] [] (.ret (BL r)) []:=by
 obtain ⟨J,hJ⟩:∃J:Nat→Nat→Prop,∀n v,J n v↔(s.length≤v+n∧(Dt s).all Wl=(iM s n v).all Wl):=⟨fun n v=>s.length≤v+n∧(Dt s).all Wl=(iM s n v).all Wl,fun _ _=>Iff.rfl⟩
 refine cr ht Tryz.func121 (N:=32) ?_
 cbv
 refine bA ⟨[0,2,6],[],[]⟩ (σ:=Nat) (fun _=>[]) (fun v=>[(0,.it s (t _ fun _=>v))]) J ?_
 cbv
 refine aE ⟨s.length,0,(hJ _ _).2 ⟨by simp,by simp [Dt]⟩,by simp only [ht];rfl,?_⟩
 rintro n pos hj
 obtain ⟨hf,hj⟩:=(hJ _ _).1 hj
 cbv
 refine ⟨fun hp=>?_,fun hp=>?_⟩
 ·simp only [ht] at hp hj hf
  cases n with
  |zero=>exfalso;omega
  |succ n=>
  rw [iM,if_pos hp] at hj
  obtain ⟨b1,wG⟩:∃b,b=Hr (dec s pos).1 EM:=⟨_,rfl⟩
  obtain ⟨b2,uI⟩:∃b,b=Hr (dec s pos).1 marks:=⟨_,rfl⟩
  cbv
  refine lA rfl ?_
  cbv
  refine gF trv (Mg ht _ EM rfl (by decide) (r:=b1) (by simp only [ht,ah];exact wG)) trv rfl rfl ?_
  cbv
  repeat (refine gI (by (simp [ht];done)) ?_)
  refine G8 (fun hg=>⟨by simp [ht] at hg ⊢;exact hg,trv,Mg ht _ marks rfl (by decide) (r:=b2) (by simp only [ht,ah];exact uI)⟩) rfl rfl ?_
  cbv
  repeat (first|refine gI (by first|(simp [ht,bU];done)|(simp [ht,bU];intros;simp_all;done)) ?_|refine pI (by (simp [ht];done)) ?_)
  obtain ⟨b,hb⟩:∃b,b=(!b1&&(decide (pos=0)||!b2)):=⟨_,rfl⟩
  have hw:Wl (pos,(dec s pos).1)=!b:=by
   simp only [Wl,←wG,←uI,hb];cases b1<;>cases b2<;>simp
  apply ap<;>intro hc
  ·have hbt:b=true:=by rw [hb];simp [ht,ah] at hc;revert hc;cases b1<;>cases b2<;>simp
   cbv
   refine an ?_
   simp only [List.all_cons,hw,hbt] at hj
   simp [hr,eB,hj]
  have hbf:b=false:=by rw [hb];simp [ht,ah] at hc;revert hc;cases b1<;>cases b2<;>simp
  cbv
  have hd:=L3 s pos hp
  refine aE ⟨n,pos+(dec s pos).2,⟨by omega,(hJ _ _).2 ⟨by omega,?_⟩⟩,?_⟩
  ·rw [hj,List.all_cons,hw,hbf];rfl
  simp only [ht];rfl
 simp only [ht] at hp hj
 have e:iM s n pos=[]:=by cases n with
  |zero=>rfl
  |succ n=>rw [iM,if_neg hp]
 rw [e] at hj
 obtain ⟨k,hk⟩:∃k:Int,k=rf s:=⟨_,rfl⟩
 cbv
 refine pX rfl ?_
 cbv
 repeat (refine gI (by (simp [ht];done)) ?_)
 refine G8 (fun hg=>⟨by simp [ht] at hg ⊢;exact hg,trv,QR ht s hs hk⟩) rfl rfl ?_
 cbv
 repeat (first|refine gI (by (simp [ht];done)) ?_|refine pI (by (simp [ht];done)) ?_)
 refine an ?_
 simp only [List.all_nil] at hj
 simp only [ht,ah,hr,eB,hj,hk,Bool.true_and]
 simp
 congr 1
 rw [decide_eq_decide];omega
theorem QS (ht:TT t) (l:List dj) (hl:l.length<9223372036854775807) (nI:∀p∈l,p.sm) {es:List (List D)} (aC:es=l.map dj.cells) {r:Bool} (hr:r=uk l):FC 122 [SL es] [] (.ret (BL r)) []:=by
 have hel:es.length=l.length:=by rw [aC,lgM]
 obtain ⟨J,hJ⟩:∃J:Nat→Nat→Prop,∀n v,J n v↔(v+n=l.length∧jH none l=jH (lR l v) (l.drop v)):=⟨fun n v=>v+n=l.length∧jH none l=jH (lR l v) (l.drop v),fun _ _=>Iff.rfl⟩
 refine cr ht Tryz.func122 (N:=41) ?_
 cbv
 refine bA ⟨[0,2,5,6,7],[],[]⟩ (σ:=Nat) (fun k=>[(7,bD (t _ fun _=>(k:Int)))]) (fun _=>[]) J ?_
 cbv
 refine aE ⟨l.length,0,(hJ _ _).2 ⟨by simp,by simp [lR]⟩,by simp only [ht];rfl,?_⟩
 rintro n k hj
 obtain ⟨h2,h3⟩:=(hJ _ _).1 hj
 clear hj
 cbv
 apply ap<;>intro h
 ·simp only [ht,ah,decide_eq_true_eq] at h
  have hk:k<l.length:=by omega
  obtain ⟨⟨ky,vl⟩,hx⟩:∃x,l[k]?=some x:=⟨l[k],by simp⟩
  obtain ⟨sk,sv⟩:=nI _ (List.mem_of_getElem? hx)
  obtain ⟨b1,wG⟩:∃b,b=eB ky:=⟨_,rfl⟩
  obtain ⟨b2,uI⟩:∃b,b=eB vl:=⟨_,rfl⟩
  cbv
  refine ix [.str ky,.str vl] ?_ ?_ ?_
  ·simp only [ht,ah];refine ⟨by omega,h,?_⟩;rw [aC];intro r hr;obtain ⟨y,_,rfl⟩:=List.mem_map.1 hr;rfl
  ·simp [ht,ah,aC,hx]
  cbv
  refine bS [true,true,true,true,true,true,true,true,true,true,true,true,true,true,false,false,false,false,false,false,false,false,true,true,true] ?_
  cbv
  refine gF trv (BF ht ky sk wG) trv rfl rfl ?_
  cbv
  repeat (refine gI (by (simp [ht];done)) ?_)
  refine G8 (fun hg=>⟨by simp [ht] at hg ⊢;exact hg,trv,BF ht vl sv uI⟩) rfl rfl ?_
  cbv
  obtain ⟨⟨qk,qv⟩,hq⟩:∃q:dj,k≠0→l[k-1]?=some q:=by
   by_cases h0:k=0
   ·exact ⟨⟨[],[]⟩,fun h=>absurd h0 h⟩
   exact ⟨l[k-1],fun _=>by simp⟩
  repeat (first|refine gI (by (simp [ht];done)) ?_|refine pI (by (simp [ht];done)) ?_)
  refine Tu [.str qk,.str qv] ?_ ?_
  ·intro hg
   simp [ht,ah] at hg
   have h0:k≠0:=by omega
   have hw:IntKind.i64.wrap ((k:Int)-1)=((k-1:Nat):Int):=by rw [wrap64 (by omega) (by omega)];omega
   refine ⟨⟨?_,?_⟩,?_⟩
   ·simp [ht,ah];omega
   ·simp only [ht,ah,hw]
    refine ⟨by omega,by omega,?_⟩
    rw [aC];intro r hr;obtain ⟨y,_,rfl⟩:=List.mem_map.1 hr;rfl
   simp [ht,ah,hw,aC,hq h0]
  cbv
  repeat (first|refine gI (by first|(simp [ht,bU];done)|(simp [ht,bU];intros;simp_all;done)) ?_|refine pI (by (simp [ht];done)) ?_)
  obtain ⟨b,hb⟩:∃b,b=(!b1||!b2||(decide (0<k)&&sle ky qk)):=⟨_,rfl⟩
  have hstep:jH (lR l k) (l.drop k)=(!b&&jH (lR l (k+1)) (l.drop (k+1))):=by
   have e1:l.drop k=⟨ky,vl⟩::l.drop (k+1):=by
    rw [List.drop_eq_getElem_cons hk];congr 1
    rw [List.getElem?_eq_getElem hk] at hx;exact Option.some.inj hx
   have e2:lR l (k+1)=some ky:=by simp [lR,hx]
   rw [e1,e2]
   cases k with
   |zero=>simp [jH,lR,←wG,←uI,hb]
   |succ k=>
    have:=hq (by omega)
    simp only [Nat.add_sub_cancel] at this
    simp [jH,lR,this,←wG,←uI,hb]
  apply ap<;>intro hc
  ·have hbt:b=true:=by rw [hb];simp [ht,ah,sle] at hc ⊢;revert hc;cases b1<;>cases b2<;>simp
   cbv
   refine an ?_
   rw [hr,uk,h3,hstep,hbt];rfl
  have hbf:b=false:=by rw [hb];simp [ht,ah,sle] at hc ⊢;revert hc;cases b1<;>cases b2<;>simp
  cbv
  refine aE ⟨n-1,k+1,⟨by omega,(hJ _ _).2 ⟨by omega,?_⟩⟩,?_⟩
  ·rw [h3,hstep,hbf];rfl
  simp only [ht,ah,aB (show k<9223372036854775807 by omega)];rfl
 simp only [ht,ah,decide_eq_false_iff_not] at h
 have hk:k=l.length:=by omega
 clear h
 cbv
 refine an ?_
 simp only [ht,ah,hel,hr,uk,h3,hk,List.drop_length,jH,Bool.true_and]
 simp
 omega
theorem BG (ht:TT t) {l:List Node} {ps:List Place} {es qs:List (List D)} (aC:es=l.map Node.cells) (dF:qs=ps.map Place.cells) (hl:l.length<1000000000) (EB:ps.length<1000000000):
 FC 96 [.agg [SL es,SL qs]] [] (.ret (Wm t (t _ fun _=>l.filterMap (oa l ps)))) []:=by
 refine cr ht Tryz.func96 (N:=38) ?_
 cbv
 have aF:es.length=l.length:=by rw [aC,lgM]
 have bZ:qs.length=ps.length:=by rw [dF,lgM]
 obtain ⟨J0,dz⟩:∃J0:Nat→List (List D)×Int→Prop,∀n o i,J0 n (o,i)↔(∃(k:Nat) (rs:List bM),i=k∧k+n=l.length∧o=rs.map bM.cells∧rs.length≤k∧l.filterMap (oa l ps)=rs++(l.drop k).filterMap (oa l ps)):=⟨fun n v=>match v with|(o,i)=>(∃(k:Nat) (rs:List bM),i=k∧k+n=l.length∧o=rs.map bM.cells∧rs.length≤k∧l.filterMap (oa l ps)=rs++(l.drop k).filterMap (oa l ps)),fun _ _ _=>Iff.rfl⟩
 refine bA ⟨[1,3,9,10,11],[(3,6)],[]⟩ (σ:=List (List D)×Int) (fun v=>[(3,.ow 1 6 (t _ fun _=>(v.1).length)),(11,.d (.int .i64 (t _ fun _=>v.2)))]) (fun v=>[(1,.row 6 (t _ fun _=>v.1))]) J0 ?_
 cbv
 refine aE ⟨l.length,([],_),(dz _ _ _).2 ?_,by simp only [ht];rfl,?_⟩
 ·exact ⟨0,[],rfl,by simp,rfl,by simp,by simp⟩
 rintro n ⟨o,i⟩ hj
 replace hj:=(dz _ _ _).1 hj
 obtain ⟨k,rs,rfl,j1,j2,j3,j4⟩:=hj
 have Zi:o.length=rs.length:=by rw [j2,lgM]
 cbv
 apply ap<;>intro h1
 ·simp [ht,ah,aF] at h1
  cbv
  refine ig ht aC (cT:=Node.aS t) (by (simp only [ht,ah];omega)) (by (simp only [ht,ah];omega)) (fun _=>rfl) (fun _=>(by (simp only [ht,Node.aS];done))) (fun x2 gX=>?_)
  simp [ht,ah] at gX
  rw [eI gX,List.filterMap_cons,oa] at j4
  cbv
  refine aG (E6 ht _ ‹_› ‹_› (by omega) (by omega)) trv (fun r3 kO=>?_)
  simp only [ht] at kO
  cbv
  iterate 2 refine gI (by simp) ?_
  refine pI (by simp) ?_
  apply ap<;>intro h4
  ·simp [ht] at h4
   cbv
   refine ⟨?_,?_⟩
   ·(simp only [ht,true_and];exact Vv j2 (fun _=>rfl) rfl (by omega) (by decide))
   cbv
   refine bG (_,_) (by simp only [ht,←List.length_append];rfl) (n-1) ?_ ((dz _ _ _).2 ?_)
   ·omega
   simp only [ah]
   refine ⟨k+1,rs++[⟨(x2).name,(eG (x2).name l ps).1,(x2).labels⟩],aB (by omega),by omega,?_,by simp;omega,?_⟩
   ·(simp [bM.cells, *];done)
   (simp_all;done)
  simp [ht] at h4
  cbv
  refine bG (_,_) (by simp only [ht];rfl) (n-1) ?_ ((dz _ _ _).2 ?_)
  ·omega
  simp only [ah]
  exact ⟨k+1,rs,aB (by omega),by omega,j2,by omega,by grind⟩
 simp [ht,ah,aF] at h1
 cbv
 refine lQ trv (by simp [ht]) rfl rfl rfl ?_
 (rw [List.drop_eq_nil_of_le (by omega)] at j4;simp [*];done)
theorem ot (ht:TT t) (s:aH) (hs:s.length<9223372036854775807):FC 121 [ST s] [] (.ret (cU (t _ fun _=>eB s))) []:=by
 simp only [ht];exact BF ht s hs rfl
theorem DJ (ht:TT t) {l:List dj} {es:List (List D)} (aC:es=l.map dj.cells) (hl:l.length<1000000000) (nI:∀p∈l,p.sm):FC 122 [SL es] [] (.ret (cU (t _ fun _=>uk l))) []:=by
 simp only [ht];exact QS ht l (by omega) nI aC rfl
theorem TZ (ht:TT t) (jb:Int) (nd:aH) (v1 v2 v3 v4:Int) {l:List Node} {es qs:List (List D)} (aC:es=l.map Node.cells) (hl:l.length<1000000000) {r:Bool} (hr:r=Bb l ⟨jb,nd,⟨v1,v2,v3,v4⟩⟩):
 FC 123 [.agg [az jb,ST nd,az v1,az v2,az v3,az v4],.ptr 0 0] [.var [SL es,SL qs]] (.ret (BL r)) [.var [SL es,SL qs]]:=by
 refine jG ht (bz:=[.var [SL es,SL qs]]) Tryz.func123 rfl rfl (N:=9) rfl rfl (n:=1) rfl rfl ?_
 cbv
 have aF:es.length=l.length:=by rw [aC,lgM]
 refine aG (BE ht _ ‹_› (by omega)) trv (fun r0 cN=>?_)
 simp only [ht] at cN
 cbv
 refine an ?_
 (simp [Bb,fh, *];grind)
theorem HQ (ht:TT t) (ns qs:List (List D)) {l:List (Place)} {es:List (List D)} (aC:es=l.map Place.cells) (f:Nat) (p:Place→Bool) (hl:l.length<9223372036854775807)
 (hf:∀x∈l,FC f [.agg [.d (.int .u64 x.bu),.d (.str x.node),.d (.int .u64 x.v.a),.d (.int .u64 x.v.b),.d (.int .u64 x.v.c),.d (.int .u64 x.v.d)],.ptr 0 0] [.var [SL ns,SL qs]] (.ret (BL (p x))) [.var [SL ns,SL qs]]) {r:Int} (hr:r=idxOf p l):FC 173 [SL es,.fn f [.ptr 0 0]] [.var [SL ns,SL qs]] (.ret (bD r)) [.var [SL ns,SL qs]]:=by
 have hel:es.length=l.length:=by rw [aC,lgM]
 refine jG ht (bz:=[.var [SL ns,SL qs]]) Tryz.func173 rfl rfl (N:=19) rfl rfl (n:=1) rfl rfl ?_
 cbv
 refine bA ⟨[0,1,7,8],[],[]⟩ (σ:=Nat) (fun k=>[(8,bD (t _ fun _=>(k:Int)))]) (fun _=>[]) (tF p l) ?_
 cbv
 refine aE ⟨l.length,0,.nil,by simp only [ht];rfl,fun n k hj=>?_⟩
 cbv
 apply ap<;>intro h
 ·simp only [ht,ah,decide_eq_true_eq] at h
  have hk:k<es.length:=by omega
  obtain ⟨x,hx,mQ,px,hpx⟩:=hj.get (by omega)
  have gJ:=hf x mQ
  rw [←hpx] at gJ
  obtain ⟨jb,nd,⟨v1,v2,v3,v4⟩⟩:=x
  cbv
  refine ix [.int .u64 jb,.str nd,.int .u64 v1,.int .u64 v2,.int .u64 v3,.int .u64 v4] ?_ ?_ ?_
  ·simp only [ht,ah];exact pK aC hk fun _=>rfl
  ·simp [ht,ah,aC,hx]
  cbv
  refine dx trv gJ ?_
  cbv
  apply ap<;>intro hb
  ·cbv
   refine an ?_
   simp only [ht,ah,hr,hj.hit hx (hpx▸hb)]
  cbv
  refine aE ⟨n-1,k+1,⟨hj.lt hx,hj.next hx (hpx▸hb)⟩,?_⟩
  simp only [ht,ah,aB (show k<9223372036854775807 by omega)];rfl
 simp only [ht,ah,decide_eq_false_iff_not] at h
 have hk:l.length≤k:=by omega
 clear h
 cbv
 refine an ?_
 rw [hr,hj.none hk]
theorem HR (ht:TT t) (ns qs:List (List D)) {l:List (Place)} {es:List (List D)} (aC:es=l.map Place.cells) (f:Nat) (p:Place→Bool) (hl:l.length<9223372036854775807)
 (hf:∀x∈l,FC f [.agg [.d (.int .u64 x.bu),.d (.str x.node),.d (.int .u64 x.v.a),.d (.int .u64 x.v.b),.d (.int .u64 x.v.c),.d (.int .u64 x.v.d)],.ptr 0 0] [.var [SL ns,SL qs]] (.ret (BL (p x))) [.var [SL ns,SL qs]]) {r:Bool} (hr:r=l.any p):FC 124 [SL es,.fn f [.ptr 0 0]] [.var [SL ns,SL qs]] (.ret (BL r)) [.var [SL ns,SL qs]]:=by
 obtain ⟨k,hk⟩:∃k,k=idxOf p l:=⟨_,rfl⟩
 refine jG ht (bz:=[.var [SL ns,SL qs]]) Tryz.func124 rfl rfl (N:=9) rfl rfl (n:=1) rfl rfl ?_
 cbv
 refine dx trv (HQ ht ns qs aC f p hl hf hk) ?_
 cbv
 refine an ?_
 simp only [ht,hr,fh,hk]
theorem Ny (ht:TT t) {l:List Node} {ps:List Place} {es qs:List (List D)} (aC:es=l.map Node.cells) (dF:qs=ps.map Place.cells) (hl:l.length<1000000000) (EB:ps.length<1000000000) {r:Bool} (hr:r=ps.any (Bb l)):
 FC 124 [SL qs,.fn 123 [.ptr 0 0]] [.var [SL es,SL qs]] (.ret (BL r)) [.var [SL es,SL qs]]:=
 HR ht es qs dF 123 (Bb l) (by omega) (fun x _=>TZ ht x.bu x.node x.v.a x.v.b x.v.c x.v.d aC hl rfl) hr
theorem Nz (ht:TT t) {l:List Node} {ps:List Place} {es qs:List (List D)} (aC:es=l.map Node.cells) (dF:qs=ps.map Place.cells) (hl:l.length<1000000000) (EB:ps.length<1000000000) (nI:∀x∈l,x.sm):
 FC 80 [.agg [SL es,SL qs]] [] (.ret (cU (t _ fun _=>ph ⟨l,ps⟩))) []:=by
 refine cr ht Tryz.func80 (N:=66) ?_
 cbv
 have aF:es.length=l.length:=by rw [aC,lgM]
 have bZ:qs.length=ps.length:=by rw [dF,lgM]
 obtain ⟨J0,dz⟩:∃J0:Nat→Int→Prop,∀n i,J0 n i↔(∃k:Nat,i=k∧k+n=l.length∧jI l ps none l=jI l ps (oc l k) (l.drop k)):=⟨fun n v=>match v with|i=>(∃k:Nat,i=k∧k+n=l.length∧jI l ps none l=jI l ps (oc l k) (l.drop k)),fun _ _=>Iff.rfl⟩
 refine bA ⟨[1,9,10,11],[],[]⟩ (σ:=Int) (fun v=>[(11,.d (.int .i64 (t _ fun _=>v)))]) (fun v=>[]) J0 ?_
 cbv
 refine aE ⟨l.length,_,(dz _ _).2 ?_,by simp only [ht];rfl,?_⟩
 ·exact ⟨0,rfl,by simp,by simp [oc]⟩
 rintro n i hj
 replace hj:=(dz _ _).1 hj
 obtain ⟨k,rfl,j1,j4⟩:=hj
 cbv
 apply ap<;>intro h1
 ·simp [ht,ah,aF] at h1
  cbv
  refine ig ht aC (cT:=Node.aS t) (by (simp only [ht,ah];omega)) (by (simp only [ht,ah];omega)) (fun _=>rfl) (fun _=>(by (simp only [ht,Node.aS];done))) (fun x2 gX=>?_)
  simp [ht,ah] at gX
  simp only [eI gX,jI] at j4
  first|obtain ⟨s1,s2,s3⟩:=nI _ (List.mem_of_getElem? gX)|skip
  cbv
  refine aG (E6 ht _ ‹_› ‹_› (by omega) (by omega)) trv (fun r3 kO=>?_)
  simp only [ht] at kO
  cbv
  refine bS [true,true,true,true,true,true,true,true,true,true,true,true,true,true,true,true,true,true,false,false,false,false,false,false,false,false,false,true,true,true] ?_
  cbv
  iterate 2 refine gI (by simp [ht]) ?_
  refine cj (fun g4=>⟨by simp [ht] at g4 ⊢;exact g4,trv,ot ht _ ‹_›⟩) rfl rfl (fun r5 sO=>?_)
  simp only [ht] at sO
  cbv
  refine gI (by simp [ht]) ?_
  refine pI (by simp [ht]) ?_
  iterate 2 refine gI (by simp [ht]) ?_
  refine cj (fun g6=>⟨by simp [ht] at g6 ⊢;exact g6,trv,DJ ht (ko ht rfl) ‹_› ‹_›⟩) rfl rfl (fun r7 rG=>?_)
  simp only [ht] at rG
  cbv
  refine gI (by simp [ht]) ?_
  refine pI (by simp [ht]) ?_
  iterate 9 refine gI (by simp [ht]) ?_
  (refine Ht ht aC (cT:=Node.aS t) (k-1) (fun g=>by simp [ht,ah] at g ⊢;simp [g]) (fun g=>by simp [ht,ah] at g;simp only [ht,ah];exact ⟨pi (by omega) (by omega),by omega⟩) (fun _=>rfl) (fun _=>by simp only [ht,Node.aS]) (fun y my=>?_);simp [ht,ah] at my)
  cbv
  iterate 3 refine gI (by simp [ht]) ?_
  refine gI (by simp [ht,bU];intros;simp_all) ?_
  refine pI (by simp [ht]) ?_
  apply ap<;>intro h8
  ·simp [ht,ah] at h8
   cbv
   refine an ?_
   (simp only [ht];rw [Du] at j4;grind [ph,sle])
  simp [ht,ah] at h8
  cbv
  refine bG _ rfl (n-1) ?_ ((dz _ _).2 ?_)
  ·omega
  simp only [ht,ah]
  refine ⟨k+1,aB (by omega),by omega,?_⟩
  (rw [Du] at j4;simp only [oc,gX,Option.map_some];grind [sle])
 simp [ht,ah,aF] at h1
 cbv
 iterate 3 refine gI (by simp [ht]) ?_
 (obtain ⟨r9,gD⟩:∃r,r=ps.any (Bb l):=⟨_,rfl⟩;refine Wg [0] (fun g=>⟨by simp [ht] at g ⊢;exact g,Ny ht aC dF hl EB gD⟩) rfl rfl rfl rfl ?_)
 cbv
 refine gI (by simp [ht]) ?_
 refine pI (by simp [ht]) ?_
 refine an ?_
 (rw [List.drop_eq_nil_of_le (by omega),jI] at j4;simp [ht,ah,ph,j4,gD,aF];congr 1;rw [decide_eq_decide];omega)
def Term.sm (x:Term):Prop:=x.key.length<9223372036854775807∧x.mU.length<1000000000∧∀v∈x.mU,v.length<9223372036854775807
def prevStr (l:List aH) (k:Nat):Option aH:=match k with
 |0=>none
 |k+1=>l[k]?
theorem tm8 (a:Nat):(a:Int).tmod 8=((a%8:Nat):Int):=by rw [Int.tmod_eq_emod_of_nonneg (by omega)];rfl
theorem Zj (a:Nat):(a:Int).tmod 12=((a%12:Nat):Int):=by rw [Int.tmod_eq_emod_of_nonneg (by omega)];rfl
theorem XO (a:Nat):(a:Int).tmod 5=((a%5:Nat):Int):=by rw [Int.tmod_eq_emod_of_nonneg (by omega)];rfl
theorem tm4 (a:Nat):(a:Int).tmod 4=((a%4:Nat):Int):=by rw [Int.tmod_eq_emod_of_nonneg (by omega)];rfl
theorem tm3 (a:Nat):(a:Int).tmod 3=((a%3:Nat):Int):=by rw [Int.tmod_eq_emod_of_nonneg (by omega)];rfl
theorem tm2 (a:Nat):(a:Int).tmod 2=((a%2:Nat):Int):=by rw [Int.tmod_eq_emod_of_nonneg (by omega)];rfl
theorem td5 (a:Nat):(a:Int).tdiv 5=((a / 5:Nat):Int):=by rw [Int.tdiv_eq_ediv_of_nonneg (by omega)];rfl
theorem abn (a:Nat):(a:Int).tdiv 25=((a / 25:Nat):Int):=by rw [Int.tdiv_eq_ediv_of_nonneg (by omega)];rfl
theorem td3 (a:Nat):(a:Int).tdiv 3=((a / 3:Nat):Int):=by rw [Int.tdiv_eq_ediv_of_nonneg (by omega)];rfl
theorem wu8 (a:Nat) (h:a<256):IntKind.u8.wrap (a:Int)=(a:Int):=by simp only [IntKind.wrap];simp [IntKind.bits,IntKind.signed];omega
theorem T0 (a:Nat) (h:a<256):IntKind.u64.wrap (a:Int)=(a:Int):=by simp only [IntKind.wrap];simp [IntKind.bits,IntKind.signed];omega
theorem NA (a:Nat) (h:a<1000000000):IntKind.i64.wrap (a:Int)=(a:Int):=wrap64 (by omega) (by omega)
def abp (t:Th) (x:Ask):AV:=.agg [ST x.path,az x.gB.a,az x.gB.b,az x.gB.c,az x.gB.d,bD x.count,bD x.prio,bD x.eZ,SL (t _ fun _=>x.bY.map Term.cells)]
abbrev U8 (x:Int):AV:=.d (.int .u8 x)
def E7:List (List D):=[[D.str [97]],[D.str [97,47,98]],[D.str [98]],[D.str [206,177,206,178]]]
theorem QT (k:Nat):(0≤((k%4:Nat):Int))∧((k%4:Nat):Int)<E7.length∧∀r,r∈E7→r.length=1:=by
 refine ⟨by omega,?_,by decide+revert⟩
 show ((k%4:Nat):Int)<(4:Nat)
 omega
theorem QU (k:Nat):E7.getD ((k%4:Nat):Int).toNat []=[D.str (Bz.getD (k%4) [])]:=by
 have:∀k<4,E7.getD ((k:Nat):Int).toNat []=[D.str (Bz.getD k [])]
  |0,_=>rfl
  |1,_=>rfl
  |2,_=>rfl
  |3,_=>rfl
  |k+4,h=>by omega
 exact this _ (Nat.mod_lt _ (by decide))
theorem WB (ht:TT t) (nm:aH) (a b c d:Int) {lb:List (List D)} (up:Bool) (XZ:aH) (a' b' c' d':Int) {lb':List (List D)} (up':Bool) {r:Bool} (hr:r=!Op.bytesLess XZ nm):
 FC 145 [.agg [ST XZ,az a',az b',az c',az d',SL lb',BL up'],.ptr 0 0] [.var [ST nm,az a,az b,az c,az d,SL lb,BL up]] (.ret (BL r)) [.var [ST nm,az a,az b,az c,az d,SL lb,BL up]]:=by
 refine jG ht (bz:=[.var [ST nm,az a,az b,az c,az d,SL lb,BL up]]) Tryz.func145 rfl rfl (N:=9) rfl rfl (n:=1) rfl rfl ?_
 cbv
 refine an ?_
 (simp only [ht,hr];done)
theorem Kn (ht:TT t) (nm:aH) (a b c d:Int) (lb:List (List D)) (up:Bool) {l:List (Node)} {es:List (List D)} (aC:es=l.map Node.cells) (f:Nat) (p:Node→Bool) (hl:l.length<9223372036854775807)
 (hf:∀x∈l,FC f [.agg [.d (.str x.name),.d (.int .u64 x.cap.a),.d (.int .u64 x.cap.b),.d (.int .u64 x.cap.c),.d (.int .u64 x.cap.d),.d (.sl (x.labels.map dj.cells)),.d (.bool x.up)],.ptr 0 0] [.var [ST nm,az a,az b,az c,az d,SL lb,BL up]] (.ret (BL (p x))) [.var [ST nm,az a,az b,az c,az d,SL lb,BL up]]) {r:Int} (hr:r=idxOf p l):FC 112 [SL es,.fn f [.ptr 0 0]] [.var [ST nm,az a,az b,az c,az d,SL lb,BL up]] (.ret (bD r)) [.var [ST nm,az a,az b,az c,az d,SL lb,BL up]]:=by
 have hel:es.length=l.length:=by rw [aC,lgM]
 refine jG ht (bz:=[.var [ST nm,az a,az b,az c,az d,SL lb,BL up]]) Tryz.func112 rfl rfl (N:=19) rfl rfl (n:=1) rfl rfl ?_
 cbv
 refine bA ⟨[0,1,7,8],[],[]⟩ (σ:=Nat) (fun k=>[(8,bD (t _ fun _=>(k:Int)))]) (fun _=>[]) (tF p l) ?_
 cbv
 refine aE ⟨l.length,0,.nil,by simp only [ht];rfl,fun n k hj=>?_⟩
 cbv
 apply ap<;>intro h
 ·simp only [ht,ah,decide_eq_true_eq] at h
  have hk:k<es.length:=by omega
  obtain ⟨x,hx,mQ,px,hpx⟩:=hj.get (by omega)
  have gJ:=hf x mQ
  rw [←hpx] at gJ
  obtain ⟨XZ,⟨a',b',c',d'⟩,lb',up'⟩:=x;obtain ⟨HS,mK⟩:∃lr:List (List D),lr=lb'.map dj.cells:=⟨_,rfl⟩;simp only [←mK] at gJ
  cbv
  refine ix [.str XZ,.int .u64 a',.int .u64 b',.int .u64 c',.int .u64 d',.sl HS,.bool up'] ?_ ?_ ?_
  ·simp only [ht,ah];exact pK aC hk fun _=>rfl
  ·simp [ht,ah,aC,hx,mK]
  cbv
  refine dx trv gJ ?_
  cbv
  apply ap<;>intro hb
  ·cbv
   refine an ?_
   simp only [ht,ah,hr,hj.hit hx (hpx▸hb)]
  cbv
  refine aE ⟨n-1,k+1,⟨hj.lt hx,hj.next hx (hpx▸hb)⟩,?_⟩
  simp only [ht,ah,aB (show k<9223372036854775807 by omega)];rfl
 simp only [ht,ah,decide_eq_false_iff_not] at h
 have hk:l.length≤k:=by omega
 clear h
 cbv
 refine an ?_
 rw [hr,hj.none hk]
theorem tG (ht:TT t) {l:List Node} {x:Node} {k:Nat} {i:Int} {lr:List (List D)} (hi:i=k) (hk:k≤l.length) (hl:l.length<1000000) (hlr:lr=x.labels.map dj.cells):
 FC 146 [.ow 0 7 (t _ fun _=>(l.map Node.cells).length),bD i,.cl [[.str x.name,.int .u64 x.cap.a,.int .u64 x.cap.b,.int .u64 x.cap.c,.int .u64 x.cap.d,.sl lr,.bool x.up]]] [.row 7 (t _ fun _=>l.map Node.cells)] (.ret (SL (t _ fun _=>(l.take k++x::l.drop k).map Node.cells))) [.dead]:=by
 simp only [ht];subst hi hlr
 refine pn (args':=[.ow 0 7 (l.map Node.cells).length,bD k,SL [Node.cells x]]) ?_ (E3 ht (by simp) (by simpa using hk) ?_ rfl (by simpa using hl) (by simp))
 ·intro β w ok vs h
  simp only [ak] at h ⊢
  obtain ⟨u1,us1,rfl,h1,u2,Pn,rfl,h2,u3,WC,rfl,h3,h4⟩:=h
  exact ⟨u1,_,rfl,h1,u2,_,rfl,h2,u3,WC,rfl,L5 h3,h4⟩
 intro r hr;obtain ⟨y,_,rfl⟩:=List.mem_map.1 hr;rfl
theorem Ko (ht:TT t) {l:List Node} {ps:List Place} {es qs:List (List D)} (aC:es=l.map Node.cells) (dF:qs=ps.map Place.cells) (nm:aH) (a b c d:Int) {lb:List dj} {lr:List (List D)} (hlr:lr=lb.map dj.cells) (up:Bool) (hl:l.length<1000000000) (hn:nm.length<9223372036854775807) (hlb:lb.length<1000000000) (nI:∀p∈lb,p.sm):
 FC 93 [.agg [SL es,SL qs],.agg [ST nm,az a,az b,az c,az d,SL lr,BL up]] [] (.ret (EQ t (t _ fun _=>ri ⟨l,ps⟩ ⟨nm,⟨a,b,c,d⟩,lb,up⟩))) []:=by
 refine cr ht Tryz.func93 (N:=51) ?_
 cbv
 have aF:es.length=l.length:=by rw [aC,lgM]
 have bZ:qs.length=ps.length:=by rw [dF,lgM]
 have WD:lr.length=lb.length:=by rw [hlr,lgM]
 refine aG (ot ht _ ‹_›) trv (fun r0 cN=>?_)
 simp only [ht] at cN
 cbv
 apply ap<;>intro h1
 ·simp [ht] at h1
  cbv
  refine an ?_
  (simp only [ht,ri];grind)
 simp [ht] at h1
 cbv
 refine aG (DJ ht ‹_› ‹_› ‹_›) trv (fun r2 iu=>?_)
 simp only [ht] at iu
 cbv
 apply ap<;>intro h3
 ·simp [ht] at h3
  cbv
  refine an ?_
  (simp only [ht,ri];grind)
 simp [ht] at h3
 cbv
 refine aG (BE ht _ ‹_› (by omega)) trv (fun r4 iY=>?_)
 simp only [ht] at iY
 cbv
 apply ap<;>intro h5
 ·simp [ht] at h5
  cbv
  refine an ?_
  (simp only [ht,ri];grind)
 simp [ht] at h5
 cbv
 apply ap<;>intro h6
 ·simp [ht,ah,aF] at h6
  cbv
  refine an ?_
  (simp only [ht,ri];grind)
 simp [ht,ah,aF] at h6
 cbv
 (obtain ⟨r9,gD⟩:∃r,r=idxOf (fun o:Node=>!Op.bytesLess o.name nm) l:=⟨_,rfl⟩;refine dJ [1] trv rfl rfl (Kn ht nm a b c d lr true aC 145 (fun o:Node=>!Op.bytesLess o.name nm) (by omega) (fun x _=>WB ht nm a b c d true x.name x.cap.a x.cap.b x.cap.c x.cap.d x.up rfl) gD) (cA ?_);have ec:=cD gD;clear gD;rcases ec with ⟨e1,e2,e3⟩|⟨i,x,hi,hil,e1,e2,e3,e4⟩)
 ·cbv
  apply ap<;>intro h7
  ·simp [ht] at h7
   cbv
   refine bS [false,false,false,false,false,false,true,true,true] ?_
   cbv
   iterate 2 refine gI (by simp) ?_
   refine .inr (G9 trv (pM ht ‹_› ‹_›) trv rfl (.inr rfl) rfl ?_)
   cbv
   iterate 3 refine gI (by simp) ?_
   refine dJ [3] trv rfl rfl (tG ht (l:=l) (x:=⟨nm,⟨a,b,c,d⟩,lb,true⟩) (k:=pat l nm) (by (simp [ht,pat,e2,aF];done)) (by (simp [pat,e2];done)) (by simp only [ah] at*;omega) hlr) (cA ?_)
   cbv
   refine an ?_
   (simp only [ht,ri];grind)
  simp [ht] at h7
  omega
 cbv
 apply ap<;>intro h8
 ·simp [ht] at h8
  (simp only [ah] at*;omega)
 simp [ht] at h8
 cbv
 refine bS [false,false,false,false,false,false,true,true,true] ?_
 cbv
 iterate 2 refine gI (by simp) ?_
 refine .inr (G9 trv (pM ht ‹_› ‹_›) trv rfl (.inr rfl) rfl ?_)
 cbv
 iterate 3 refine gI (by simp) ?_
 refine dJ [3] trv rfl rfl (tG ht (l:=l) (x:=⟨nm,⟨a,b,c,d⟩,lb,true⟩) (k:=pat l nm) (by (simp only [pat,e3];exact hi)) (by (simp only [pat,e3];omega)) (by simp only [ah] at*;omega) hlr) (cA ?_)
 cbv
 refine an ?_
 (simp only [ht,ri];grind)
def QV (t:Th) (x:CH):AV:=.agg [az x.first,SL (t _ fun _=>x.l.map dc.cells)]
theorem BH (ht:TT t) {es:List (List D)} (hr:∀r∈es,r.length=3):FC 164 [SL es] [] (.ret (.cl es)) []:=by
 refine cr ht Tryz.func164 (N:=9) ?_
 cbv
 refine ⟨?_,JN trv rfl ?_⟩
 ·simp only [ht,ah,bN];exact ⟨⟨⟨by omega,Int.le_refl _⟩,trv⟩,hr⟩
 simp [ht,ah,iH]
theorem T1 (ht:TT t) (first rd id kd:Int):
 FC 110 [.agg [az first,SL []],.agg [az rd,az id,bD kd]] [] (.ret (QV t (t _ fun _=>tell ⟨first,[]⟩ ⟨rd,id,kd⟩))) []:=by
 refine cr ht Tryz.func110 (N:=25) ?_
 cbv
 refine bS [false,false,false,false,false,true,true,true] ?_
 cbv
 iterate 2 refine gI (by simp) ?_
 refine .inl ?_
 (refine nD (fun g=>⟨trv,trv,BH ht (by simp)⟩) rfl rfl rfl ?_)
 cbv
 iterate 2 refine gI (by simp) ?_
 refine ⟨?_,?_⟩
 ·(simp [ht];done)
 refine ⟨?_,?_⟩
 ·(simp [ht];done)
 cbv
 apply ap<;>intro h0
 ·simp [ht] at h0
 simp [ht] at h0
 cbv
 refine lQ trv (by simp [ht]) rfl rfl rfl ?_
 (simp [ht,tell,dc.cells];done)
theorem T2 (ht:TT t) (first rd id kd:Int) (e0:List D) (er:List (List D)) {l:List dc} (aC:e0::er=l.map dc.cells) (hl:l.length<1000000):
 FC 110 [.agg [az first,SL (e0::er)],.agg [az rd,az id,bD kd]] [] (.ret (QV t (t _ fun _=>tell ⟨first,l⟩ ⟨rd,id,kd⟩))) []:=by
 have hr:∀r∈e0::er,r.length=3:=by rw [aC];intro r hr;obtain ⟨y,_,rfl⟩:=List.mem_map.1 hr;rfl
 have hle:(e0::er).length=l.length:=by rw [aC,lgM]
 refine cr ht Tryz.func110 (N:=25) ?_
 cbv
 refine bS [false,false,false,false,false,true,true,true] ?_
 cbv
 iterate 2 refine gI (by simp) ?_
 refine .inl ?_
 (refine nD (fun g=>⟨trv,trv,BH ht hr⟩) rfl rfl rfl ?_)
 cbv
 iterate 2 refine gI (by simp) ?_
 refine ⟨?_,?_⟩
 ·(simp only [ht];grind)
 refine ⟨?_,?_⟩
 ·(simp [ht];done)
 cbv
 apply ap<;>intro h0
 ·simp [ht,ah] at h0
  cbv
  refine ⟨?_,?_⟩
  ·(simp only [ht,bN];refine ⟨by simp,⟨by omega,by simp;omega⟩,?_⟩;intro r h;rcases List.mem_append.1 h with h|h;exact hr r h;simp at h;subst h;rfl)
  cbv
  refine an ?_
  (simp only [ah] at h0;simp only [List.length_cons] at hle;have tl:tell ⟨first,l⟩ ⟨rd,id,kd⟩=⟨u64 (first+1),(l++[(⟨rd,id,kd⟩:dc)]).drop 1⟩:=(by unfold tell;rw [if_pos (by simp only [List.length_append,List.length_cons,List.length_nil];omega)]);simp only [ht,tl,aC,iH,u64,pu];rw [List.map_drop,List.map_append];rfl)
 simp [ht,ah] at h0
 cbv
 refine lQ trv (by simp [ht]) rfl rfl rfl ?_
 (simp only [ah] at h0;simp only [List.length_cons] at hle;have tl:tell ⟨first,l⟩ ⟨rd,id,kd⟩=⟨first,l++[(⟨rd,id,kd⟩:dc)]⟩:=(by unfold tell;rw [if_neg (by simp only [List.length_append,List.length_cons,List.length_nil];omega)]);simp only [ht,tl,aC];rw [List.map_append];rfl)
theorem T3 (ht:TT t) (first rd id kd:Int) {l:List dc} {es:List (List D)} (aC:es=l.map dc.cells) (hl:l.length<1000000):
 FC 110 [.agg [az first,SL es],.agg [az rd,az id,bD kd]] [] (.ret (QV t (t _ fun _=>tell ⟨first,l⟩ ⟨rd,id,kd⟩))) []:=by
 cases l with
 |nil=>subst aC;exact T1 ht first rd id kd
 |cons x l=>subst aC;exact T2 ht first rd id kd _ _ rfl hl
theorem HT {l:List aH} {k:Nat} {x:aH}:EP (prevStr l k) x=(decide (k=0)||match l[k-1]? with|none=>true|some y=>!sle x y):=by
 cases k with
 |zero=>rfl
 |succ k=>simp only [prevStr,EP];cases h:l[k]?<;>simp [h]
theorem NB (ht:TT t) (k:aH) (n:Bool) {vs:List aH} {vr:List (List D)} (HU:vr=vs.map bB) (hk:k.length<9223372036854775807) (hl:vs.length<1000000000) (hs:∀v∈vs,v.length<9223372036854775807):
 FC 208 [.agg [ST k,BL n,SL vr]] [] (.ret (cU (t _ fun _=>mright ⟨k,n,vs⟩))) []:=by
 refine cr ht Tryz.func208 (N:=40) ?_
 cbv
 have xz:vr.length=vs.length:=by rw [HU,lgM]
 obtain ⟨J0,dz⟩:∃J0:Nat→Int→Prop,∀n i,J0 n i↔(∃q:Nat,i=q∧q+n=vs.length∧yH none vs=yH (prevStr vs q) (vs.drop q)):=⟨fun n v=>match v with|i=>(∃q:Nat,i=q∧q+n=vs.length∧yH none vs=yH (prevStr vs q) (vs.drop q)),fun _ _=>Iff.rfl⟩
 refine bA ⟨[1,6,7,8],[],[]⟩ (σ:=Int) (fun v=>[(8,.d (.int .i64 (t _ fun _=>v)))]) (fun v=>[]) J0 ?_
 cbv
 refine aE ⟨vs.length,_,(dz _ _).2 ?_,by simp only [ht];rfl,?_⟩
 ·exact ⟨0,rfl,by simp,by simp [prevStr]⟩
 rintro n i hj
 replace hj:=(dz _ _).1 hj
 obtain ⟨k,rfl,j1,j4⟩:=hj
 cbv
 apply ap<;>intro h1
 ·simp [ht,ah,xz] at h1
  cbv
  refine ig ht HU (cT:=gC t) (by (simp only [ht,ah];omega)) (by (simp only [ht,ah];omega)) (fun _=>rfl) (fun _=>rfl) (fun x2 gX=>?_)
  simp [ht,ah] at gX
  simp only [eI gX,yH] at j4
  have sx2:=hs _ (List.mem_of_getElem? gX)
  cbv
  refine aG (ot ht _ ‹_›) trv (fun r3 kO=>?_)
  simp only [ht] at kO
  cbv
  iterate 8 refine gI (by simp [ht]) ?_
  (refine Ht ht HU (cT:=gC t) (k-1) (fun g=>by simp [ht,ah] at g ⊢;simp [g]) (fun g=>by simp [ht,ah] at g;simp only [ht,ah];exact ⟨pi (by omega) (by omega),by omega⟩) (fun _=>rfl) (fun _=>by simp only [gC]) (fun y my=>?_);simp [ht,ah] at my)
  cbv
  iterate 2 refine gI (by simp [ht]) ?_
  refine gI (by simp [ht,bU];intros;simp_all) ?_
  refine pI (by simp [ht]) ?_
  apply ap<;>intro h4
  ·simp [ht,ah] at h4
   cbv
   refine an ?_
   (simp only [ht];rw [HT] at j4;grind [mright,sle])
  simp [ht,ah] at h4
  cbv
  refine bG _ (by simp only [ht];rfl) (n-1) ?_ ((dz _ _).2 ?_)
  ·omega
  simp only [ah]
  refine ⟨k+1,aB (by omega),by omega,?_⟩
  (rw [HT] at j4;simp only [prevStr];rw [gX];grind [sle])
 simp [ht,ah,xz] at h1
 cbv
 refine aG (ot ht _ ‹_›) trv (fun r5 sO=>?_)
 simp only [ht] at sO
 cbv
 iterate 4 refine gI (by simp) ?_
 refine pI (by simp) ?_
 refine an ?_
 (rw [List.drop_eq_nil_of_le (by omega),yH] at j4;have e:decide ((vs.length:Int)≤4)=decide (vs.length≤4):=(by rw [decide_eq_decide];omega);simp [ht,ah,mright,j4,sO,xz,e];done)
theorem NC (ht:TT t) {l:List (Term)} {es:List (List D)} (aC:es=l.map Term.cells) (f:Nat) (p:Term→Bool) (hl:l.length<9223372036854775807)
 (hf:∀x∈l,FC f [.agg [ST x.key,BL x.no,SL (x.mU.map bB)]] [] (.ret (BL (p x))) []) {r:Int} (hr:r=idxOf p l):FC 114 [SL es,.fn f []] [] (.ret (bD r)) []:=by
 have hel:es.length=l.length:=by rw [aC,lgM]
 refine cr ht Tryz.func114 (N:=19) ?_
 cbv
 refine bA ⟨[0,1,7,8],[],[]⟩ (σ:=Nat) (fun k=>[(8,bD (t _ fun _=>(k:Int)))]) (fun _=>[]) (tF p l) ?_
 cbv
 refine aE ⟨l.length,0,.nil,by simp only [ht];rfl,fun n k hj=>?_⟩
 cbv
 apply ap<;>intro h
 ·simp only [ht,ah,decide_eq_true_eq] at h
  have hk:k<es.length:=by omega
  obtain ⟨x,hx,mQ,px,hpx⟩:=hj.get (by omega)
  have gJ:=hf x mQ
  rw [←hpx] at gJ
  obtain ⟨a,b,c⟩:=x;obtain ⟨HS,mK⟩:∃lr:List (List D),lr=c.map bB:=⟨_,rfl⟩;simp only [←mK] at gJ
  cbv
  refine ix [.str a,.bool b,.sl HS] ?_ ?_ ?_
  ·simp only [ht,ah];exact pK aC hk fun _=>rfl
  ·simp [ht,ah,aC,hx,mK,Term.cells]
  cbv
  refine dx trv gJ ?_
  cbv
  apply ap<;>intro hb
  ·cbv
   refine an ?_
   simp only [ht,ah,hr,hj.hit hx (hpx▸hb)]
  cbv
  refine aE ⟨n-1,k+1,⟨hj.lt hx,hj.next hx (hpx▸hb)⟩,?_⟩
  simp only [ht,ah,aB (show k<9223372036854775807 by omega)];rfl
 simp only [ht,ah,decide_eq_false_iff_not] at h
 have hk:l.length≤k:=by omega
 clear h
 cbv
 refine an ?_
 rw [hr,hj.none hk]
theorem ND (ht:TT t) {l:List (Term)} {es:List (List D)} (aC:es=l.map Term.cells) (f:Nat) (p:Term→Bool) (hl:l.length<9223372036854775807)
 (hf:∀x∈l,FC f [.agg [ST x.key,BL x.no,SL (x.mU.map bB)]] [] (.ret (BL (p x))) []) {r:Bool} (hr:r=l.any p):FC 74 [SL es,.fn f []] [] (.ret (BL r)) []:=by
 obtain ⟨k,hk⟩:∃k,k=idxOf p l:=⟨_,rfl⟩
 refine cr ht Tryz.func74 (N:=9) ?_
 cbv
 refine dx trv (NC ht aC f p hl hf hk) ?_
 cbv
 refine an ?_
 simp only [ht,hr,fh,hk]
theorem Kq (ht:TT t) (k:aH) (n:Bool) {vs:List aH} {vr:List (List D)} (HU:vr=vs.map bB) (hk:k.length<9223372036854775807) (hl:vs.length<1000000000) (hs:∀v∈vs,v.length<9223372036854775807):
 FC 207 [.agg [ST k,BL n,SL vr]] [] (.ret (cU (t _ fun _=>!mright ⟨k,n,vs⟩))) []:=by
 refine cr ht Tryz.func207 (N:=6) ?_
 cbv
 have xz:vr.length=vs.length:=by rw [HU,lgM]
 refine aG (NB ht _ _ ‹_› ‹_› ‹_› ‹_›) trv (fun r0 cN=>?_)
 simp only [ht] at cN
 cbv
 refine an ?_
 (simp [*];done)
theorem HV (ht:TT t) {l:List Term} {es:List (List D)} (aC:es=l.map Term.cells) (hl:l.length<1000000000) (nI:∀x∈l,x.sm):
 FC 74 [SL es,.fn 207 []] [] (.ret (cU (t _ fun _=>l.any fun x=>!mright x))) []:=by
 simp only [ht];exact ND ht aC _ _ (by omega) (fun x hx=>by have h:=Kq ht x.key x.no (vs:=x.mU) rfl (nI x hx).1 (nI x hx).2.1 (nI x hx).2.2;simp only [ht,cU] at h;exact h) rfl
theorem NE (ht:TT t) {l:List Term} {es:List (List D)} (aC:es=l.map Term.cells) (hl:l.length<1000000000) (nI:∀x∈l,x.sm):
 FC 177 [SL es] [] (.ret (cU (t _ fun _=>Bc l))) []:=by
 refine cr ht Tryz.func177 (N:=11) ?_
 cbv
 have aF:es.length=l.length:=by rw [aC,lgM]
 refine gI (by simp [ht]) ?_
 refine cj (fun g0=>⟨by simp [ht] at g0 ⊢;exact g0,trv,HV ht ‹_› ‹_› ‹_›⟩) rfl rfl (fun r1 cM=>?_)
 simp only [ht] at cM
 cbv
 refine gI (by simp [ht]) ?_
 refine pI (by simp [ht]) ?_
 refine an ?_
 (simp only [ht,ah,Bc];grind)
theorem HW (ht:TT t) (s:aH) {z:Int} (hz:z=47):FC 262 [ST s,.d (.int .u8 z)] [] (.ret (kp (t _ fun _=>(s.count 47:Nat)))) []:=by
 subst hz
 refine fcX Tryz.func262 (by kernel_rfl) (by kernel_rfl) (by kernel_rfl) (e:=Extern.BytealgCount.count) (by kernel_rfl) ?_
 intro β w vs ok h
 simp only [ak,aj,aJ] at h
 obtain ⟨_,_,rfl,rfl,_,_,rfl,rfl,rfl⟩:=h
 refine ⟨_,Lib.run_countString _ _ _,?_⟩
 simp [kp,aj,aJ,Lib.countByte,ht]
theorem zB (ht:TT t) (s:aH) {z:Int} (hz:z=47):FC 269 [ST s,.d (.int .u8 z)] [] (.ret (kp (t _ fun _=>Lib.indexByte s 47))) []:=by
 subst hz
 refine fcX Tryz.func269 (by kernel_rfl) (by kernel_rfl) (by kernel_rfl) (e:=Extern.BytealgIndexByte.indexByte) (by kernel_rfl) ?_
 intro β w vs ok h
 simp only [ak,aj,aJ] at h
 obtain ⟨_,_,rfl,rfl,_,_,rfl,rfl,rfl⟩:=h
 refine ⟨_,Lib.run_indexByteString _ _ _,?_⟩
 simp [kp,aj,aJ,ht]
theorem QW (ht:TT t) (s:aH):FC 256 [ST s,ST [47]] [] (.ret (kp (t _ fun _=>(s.count 47:Nat)))) []:=by
 refine cr ht Tryz.func256 (N:=34) ?_
 cbv
 apply ap<;>intro h0
 ·simp [ht] at h0
 simp [ht] at h0
 cbv
 apply ap<;>intro h1
 ·simp [ht] at h1
  cbv
  refine ⟨?_,?_⟩
  ·(simp [ht];done)
  cbv
  refine aG (HW ht _ (ko ht rfl)) trv (fun r2 iu=>?_)
  simp only [ht] at iu
  cbv
  refine an ?_
  (simp [*];done)
 simp [ht] at h1
theorem E8 (ht:TT t) (s:aH) {z:Int} (hz:z=47):FC 265 [ST s,.d (.int .u8 z)] [] (.ret (kp (t _ fun _=>Lib.indexByte s 47))) []:=by
 refine cr ht Tryz.func265 (N:=8) ?_
 cbv
 refine aG (zB ht _ ‹_›) trv (fun r0 cN=>?_)
 simp only [ht] at cN
 cbv
 refine an ?_
 (simp [*];done)
theorem Kr (ht:TT t) (s:aH):FC 263 [ST s,ST [47]] [] (.ret (kp (t _ fun _=>Lib.indexByte s 47))) []:=by
 refine cr ht Tryz.func263 (N:=143) ?_
 cbv
 iterate 3 refine gI (by simp [ht]) ?_
 refine pI (by simp [ht]) ?_
 apply ap<;>intro h0
 ·simp [ht] at h0
  cbv
  refine an ?_
  (subst h0;(try simp only [ht]);rfl)
 simp [ht] at h0
 cbv
 apply ap<;>intro h1
 ·simp [ht] at h1
  cbv
  refine ⟨?_,?_⟩
  ·(simp [ht];done)
  cbv
  refine aG (E8 ht _ (ko ht rfl)) trv (fun r2 iu=>?_)
  simp only [ht] at iu
  cbv
  refine an ?_
  (simp [*];done)
 simp [ht] at h1
theorem QX (ht:TT t) (s:aH):FC 257 [ST s,ST [47]] [] (.ret (kp (t _ fun _=>Lib.indexByte s 47))) []:=by
 refine cr ht Tryz.func257 (N:=8) ?_
 cbv
 refine aG (Kr ht _) trv (fun r0 cN=>?_)
 simp only [ht] at cN
 cbv
 refine an ?_
 (simp [*];done)
theorem WE {pre:List aH} {m k:Nat} {x:aH} {u:List (List D)} (h:pre.length=k) (hk:k≤m) (hu:u=(pre++List.replicate (m+1-k) []).map bB):
 u.set k (be (u.getD k []) 0 [D.str x])=((pre++[x])++List.replicate (m-k) []).map bB:=by
 obtain ⟨d,rfl⟩:∃d,m=k+d:=⟨m-k,by omega⟩
 have e:k+d+1-k=d+1:=by omega
 rw [hu,e,Nat.add_sub_cancel_left,List.replicate_succ]
 simp [be,←h,bB]
theorem QY {pre:List aH} {m k:Nat} {x:aH} {V:List (List D)} (hV:V=((pre++[x])++List.replicate (m-k) []).map bB) (h:pre.length=k) (hk:k≤m) (hm:m<1000000000001):
 m+1=V.length∧(bN V.length none (some (IntKind.i64.wrap ((k:Int)+1)))∧∀r∈V,r.length=1)∧iH V none (some (IntKind.i64.wrap ((k:Int)+1)))=(pre++[x]).map bB:=by
 have e:IntKind.i64.wrap ((k:Int)+1)=((k+1:Nat):Int):=by rw [wrap64 (by omega) (by omega)];omega
 have hl:V.length=m+1:=by rw [hV];simp [h];omega
 refine ⟨hl.symm,⟨?_,?_⟩,?_⟩
 ·rw [e,hl];simp only [bN];omega
 ·intro r hr;rw [hV] at hr;obtain ⟨y,_,rfl⟩:=List.mem_map.1 hr;rfl
 rw [e,hV];simp only [iH,Int.toNat_natCast];rw [List.map_append,List.take_append_of_le_length (by simp [h]),List.take_of_length_le (by simp [h])]
theorem HX (ht:TT t) (s:aH) (hs:s.length<1000000000000):FC 246 [ST s,ST [47],bD 0,bD (-1)] [] (.ret (Hs t (t _ fun _=>bR 47 s))) []:=by
 obtain ⟨m,hm⟩:∃m,m=s.count 47:=⟨_,rfl⟩
 have hms:m≤s.length:=by rw [hm];exact List.count_le_length
 have hmin:∀r:Int,r=(m:Nat)→min (IntKind.i64.wrap (r+1)) (IntKind.i64.wrap ((s.length:Int)+1))=((m+1:Nat):Int):=fun r hr=>by rw [hr,wrap64 (by omega) (by omega),wrap64 (by omega) (by omega)];omega
 have hmv:IntKind.i64.wrap (m:Int)=(m:Int):=wrap64 (by omega) (by omega)
 have hmw:IntKind.i64.wrap (((m+1:Nat):Int)-1)=(m:Int):=by rw [wrap64 (by omega) (by omega)];omega
 refine cr ht Tryz.func246 (N:=66) ?_
 cbv
 apply ap<;>intro h0
 ·simp [ht] at h0
 simp [ht] at h0
 cbv
 apply ap<;>intro h1
 ·simp [ht] at h1
 simp [ht] at h1
 cbv
 apply ap<;>intro h2
 ·simp [ht] at h2
  cbv
  refine aG (QW ht _) trv (fun r3 kO=>?_)
  simp only [ht] at kO
  (rw [←hm] at kO;replace hmin:=hmin _ kO)
  cbv
  refine ⟨?_,?_⟩
  ·(simp only [ht,ah];grind)
  cbv
  obtain ⟨J4,HY⟩:∃J4:Nat→List UInt8×Int×List (List D)→Prop,∀n s2 i u,J4 n (s2,i,u)↔(∃(k:Nat) (pre:List aH),i=k∧pre.length=k∧bR 47 s=pre++bR 47 s2∧k+s2.count 47=m∧k+n=m∧u=(pre++List.replicate (m+1-k) []).map bB∧s2.length≤s.length):=⟨fun n v=>match v with|(s2,i,u)=>(∃(k:Nat) (pre:List aH),i=k∧pre.length=k∧bR 47 s=pre++bR 47 s2∧k+s2.count 47=m∧k+n=m∧u=(pre++List.replicate (m+1-k) []).map bB∧s2.length≤s.length),fun _ _ _ _=>Iff.rfl⟩
  refine bA ⟨[0,1,2,3,9,10],[],[]⟩ (σ:=List UInt8×Int×List (List D)) (fun v=>[(0,.d (.str (t _ fun _=>v.1))),(10,.d (.int .i64 (t _ fun _=>v.2.1)))]) (fun v=>[(0,.row 1 (t _ fun _=>v.2.2))]) J4 ?_
  cbv
  refine aE ⟨m,(_,_,_),(HY _ _ _ _).2 ?_,by simp only [ht];rfl,?_⟩
  ·exact ⟨0,[],rfl,rfl,rfl,by omega,by omega,by simp only [hmin];simp,by omega⟩
  rintro n ⟨s2,i,u⟩ hj
  replace hj:=(HY _ _ _ _).1 hj
  obtain ⟨k,pre,rfl,j1,j2,j3,j4,j5,j6⟩:=hj
  have WG:=fun x=>WE (x:=x) j1 (show k≤m by omega) j5
  cbv
  apply ap<;>intro h5
  ·simp [ht,ah,hmin,hmv] at h5
   cbv
   refine aG (QX ht _) trv (fun r6 mL=>?_)
   simp only [ht] at mL
   cbv
   apply ap<;>intro h7
   ·simp [ht] at h7
    cbv
    refine ⟨?_,?_⟩
    ·(exfalso;have q:=ER mL h7;omega)
    refine ⟨?_,?_⟩
    ·(exfalso;have q:=ER mL h7;omega)
    refine ⟨?_,?_⟩
    ·(exfalso;have q:=ER mL h7;omega)
    cbv
    refine an ?_
    (exfalso;have q:=ER mL h7;omega)
   simp [ht] at h7
   cbv
   refine ⟨?_,?_⟩
   ·(obtain ⟨j,e1,e2,e3,e4⟩:=ES mL h7;simp only [ht,e1];simp [bN];rw [wrap64 (by omega) (by omega)];omega)
   refine ⟨?_,?_⟩
   ·(simp only [ht,ah] at*;omega)
   refine ⟨?_,?_⟩
   ·(simp only [ht,ah];grind)
   refine ⟨?_,?_⟩
   ·(obtain ⟨j,e1,e2,e3,e4⟩:=ES mL h7;simp only [ht,e1];simp [bN];rw [wrap64 (by omega) (by omega)];omega)
   cbv
   refine bG (_,_,_) (by simp only [ht];rfl) (n-1) ?_ ((HY _ _ _ _).2 ?_)
   ·omega
   simp only [ah]
   (obtain ⟨j,e1,e2,e3,e4⟩:=ES mL h7;subst e1;have ew:IntKind.i64.wrap ((j:Int)+([47]:aH).length)=((j+1:Nat):Int):=(by simp;rw [wrap64 (by omega) (by omega)]);have ez:IntKind.i64.wrap ((j:Int)+0)=(j:Nat):=(by rw [wrap64 (by omega) (by omega)];omega);rw [ew,ez];simp only [iH,Int.toNat_natCast];exact ⟨k+1,pre++[s2.take j],aB (by omega),by simp [j1],by rw [j2,e3];simp,by omega,by omega,by rw [WG];simp,by simp;omega⟩)
  simp [ht,ah,hmin,hmv] at h5
  cbv
  refine ⟨?_,?_⟩
  ·(simp only [ht,ah] at*;omega)
  refine ⟨?_,?_⟩
  ·(simp only [ht,ah];grind)
  refine ⟨?_,?_⟩
  ·(have q:=QY (WG s2) j1 (by omega) (by omega);simp only [ht,Int.toNat_natCast,hmin];exact ⟨q.1,q.2.1⟩)
  cbv
  refine an ?_
  (have q:=QY (WG s2) j1 (by omega) (by omega);simp only [ht,Int.toNat_natCast];rw [q.2.2,j2,Be (by omega)])
 simp [ht] at h2
theorem QZ (ht:TT t) (s:aH) (hs:s.length<1000000000000):FC 226 [ST s,ST [47]] [] (.ret (Hs t (t _ fun _=>bR 47 s))) []:=by
 refine cr ht Tryz.func226 (N:=8) ?_
 cbv
 refine aD (HX ht _ ‹_›) trv (fun r0 cN=>?_)
 simp only [ht] at cN
 cbv
 refine an ?_
 (simp [*];done)
end Dem
end
section
namespace Go.Proofs
open Go.Shelf
def Tryz.yU:Go.Shelf.Ren:=⟨fun|156=>210|165=>228|166=>229|169=>230|240=>247|241=>248|276=>258|277=>259|n=>n,fun|31=>51|9=>9|3=>3|4=>4|0=>0|20=>20|72=>277|76=>281|70=>274|37=>275|75=>280|127=>299|164=>309|5=>5|80=>283|n=>n,fun|n=>n⟩
theorem Tryz.Mh:Go.Proofs.Lays.n156 Tryz.prog Tryz.yU:={
 mixed:=by kernel_rfl
 f156:=Tryz.func210.trans (congrArg some (by kernel_rfl))
 f165:=Tryz.func228.trans (congrArg some (by kernel_rfl))
 f166:=Tryz.func229.trans (congrArg some (by kernel_rfl))
 f169:=Tryz.func230.trans (congrArg some (by kernel_rfl))
 f240:=Tryz.func247.trans (congrArg some (by kernel_rfl))
 f241:=Tryz.func248.trans (congrArg some (by kernel_rfl))
 f276:=Tryz.func258.trans (congrArg some (by kernel_rfl))
 f277:=Tryz.func259.trans (congrArg some (by kernel_rfl))
 t0:=Tryz.underlying0
 a0:=Tryz.isAgg0
 z0:=Tryz.sizeOf0
 v0:=Tryz.zeroValue0
 t3:=Tryz.underlying3
 a3:=Tryz.isAgg3
 z3:=Tryz.sizeOf3
 v3:=Tryz.zeroValue3
 t4:=Tryz.underlying4
 a4:=Tryz.isAgg4
 z4:=Tryz.sizeOf4
 v4:=Tryz.zeroValue4
 t9:=Tryz.underlying9
 a9:=Tryz.isAgg9
 z9:=Tryz.sizeOf9
 v9:=Tryz.zeroValue9
 t20:=Tryz.underlying20
 a20:=Tryz.isAgg20
 z20:=Tryz.sizeOf20
 v20:=Tryz.zeroValue20
 t31:=Tryz.underlying51
 a31:=Tryz.isAgg51
 z31:=Tryz.sizeOf51
 v31:=Tryz.zeroValue51
 t37:=Tryz.underlying275
 a37:=Tryz.isAgg275
 z37:=Tryz.sizeOf275
 v37:=Tryz.zeroValue275
 t70:=Tryz.underlying274
 a70:=Tryz.isAgg274
 z70:=Tryz.sizeOf274
 v70:=Tryz.zeroValue274
 t72:=Tryz.underlying277
 a72:=Tryz.isAgg277
 z72:=Tryz.sizeOf277
 v72:=Tryz.zeroValue277
 t75:=Tryz.underlying280
 a75:=Tryz.isAgg280
 z75:=Tryz.sizeOf280
 v75:=Tryz.zeroValue280
 t76:=Tryz.underlying281
 a76:=Tryz.isAgg281
 z76:=Tryz.sizeOf281
 v76:=Tryz.zeroValue281
 t127:=Tryz.underlying299
 a127:=Tryz.isAgg299
 z127:=Tryz.sizeOf299
 v127:=Tryz.zeroValue299
 t164:=Tryz.underlying309
 a164:=Tryz.isAgg309
 z164:=Tryz.sizeOf309
 v164:=Tryz.zeroValue309}
theorem Tryz.nu:Builder.Extra Tryz.prog Tryz.yU:={
 sizeBuilder:=by kernel_rfl
 liesBuilder:=by kernel_rfl
 t5:=Tryz.underlying5
 a5:=Tryz.isAgg5
 z5:=Tryz.sizeOf5
 v5:=Tryz.zeroValue5
 infoByte:=by kernel_rfl
 cellsByte:=by kernel_rfl
 sizeByte:=by kernel_rfl
 neB5:=by decide}
open Go.RowKit in
theorem Tryz.strings_Join_none (a:Option Addr) (c:Nat) (sep:ByteArray) (w:World):
 Calls Tryz.prog 210 #[.slice a 0 c,.string sep] w fun e w'=>e=.returned (.string ⟨#[]⟩)∧w'=w:=Any.strings_Join_none Tryz.Mh Tryz.nu a c sep w
open Go.RowKit in
theorem Tryz.strings_Join (bk o c:Nat) (xs:List ByteArray) (sep:ByteArray) (w:World) (hcells:∀(j:Nat) x,xs[j]?=some x→w.cell? ⟨bk,o+j,none⟩=some (.string x)) (hbk:bk<w.heap.size) (hN:xs.length≤140737488355328) (hcap:xs.length≤c) (hlen:(Lib.join (xs.map (·.data.toList)) sep.data.toList).length≤140737488355328):
 Calls Tryz.prog 210 #[.slice (some ⟨bk,o,none⟩) xs.length c,.string sep] w fun e w'=>e=.returned (.string ⟨(Lib.join (xs.map (·.data.toList)) sep.data.toList).toArray⟩)∧Below w.heap.size w w':=Any.strings_Join Tryz.Mh Tryz.nu bk o c xs sep w hcells hbk hN hcap hlen
end Go.Proofs
end
section
open Go Dem Go.Proofs
namespace Dem
variable {t:Th}
theorem DK {w:World} {ok:Nat→Prop} {blk sz:Nat}:∀{l:List aH} {off:Nat},ay w ok blk sz (l.map bB) off→∀(j:Nat) x,(l.map fun s=>(⟨s.toArray⟩:ByteArray))[j]?=some x→w.cell? ⟨blk,off+j,none⟩=some (.string x)
 |[],_,_,j,x,hx=>by simp at hx
 |s::l,off,h,j,x,hx=>by
  simp only [List.map_cons,ay,aX,aJ,and_true] at h
  obtain ⟨rfl,⟨u,hu,rfl⟩,h3⟩:=h
  cases j with
  |zero=>simp at hx;subst hx;exact hu
  |succ j=>
   have:=DK h3 j x (by simpa using hx)
   rw [show off+(j+1)=off+[D.str s].length+j by simp;omega]
   exact this
theorem DL {β:Nat→Nat} {w w':World} (hb:RowKit.Below w.heap.size w w'):Ext β [] w β [] w':=
 ⟨hb.os,hb.tape,hb.output,hb.size,fun k hk _=>hb.block k hk,fun k c e f hk=>⟨c,by rw [hb.block k (Array.getElem?_eq_some_iff.1 hk).1];exact hk,rfl⟩,fun i h=>by obtain ⟨b,h1,_⟩:=h;simp at h1,fun i b h=>by simp at h⟩
theorem Mi (ht:TT t) {l:List aH} {es:List (List D)} (aC:es=l.map bB) (hl:l.length<1000000000) (hlen:(fq l).length≤140737488355328):FC 210 [SL es,ST [47]] [] (.ret (Ty (t _ fun _=>fq l))) []:=by
 simp only [ht]
 subst aC
 intro β w vs X cx hx
 simp only [ak,aj,aJ] at hx
 obtain ⟨_,_,rfl,⟨base,cap,rfl,hcap,h1⟩,_,_,rfl,rfl,rfl⟩:=hx
 rcases h1 with h1|⟨blk,off,sz,rfl,hok,hrows⟩
 ·have hl0:l=[]:=by simpa using h1
  subst hl0
  refine .inl ⟨enters_of Tryz.func210 (by kernel_rfl) rfl _ _,(Tryz.strings_Join_none base cap ⟨#[47]⟩ w).mono ?_⟩
  rintro e w' ⟨rfl,rfl⟩
  exact ⟨β,Ext.refl _ _ _,cx,by simp [mr,Ty,aj,aJ,fq,Lib.join_nil]⟩
 have hx:((l.map fun s=>(⟨s.toArray⟩:ByteArray)).map (·.data.toList))=l:=by simp [Function.comp_def]
 have hn:(l.map fun s=>(⟨s.toArray⟩:ByteArray)).length=(l.map bB).length:=by simp
 have key:=Tryz.strings_Join blk off cap (l.map fun s=>(⟨s.toArray⟩:ByteArray)) ⟨#[47]⟩ w (DK hrows) hok.1 (by simp;omega) (by simpa using hcap) (by rw [hx];exact hlen)
 rw [hx,hn] at key
 refine .inl ⟨enters_of Tryz.func210 (by kernel_rfl) rfl _ _,key.mono ?_⟩
 rintro e w' ⟨rfl,hb⟩
 exact ⟨β,DL hb,cx.step (DL hb) (fun i b h=>by simp at h) (fun i j bi bj hi=>by simp at hi),by simp [mr,Ty,aj,aJ,fq]⟩
theorem Q0 (ht:TT t) {l:List (aH)} {es:List (List D)} (aC:es=l.map bB) (f:Nat) (p:aH→Bool) (hl:l.length<9223372036854775807)
 (hf:∀x∈l,FC f [.d (.str x)] [] (.ret (BL (p x))) []) {r:Int} (hr:r=idxOf p l):FC 199 [SL es,.fn f []] [] (.ret (bD r)) []:=by
 have hel:es.length=l.length:=by rw [aC,lgM]
 refine cr ht Tryz.func199 (N:=19) ?_
 cbv
 refine bA ⟨[0,1,7,8],[],[]⟩ (σ:=Nat) (fun k=>[(8,bD (t _ fun _=>(k:Int)))]) (fun _=>[]) (tF p l) ?_
 cbv
 refine aE ⟨l.length,0,.nil,by simp only [ht];rfl,fun n k hj=>?_⟩
 cbv
 apply ap<;>intro h
 ·simp only [ht,ah,decide_eq_true_eq] at h
  have hk:k<es.length:=by omega
  obtain ⟨x,hx,mQ,px,hpx⟩:=hj.get (by omega)
  have gJ:=hf x mQ
  rw [←hpx] at gJ
  skip
  cbv
  refine ix [.str x] ?_ ?_ ?_
  ·simp only [ht,ah];exact pK aC hk fun _=>rfl
  ·simp [ht,ah,aC,hx]
  cbv
  refine dx trv gJ ?_
  cbv
  apply ap<;>intro hb
  ·cbv
   refine an ?_
   simp only [ht,ah,hr,hj.hit hx (hpx▸hb)]
  cbv
  refine aE ⟨n-1,k+1,⟨hj.lt hx,hj.next hx (hpx▸hb)⟩,?_⟩
  simp only [ht,ah,aB (show k<9223372036854775807 by omega)];rfl
 simp only [ht,ah,decide_eq_false_iff_not] at h
 have hk:l.length≤k:=by omega
 clear h
 cbv
 refine an ?_
 rw [hr,hj.none hk]
theorem Q2 (ht:TT t) {l:List (aH)} {es:List (List D)} (aC:es=l.map bB) (f:Nat) (p:aH→Bool) (hl:l.length<9223372036854775807)
 (hf:∀x∈l,FC f [.d (.str x)] [] (.ret (BL (p x))) []) {r:Bool} (hr:r=l.any p):FC 156 [SL es,.fn f []] [] (.ret (BL r)) []:=by
 obtain ⟨k,hk⟩:∃k,k=idxOf p l:=⟨_,rfl⟩
 refine cr ht Tryz.func156 (N:=9) ?_
 cbv
 refine dx trv (Q0 ht aC f p hl hf hk) ?_
 cbv
 refine an ?_
 simp only [ht,hr,fh,hk]
theorem Kt (ht:TT t) (s:aH) (hs:s.length<9223372036854775807):FC 227 [ST s] [] (.ret (cU (t _ fun _=>!eB s))) []:=by
 refine cr ht Tryz.func227 (N:=6) ?_
 cbv
 refine aG (ot ht _ ‹_›) trv (fun r0 cN=>?_)
 simp only [ht] at cN
 cbv
 refine an ?_
 (simp [*];done)
theorem vX:∀(s:aH),∀x∈bR 47 s,x.length≤s.length
 |[],x,hx=>by simp [bR] at hx;subst hx;exact Nat.le_refl _
 |c::s,x,hx=>by
  have ih:=vX s
  unfold bR at hx
  split at hx
  ·rcases List.mem_cons.1 hx with rfl|hx
   ·simp
   exact Nat.le_trans (ih x hx) (by simp)
  split at hx
  ·rename_i h r e
   rw [e] at ih
   rcases List.mem_cons.1 hx with rfl|hx
   ·have:=ih h (by simp);simp;omega
   exact Nat.le_trans (ih x (by simp [hx])) (by simp)
  simp at hx;subst hx;simp
theorem NF (ht:TT t) {l:List aH} {es:List (List D)} (aC:es=l.map bB) (hl:l.length<9223372036854775807) (hw:∀x∈l,x.length<9223372036854775807):
 FC 156 [SL es,.fn 227 []] [] (.ret (cU (t _ fun _=>l.any fun n=>!eB n))) []:=by
 simp only [ht];exact Q2 ht aC _ _ hl (fun x hx=>by have h:=Kt ht x (hw x hx);simp only [ht,cU] at h;exact h) rfl
theorem vY (ht:TT t) (s:aH) (hs:s.length<1000000000000):FC 209 [ST s] [] (.ret (Hs t (t _ fun _=>parts s))) []:=by
 have XF:=py 47 s
 have hsc:s.count 47≤s.length:=List.count_le_length
 have nI:∀x∈bR 47 s,x.length<9223372036854775807:=fun x hx=>Nat.lt_of_le_of_lt (vX s x hx) (by omega)
 refine cr ht Tryz.func209 (N:=14) ?_
 cbv
 refine aD (QZ ht _ ‹_›) trv (fun r0 cN=>?_)
 simp only [ht] at cN
 have hr0:(r0).length<1000000000001:=by rw [cN];omega
 have hs0:∀x∈r0,x.length<9223372036854775807:=by rw [cN];exact nI
 cbv
 refine gI (by simp [ht]) ?_
 refine cj (fun g1=>⟨by simp [ht] at g1 ⊢;exact g1,trv,NF ht (ko ht rfl) (by omega) ‹_›⟩) rfl rfl (fun r2 iu=>?_)
 simp only [ht] at iu
 cbv
 refine pI (by simp [ht]) ?_
 apply ap<;>intro h3
 ·simp [ht,ah] at h3
  cbv
  refine an ?_
  (simp only [ht,parts];grind)
 simp [ht,ah] at h3
 cbv
 refine an ?_
 (simp only [ht,parts];grind)
def HZ {α:Type} [DecidableEq α] (a:α) (l:List α):Int:=idxOf (fun x=>decide (a=x)) l
theorem E9 {α:Type} [DecidableEq α] {a x:α} {l:List α} {k:Nat} (hx:l[k]?=some x) (h:a=x) (h3:∀i<k,∀y,l[i]?=some y→a≠y):HZ a l=k:=by
 simp only [HZ,idxOf]
 rw [vH hx (by simpa using h) (fun i hi y hy=>by simpa using h3 i hi y hy)]
theorem Fa {α:Type} [DecidableEq α] {a:α} {l:List α} {k:Nat} (hk:l.length≤k) (h3:∀i<k,∀y,l[i]?=some y→a≠y):HZ a l=-1:=by
 simp only [HZ,idxOf]
 rw [A8]
 intro i y hy
 have:i<l.length:=(List.getElem?_eq_some_iff.1 hy).1
 simpa using h3 i (by omega) y hy
theorem xA {α:Type} {a x:α} {l:List α} {k:Nat} (h3:∀i<k,∀y,l[i]?=some y→a≠y) (hx:l[k]?=some x) (h:a≠x):∀i<k+1,∀y,l[i]?=some y→a≠y:=by
 intro i hi y hy
 rcases Nat.lt_or_ge i k with h1|h1
 ·exact h3 i h1 y hy
 have:i=k:=by omega
 subst this;rw [hx] at hy;cases hy;exact h
theorem BI {α:Type} [DecidableEq α] (a:α) (l:List α):0≤HZ a l↔a∈l:=by
 have h:=fh (fun x=>decide (a=x)) l
 rw [Bool.eq_iff_iff] at h
 simp at h
 exact h.symm
theorem H6 (ht:TT t) (a:aH) {l:List aH} {es:List (List D)} (aC:es=l.map bB) (hl:l.length<1000000000):
 FC 211 [SL es,ST a] [] (.ret (kp (t _ fun _=>HZ a l))) []:=by
 refine cr ht Tryz.func211 (N:=19) ?_
 cbv
 have aF:es.length=l.length:=by rw [aC,lgM]
 obtain ⟨J0,dz⟩:∃J0:Nat→Int→Prop,∀n i,J0 n i↔(∃k:Nat,i=k∧k+n=l.length∧∀i<k,∀y,l[i]?=some y→a≠y):=⟨fun n v=>match v with|i=>(∃k:Nat,i=k∧k+n=l.length∧∀i<k,∀y,l[i]?=some y→a≠y),fun _ _=>Iff.rfl⟩
 refine bA ⟨[0,1,7,8],[],[]⟩ (σ:=Int) (fun v=>[(8,.d (.int .i64 (t _ fun _=>v)))]) (fun v=>[]) J0 ?_
 cbv
 refine aE ⟨l.length,_,(dz _ _).2 ?_,by simp only [ht];rfl,?_⟩
 ·exact ⟨0,rfl,by simp,fun i hi=>by omega⟩
 rintro n i hj
 replace hj:=(dz _ _).1 hj
 obtain ⟨k,rfl,j1,j4⟩:=hj
 cbv
 apply ap<;>intro h1
 ·simp [ht,ah,aF] at h1
  cbv
  refine ig ht aC (cT:=gC t) (by (simp only [ht,ah];omega)) (by (simp only [ht,ah];omega)) (fun _=>rfl) (fun _=>rfl) (fun x2 gX=>?_)
  simp [ht,ah] at gX
  cbv
  apply ap<;>intro h3
  ·simp [ht] at h3
   cbv
   refine an ?_
   (simp only [ht];rw [E9 ‹_› ‹_› j4];done)
  simp [ht] at h3
  cbv
  refine bG _ (by simp only [ht];rfl) (n-1) ?_ ((dz _ _).2 ?_)
  ·omega
  simp only [ah]
  exact ⟨k+1,aB (by omega),by omega,xA j4 ‹_› ‹_›⟩
 simp [ht,ah,aF] at h1
 cbv
 refine an ?_
 (simp only [ht];rw [Fa (by omega) j4];done)
theorem NG (ht:TT t) (a:aH) {l:List aH} {es:List (List D)} (aC:es=l.map bB) (hl:l.length<1000000000):
 FC 182 [SL es,ST a] [] (.ret (cU (t _ fun _=>l.contains a))) []:=by
 refine cr ht Tryz.func182 (N:=9) ?_
 cbv
 have aF:es.length=l.length:=by rw [aC,lgM]
 refine aG (H6 ht _ ‹_› ‹_›) trv (fun r0 cN=>?_)
 simp only [ht] at cN
 cbv
 refine an ?_
 (simp [ht,cN,BI];done)
theorem WH (ht:TT t) (s:aH) (hs:s.length<1000000000000):FC 178 [ST s] [] (.ret (Hs t (t _ fun _=>mF s))) []:=by
 have hp:=kq s
 refine cr ht Tryz.func178 (N:=22) ?_
 cbv
 refine aD (vY ht _ ‹_›) trv (fun r0 cN=>?_)
 simp only [ht] at cN
 have hrl:(r0).length=(parts s).length:=by rw [cN]
 cbv
 obtain ⟨J1,mR⟩:∃J1:Nat→List (List D)×Int→Prop,∀n u i,J1 n (u,i)↔(∃k:Nat,i=k∧k+n=(parts s).length∧u=((mF s).take k).map bB):=⟨fun n v=>match v with|(u,i)=>(∃k:Nat,i=k∧k+n=(parts s).length∧u=((mF s).take k).map bB),fun _ _ _=>Iff.rfl⟩
 refine bA ⟨[0,3,7,8],[(3,1)],[]⟩ (σ:=List (List D)×Int) (fun v=>[(3,.ow 0 1 (t _ fun _=>(v.1).length)),(8,.d (.int .i64 (t _ fun _=>v.2)))]) (fun v=>[(0,.row 1 (t _ fun _=>v.1))]) J1 ?_
 cbv
 refine aE ⟨(parts s).length,([],_),(mR _ _ _).2 ?_,by simp only [ht];rfl,?_⟩
 ·exact ⟨0,rfl,by simp,rfl⟩
 rintro n ⟨u,i⟩ hj
 replace hj:=(mR _ _ _).1 hj
 obtain ⟨k,rfl,j1,j4⟩:=hj
 cbv
 apply ap<;>intro h2
 ·simp [ht,ah] at h2
  cbv
  refine aD (vY ht _ ‹_›) trv (fun r3 kO=>?_)
  simp only [ht] at kO
  have hrl:(r3).length=(parts s).length:=by rw [kO]
  cbv
  refine ⟨?_,?_⟩
  ·(simp only [ht];refine ⟨?_,fun r hr=>by obtain ⟨y,_,rfl⟩:=List.mem_map.1 hr;rfl⟩;rw [aB (by omega)];simp only [bN];rw [lgM];omega)
  cbv
  (refine aG (Mi ht (l:=r3.take (k+1)) (by simp only [ht,iH];rw [aB (by omega),List.map_take];rfl) (by simp;omega) (by rw [kO];exact Nat.le_trans (Dw s (k+1)) (by omega))) trv (fun r4 iY=>?_);simp only [ht] at iY;rw [kO] at iY)
  cbv
  refine ⟨?_,?_⟩
  ·(simp only [ht];grind)
  cbv
  refine bG (_,_) (by simp only [ht,←List.length_append];rfl) (n-1) ?_ ((mR _ _ _).2 ?_)
  ·omega
  simp only [ah]
  exact ⟨k+1,aB (by omega),by omega,by rw [Dx (by omega),j4,←iY];simp⟩
 simp [ht,ah] at h2
 cbv
 refine lQ trv (by simp [ht]) rfl rfl rfl ?_
 (simp [ht,j4,List.take_of_length_le (show (mF s).length≤k by rw [iz];omega)];done)
theorem BJ (ht:TT t) (a b:aH) (hs:b.length<1000000000000):FC 136 [ST a,ST b] [] (.ret (cU (t _ fun _=>nF a b))) []:=by
 have hp:=kq b
 have hl:=iz b
 refine cr ht Tryz.func136 (N:=9) ?_
 cbv
 refine aD (WH ht _ ‹_›) trv (fun r0 cN=>?_)
 simp only [ht] at cN
 have hr0:(r0).length<1000000000:=by rw [cN];omega
 cbv
 refine aG (NG ht _ (ko ht rfl) ‹_›) trv (fun r1 cM=>?_)
 simp only [ht] at cM
 cbv
 refine an ?_
 (simp [nF, *];done)
theorem T4 (x y:Nat) (hx:x<18446744073709551616) (hy:y<18446744073709551616):Nb x y=if (x*y / 18446744073709551616=0) then (((x*y:Nat):Int),true) else (0,false):=by
 unfold Nb
 simp only [Int.toNat_natCast]
 by_cases h:x*y<18446744073709551616
 ·rw [if_pos h,if_pos (Nat.div_eq_of_lt h)]
 rw [if_neg h,if_neg (by have:=Nat.div_le_div_right (c:=18446744073709551616) (Nat.le_of_not_lt h);simp at this;omega)]
theorem T6 (x:Nat):x &&& 4294967295=x%4294967296:=by
 have:=Nat.and_two_pow_sub_one_eq_mod x 32
 simpa using this
theorem Q3 (x:Nat) (hx:x<18446744073709551616):IntKind.u64.wrap ((BitVec.ofInt IntKind.u64.bits (x:Int) &&& BitVec.ofInt IntKind.u64.bits 4294967295).toNat:Int)=((x%4294967296:Nat):Int):=by
 have e1:BitVec.ofInt IntKind.u64.bits (x:Int)=BitVec.ofNat 64 x:=by simp [IntKind.bits]
 have e2:BitVec.ofInt IntKind.u64.bits 4294967295=BitVec.ofNat 64 4294967295:=by rfl
 rw [e1,e2]
 have:(BitVec.ofNat 64 x &&& BitVec.ofNat 64 4294967295).toNat=x%4294967296:=by
  rw [BitVec.toNat_and,BitVec.toNat_ofNat,BitVec.toNat_ofNat,Nat.mod_eq_of_lt (a:=x) (by simpa using hx),Nat.mod_eq_of_lt (a:=4294967295) (by decide),T6]
 have h2:x%4294967296<18446744073709551616:=by omega
 rw [pu]
 show (((BitVec.ofNat 64 x &&& BitVec.ofNat 64 4294967295).toNat:Nat):Int)%18446744073709551616=_
 rw [this];omega
theorem Mj (x:Nat):(x:Int).fdiv (2^(min (32:Int).toNat IntKind.u64.bits))=((x / 4294967296:Nat):Int):=by
 show (x:Int).fdiv (2^32)=_
 rw [Int.fdiv_eq_ediv_of_nonneg _ (by decide)];norm_cast
theorem Fb {n:Nat} (h:n<18446744073709551616):IntKind.u64.wrap (n:Int)=n:=by rw [pu];omega
theorem T7 (ht:TT t) (x y:Nat) (hx:x<18446744073709551616) (hy:y<18446744073709551616) {a b:Int} (ha:a=x) (hb:b=y):
 FC 202 [az a,az b] [] (.ret (.ek [az (t _ fun _=>((x*y / 18446744073709551616:Nat):Int)),az (t _ fun _=>IntKind.u64.wrap ((x*y:Nat):Int))])) []:=by
 obtain ⟨k1,k2,k3,k4⟩:=Lib.mul64_hi x y hx hy
 refine cr ht Tryz.func202 (N:=51) ?_
 cbv
 refine ⟨by simp [ht],by simp [ht],by simp [ht],by simp [ht],by simp [ht],?_⟩
 refine an ?_
 simp only [ht,ah]
 subst ha hb
 have b1:x / 4294967296≤4294967295:=by omega
 have b2:y / 4294967296≤4294967295:=by omega
 have b3:x%4294967296≤4294967295:=by omega
 have b4:y%4294967296≤4294967295:=by omega
 have m1:=Lib.half_mul_le b1 b2
 have m2:=Lib.half_mul_le b1 b4
 have m3:=Lib.half_mul_le b3 b2
 have m4:=Lib.half_mul_le b3 b4
 have k5:x / 4294967296*(y / 4294967296)+(x / 4294967296*(y%4294967296)+x%4294967296*(y%4294967296) / 4294967296) / 4294967296<18446744073709551616:=by omega
 have k6:x*y / 18446744073709551616<18446744073709551616:=by
  rw [Nat.div_lt_iff_lt_mul (by decide)]
  exact Nat.mul_lt_mul'' hx hy
 simp only [Mj,Q3 x hx,Q3 y hy,←Int.natCast_mul]
 rw [Fb k1,Fb (n:=x / 4294967296*(y%4294967296)) (by omega),Fb (n:=x%4294967296*(y / 4294967296)) (by omega),Fb (n:=x / 4294967296*(y / 4294967296)) (by omega)]
 simp only [Mj,←Int.natCast_add]
 rw [Fb k2,Q3 _ k2]
 simp only [Mj,←Int.natCast_add]
 rw [Fb k5,Fb k3]
 simp only [Mj,←Int.natCast_add]
 rw [k4,Fb k6]
theorem NH (ht:TT t) (x y:Int) (hx:0≤x∧x<18446744073709551616) (hy:0≤y∧y<18446744073709551616) {r:Int} {ok:Bool} (h:(r,ok)=Nb x y):
 FC 169 [az x,az y] [] (.ret (.ek [az r,BL ok])) []:=by
 obtain ⟨a,rfl⟩:=Int.eq_ofNat_of_zero_le hx.1
 obtain ⟨b,rfl⟩:=Int.eq_ofNat_of_zero_le hy.1
 have ha:a<18446744073709551616:=by omega
 have hb:b<18446744073709551616:=by omega
 rw [T4 a b ha hb] at h
 have hw:a*b / 18446744073709551616=0→IntKind.u64.wrap ((a*b:Nat):Int)=((a*b:Nat):Int):=fun e=>by
  refine Fb ?_
  rcases Nat.lt_or_ge (a*b) 18446744073709551616 with h1|h1
  ·exact h1
  have:=Nat.div_le_div_right (c:=18446744073709551616) h1;simp at this;omega
 obtain ⟨w,hw2⟩:∃w,w=IntKind.u64.wrap ((a*b:Nat):Int):=⟨_,rfl⟩
 obtain ⟨z,hz⟩:∃z,z=a*b / 18446744073709551616:=⟨_,rfl⟩
 have hc:=T7 ht a b ha hb rfl rfl
 rw [←hw2,←hz] at hc
 rw [←hw2,←hz] at hw
 rw [←hz] at h
 obtain ⟨x,hx0⟩:∃x:Int,x=a:=⟨_,rfl⟩
 obtain ⟨y,hy0⟩:∃y:Int,y=b:=⟨_,rfl⟩
 rw [←hx0,←hy0] at hc ⊢
 refine cr ht Tryz.func169 (N:=17) ?_
 cbv
 refine gF trv hc trv rfl rfl ?_
 cbv
 apply ap<;>intro hc
 ·cbv
  refine an ?_
  simp only [ht,ah,Bool.not_eq_true',decide_eq_false_iff_not] at hc
  rw [if_neg (by omega)] at h
  cases h;rfl
 cbv
 refine an ?_
 simp only [ht,ah,Bool.not_eq_false',decide_eq_true_eq] at hc
 have U9:z=0:=by omega
 rw [if_pos U9] at h
 cases h
 simp only [ht,hw U9]
theorem Q4 (ht:TT t) (m x y:Int) (hx:0≤x∧x<18446744073709551616) (hm:0≤m∧m<18446744073709551616) {r:Int} {ok:Bool} (h:(r,ok)=Nb x m):
 FC 168 [az x,az y,.ptr 0 0] [.var [az m]] (.ret (.ek [az r,BL ok])) [.var [az m]]:=by
 refine jG ht (bz:=[.var [az m]]) Tryz.func168 rfl rfl (N:=12) rfl rfl (n:=1) rfl rfl ?_
 cbv
 refine gF trv (NH ht x m hx hm h) trv rfl rfl ?_
 cbv
 exact an rfl
theorem T8 (ht:TT t) (m:Int) (a0 a1 a2 a3 b0 b1 b2 b3:Int) (op:Int→Int→Int×Bool) (F:Nat) (hop:∀(x y r:Int) (ok:Bool),(r,ok)=op x y→0≤x∧x<18446744073709551616→FC F [.d (.int .u64 x),.d (.int .u64 y),.ptr 0 0] [.var [az m]] (.ret (.ek [.d (.int .u64 r),.d (.bool ok)])) [.var [az m]])
 (u0:0≤a0∧a0<18446744073709551616) (u1:0≤a1∧a1<18446744073709551616) (u2:0≤a2∧a2<18446744073709551616) (u3:0≤a3∧a3<18446744073709551616)
 {r0 r1 r2 r3:Int} {ok:Bool} (h:(⟨r0,r1,r2,r3⟩,ok)=both op ⟨a0,a1,a2,a3⟩ ⟨b0,b1,b2,b3⟩):
 FC 167 [.agg [.d (.int .u64 a0),.d (.int .u64 a1),.d (.int .u64 a2),.d (.int .u64 a3)],.agg [.d (.int .u64 b0),.d (.int .u64 b1),.d (.int .u64 b2),.d (.int .u64 b3)],.fn F [.ptr 0 0]] [.var [az m]]
  (.ret (.ek [.agg [.d (.int .u64 r0),.d (.int .u64 r1),.d (.int .u64 r2),.d (.int .u64 r3)],.d (.bool ok)])) [.var [az m]]:=by
 obtain ⟨⟨s0,k0⟩,e0⟩:∃s,s=op a0 b0:=⟨_,rfl⟩
 obtain ⟨⟨s1,k1⟩,e1⟩:∃s,s=op a1 b1:=⟨_,rfl⟩
 obtain ⟨⟨s2,k2⟩,e2⟩:∃s,s=op a2 b2:=⟨_,rfl⟩
 obtain ⟨⟨s3,k3⟩,e3⟩:∃s,s=op a3 b3:=⟨_,rfl⟩
 have h0:(k0&&k1&&k2&&k3)=false→r0=0∧r1=0∧r2=0∧r3=0∧ok=false:=by
  intro hk;simp only [both,←e0,←e1,←e2,←e3] at h;rw [if_neg (by rw [hk];simp)] at h;cases h;exact ⟨rfl,rfl,rfl,rfl,rfl⟩
 have h1:(k0&&k1&&k2&&k3)=true→r0=s0∧r1=s1∧r2=s2∧r3=s3∧ok=true:=by
  intro hk;simp only [both,←e0,←e1,←e2,←e3] at h;rw [if_pos hk] at h;cases h;exact ⟨rfl,rfl,rfl,rfl,rfl⟩
 clear h
 have fin:∀{B:List aA},(k0&&k1&&k2&&k3)=false→EI 1 True (AV.ek [.agg [.d (.int .u64 0),.d (.int .u64 0),.d (.int .u64 0),.d (.int .u64 0)],.d (.bool false)]) (.var [az m]::B) (some (True,AV.ek [.agg [.d (.int .u64 0),.d (.int .u64 0),.d (.int .u64 0),.d (.int .u64 0)],.d (.bool false)]))
  (.ret (.ek [.agg [.d (.int .u64 r0),.d (.int .u64 r1),.d (.int .u64 r2),.d (.int .u64 r3)],.d (.bool ok)])) [.var [az m]]:=by
  intro bx hk
  obtain ⟨rfl,rfl,rfl,rfl,rfl⟩:=h0 hk
  exact an rfl
 refine jG ht (bz:=[.var [az m]]) Tryz.func167 rfl rfl (N:=34) rfl rfl (n:=1) rfl rfl ?_
 cbv
 refine bA ⟨[2,3,4,6,12,13],[],[]⟩ (σ:=Nat) (fun j=>[(13,.d (.int .i64 j))]) (fun j=>[(1,.var [.d (.int .u64 (bif Nat.blt 0 j then s0 else a0)),.d (.int .u64 (bif Nat.blt 1 j then s1 else a1)),.d (.int .u64 (bif Nat.blt 2 j then s2 else a2)),.d (.int .u64 (bif Nat.blt 3 j then s3 else a3))])])
  (fun n j=>n+j=4∧(0<j→k0=true)∧(1<j→k1=true)∧(2<j→k2=true)∧(3<j→k3=true)) ?_
 cbv
 refine aE ⟨4,0,⟨rfl,by omega,by omega,by omega,by omega⟩,rfl,?_⟩
 rintro n j ⟨hn,g0,g1,g2,g3⟩
 have hj:j=0∨j=1∨j=2∨j=3∨j=4:=by omega
 rcases hj with rfl|rfl|rfl|rfl|rfl
 ·cbv
  refine lA (by simp [ht]) ?_
  cbv
  refine ⟨by simp [ht],by simp [ht],dJ [0] trv rfl rfl (hop _ _ _ _ e0 u0) (cA ?_)⟩
  cbv
  apply ap<;>intro hc
  ·simp only [ht,Bool.not_eq_true'] at hc
   cbv
   exact fin (by simp [hc])
  simp only [ht,Bool.not_eq_false'] at hc
  cbv
  refine ⟨by simp [ht],?_⟩
  refine aE ⟨3-0,0+1,⟨⟨by omega,by omega,by simp_all,by simp_all,by simp_all,by simp_all⟩,?_⟩⟩
  simp only [ht];rfl
 ·cbv
  refine lA (by simp [ht]) ?_
  cbv
  refine ⟨by simp [ht],by simp [ht],dJ [0] trv rfl rfl (hop _ _ _ _ e1 u1) (cA ?_)⟩
  cbv
  apply ap<;>intro hc
  ·simp only [ht,Bool.not_eq_true'] at hc
   cbv
   exact fin (by simp [hc])
  simp only [ht,Bool.not_eq_false'] at hc
  cbv
  refine ⟨by simp [ht],?_⟩
  refine aE ⟨3-1,1+1,⟨⟨by omega,by omega,by simp_all,by simp_all,by simp_all,by simp_all⟩,?_⟩⟩
  simp only [ht];rfl
 ·cbv
  refine lA (by simp [ht]) ?_
  cbv
  refine ⟨by simp [ht],by simp [ht],dJ [0] trv rfl rfl (hop _ _ _ _ e2 u2) (cA ?_)⟩
  cbv
  apply ap<;>intro hc
  ·simp only [ht,Bool.not_eq_true'] at hc
   cbv
   exact fin (by simp [hc])
  simp only [ht,Bool.not_eq_false'] at hc
  cbv
  refine ⟨by simp [ht],?_⟩
  refine aE ⟨3-2,2+1,⟨⟨by omega,by omega,by simp_all,by simp_all,by simp_all,by simp_all⟩,?_⟩⟩
  simp only [ht];rfl
 ·cbv
  refine lA (by simp [ht]) ?_
  cbv
  refine ⟨by simp [ht],by simp [ht],dJ [0] trv rfl rfl (hop _ _ _ _ e3 u3) (cA ?_)⟩
  cbv
  apply ap<;>intro hc
  ·simp only [ht,Bool.not_eq_true'] at hc
   cbv
   exact fin (by simp [hc])
  simp only [ht,Bool.not_eq_false'] at hc
  cbv
  refine ⟨by simp [ht],?_⟩
  refine aE ⟨3-3,3+1,⟨⟨by omega,by omega,by simp_all,by simp_all,by simp_all,by simp_all⟩,?_⟩⟩
  simp only [ht];rfl
 cbv
 refine pX (by simp [ht]) ?_
 cbv
 obtain ⟨rfl,rfl,rfl,rfl,rfl⟩:=h1 (by simp [g0,g1,g2,g3])
 exact an rfl
theorem NI (ht:TT t) (a0 a1 a2 a3 n:Int) (hu:(⟨a0,a1,a2,a3⟩:bE).u') (hn:0≤n∧n<18446744073709551616):
 FC 117 [V4 a0 a1 a2 a3,az n] [] (.ret (Zb (t _ fun _=>JQ ⟨a0,a1,a2,a3⟩ n))) []:=by
 obtain ⟨⟨⟨r0,r1,r2,r3⟩,ok⟩,h⟩:∃r,r=JQ ⟨a0,a1,a2,a3⟩ n:=⟨_,rfl⟩
 rw [←h]
 obtain ⟨u0,u1,u2,u3⟩:=hu
 refine cr ht Tryz.func117 (N:=12) ?_
 cbv
 refine dJ [1] trv rfl rfl (T8 ht n a0 a1 a2 a3 0 0 0 0 (fun x _=>Nb x n) 168 (fun x y r ok e hx=>Q4 ht n x y hx hn e) u0 u1 u2 u3 h) (cA ?_)
 cbv
 refine an ?_
 simp only [ht]
def Ask.sm (x:Ask):Prop:=x.path.length<1000000000000∧x.gB.u'∧x.bY.length<1000000000∧∀m∈x.bY,m.sm
theorem ou (ht:TT t) (p:aH) (a b c d n pr tk:Int) {sl:List Term} (sr:List (List D)) (hu:(⟨a,b,c,d⟩:bE).u'):
 FC 77 [.agg [ST p,az a,az b,az c,az d,bD n,bD pr,bD tk,SL sr]] [] (.ret (Zb (t _ fun _=>c8 ⟨p,⟨a,b,c,d⟩,n,pr,tk,sl⟩))) []:=by
 refine cr ht Tryz.func77 (N:=12) ?_
 cbv
 (refine aG (NI ht a b c d _ hu (by simp only [ht];rw [pu];omega)) trv (fun r9 gD=>?_);simp only [ht,pu] at gD)
 cbv
 refine an ?_
 (simp [c8, *];done)
theorem Ku (ht:TT t) (n a b:Int):FC 176 [bD n,bD a,bD b] [] (.ret (cU (t _ fun _=>Sw n a b))) []:=by
 refine cr ht Tryz.func176 (N:=15) ?_
 cbv
 iterate 3 refine gI (by simp [ht]) ?_
 refine pI (by simp [ht]) ?_
 refine an ?_
 (simp [ht,Sw];done)
theorem xB (ht:TT t) (p:aH) (a b c d n pr tk:Int) {sl:List Term} {sr:List (List D)} (hsr:sr=sl.map Term.cells) (nI:(⟨p,⟨a,b,c,d⟩,n,pr,tk,sl⟩:Ask).sm):
 FC 132 [.agg [ST p,az a,az b,az c,az d,bD n,bD pr,bD tk,SL sr]] [] (.ret (kp (t _ fun _=>dY ⟨p,⟨a,b,c,d⟩,n,pr,tk,sl⟩))) []:=by
 obtain ⟨h1,h2,h3,h4⟩:=nI
 simp only at h1 h2 h3 h4
 refine cr ht Tryz.func132 (N:=46) ?_
 cbv
 have abt:sr.length=sl.length:=by rw [hsr,lgM]
 (refine aG (ou ht p a b c d n pr tk (sl:=sl) sr h2) trv (fun r9 gD=>?_);simp only [ht] at gD)
 cbv
 refine aG (BJ ht _ _ ‹_›) trv (fun r0 cN=>?_)
 simp only [ht] at cN
 cbv
 apply ap<;>intro h1
 ·simp [ht] at h1
  cbv
  refine an ?_
  (simp only [ht,dY];grind)
 simp [ht] at h1
 cbv
 refine aG (Ku ht _ _ _) trv (fun r2 iu=>?_)
 simp only [ht] at iu
 cbv
 iterate 3 refine gI (by simp [ht]) ?_
 refine cj (fun g3=>⟨by simp [ht] at g3 ⊢;exact g3,trv,Ku ht _ _ _⟩) rfl rfl (fun r4 iY=>?_)
 simp only [ht] at iY
 cbv
 refine gI (by simp [ht]) ?_
 refine pI (by simp [ht]) ?_
 iterate 3 refine gI (by simp [ht]) ?_
 refine cj (fun g5=>⟨by simp [ht] at g5 ⊢;exact g5,trv,Ku ht _ _ _⟩) rfl rfl (fun r6 mL=>?_)
 simp only [ht] at mL
 cbv
 refine gI (by simp [ht]) ?_
 refine pI (by simp [ht]) ?_
 apply ap<;>intro h7
 ·simp [ht] at h7
  cbv
  refine an ?_
  (simp only [ht,dY];grind)
 simp [ht] at h7
 cbv
 refine aG (NE ht ‹_› ‹_› ‹_›) trv (fun r8 Vz=>?_)
 simp only [ht] at Vz
 cbv
 apply ap<;>intro h9
 ·simp [ht] at h9
  cbv
  refine an ?_
  (simp only [ht,dY];grind)
 simp [ht] at h9
 cbv
 apply ap<;>intro h10
 ·simp [ht] at h10
  cbv
  refine an ?_
  (simp only [ht,dY];grind)
 simp [ht] at h10
 cbv
 refine an ?_
 (simp only [ht,dY];grind)
theorem Mk (ht:TT t) (s:aH) (hs:s.length<1000000000000):FC 178 [ST s] [] (.ret (.ow 0 1 (t _ fun _=>((mF s).map bB).length))) [.row 1 (t _ fun _=>(mF s).map bB)]:=by
 have hp:=kq s
 refine cr ht Tryz.func178 (N:=22) ?_
 cbv
 refine aD (vY ht _ ‹_›) trv (fun r0 cN=>?_)
 simp only [ht] at cN
 have hrl:(r0).length=(parts s).length:=by rw [cN]
 cbv
 obtain ⟨J1,mR⟩:∃J1:Nat→List (List D)×Int→Prop,∀n u i,J1 n (u,i)↔(∃k:Nat,i=k∧k+n=(parts s).length∧u=((mF s).take k).map bB):=⟨fun n v=>match v with|(u,i)=>(∃k:Nat,i=k∧k+n=(parts s).length∧u=((mF s).take k).map bB),fun _ _ _=>Iff.rfl⟩
 refine bA ⟨[0,3,7,8],[(3,1)],[]⟩ (σ:=List (List D)×Int) (fun v=>[(3,.ow 0 1 (t _ fun _=>(v.1).length)),(8,.d (.int .i64 (t _ fun _=>v.2)))]) (fun v=>[(0,.row 1 (t _ fun _=>v.1))]) J1 ?_
 cbv
 refine aE ⟨(parts s).length,([],_),(mR _ _ _).2 ?_,by simp only [ht];rfl,?_⟩
 ·exact ⟨0,rfl,by simp,rfl⟩
 rintro n ⟨u,i⟩ hj
 replace hj:=(mR _ _ _).1 hj
 obtain ⟨k,rfl,j1,j4⟩:=hj
 cbv
 apply ap<;>intro h2
 ·simp [ht,ah] at h2
  cbv
  refine aD (vY ht _ ‹_›) trv (fun r3 kO=>?_)
  simp only [ht] at kO
  have hrl:(r3).length=(parts s).length:=by rw [kO]
  cbv
  refine ⟨?_,?_⟩
  ·(simp only [ht];refine ⟨?_,fun r hr=>by obtain ⟨y,_,rfl⟩:=List.mem_map.1 hr;rfl⟩;rw [aB (by omega)];simp only [bN];rw [lgM];omega)
  cbv
  (refine aG (Mi ht (l:=r3.take (k+1)) (by simp only [ht,iH];rw [aB (by omega),List.map_take];rfl) (by simp;omega) (by rw [kO];exact Nat.le_trans (Dw s (k+1)) (by omega))) trv (fun r4 iY=>?_);simp only [ht] at iY;rw [kO] at iY)
  cbv
  refine ⟨?_,?_⟩
  ·(simp only [ht];grind)
  cbv
  refine bG (_,_) (by simp only [ht,←List.length_append];rfl) (n-1) ?_ ((mR _ _ _).2 ?_)
  ·omega
  simp only [ah]
  exact ⟨k+1,aB (by omega),by omega,by rw [Dx (by omega),j4,←iY];simp⟩
 simp [ht,ah] at h2
 cbv
 refine CD trv rfl rfl rfl rfl ?_ ?_
 ·(simp [ht,j4,List.take_of_length_le (show (mF s).length≤k by rw [iz];omega)];done)
 (simp [ht,j4,List.take_of_length_le (show (mF s).length≤k by rw [iz];omega)];done)
theorem Fc (ht:TT t) {es:List (List D)} {x:D} {row:List D} {i n c:Nat} (hn:n=es.length) (hi:i≤n) (hc:n≤c) (hc0:n=0→c=0) (aC:∀r∈es,r.length=1) (hrow:(x::row).length=1) (hs:n<1000000) {r:List (List D)} (hr:r=es.take i++(x::row)::es.drop i):
 FC 198 [.vw 0 1 0 n c true,bD (i:Int),SL [x::row]] [.row 1 es] (.ret (SL r)) [.dead]:=by
 obtain ⟨n1,Cx⟩:∃n1,n1=n+1:=⟨_,rfl⟩
 obtain ⟨i1,hi1⟩:∃i1,i1=i+1:=⟨_,rfl⟩
 obtain ⟨ni,hni⟩:∃ni,ni=n-i:=⟨_,rfl⟩
 obtain ⟨ci,qg⟩:∃ci,ci=c-i:=⟨_,rfl⟩
 obtain ⟨xy,Kj⟩:∃xy,xy=c-i1:=⟨_,rfl⟩
 obtain ⟨pL,uv⟩:∃pL,pL=n1-i:=⟨_,rfl⟩
 have hW:∀P:Prop,((IntKind.i64.wrap ((n:Int)+1)=(n1:Int))→(IntKind.i64.wrap ((n1:Int)-(i:Int))=(pL:Int))→(IntKind.i64.wrap ((i:Int)+1)=(i1:Int))→P)→P:=
  fun P h=>h (by rw [wrap64 (by omega) (by omega)];omega) (by rw [wrap64 (by omega) (by omega)];omega) (by rw [wrap64 (by omega) (by omega)];omega)
 have hrl:r.length=n1:=by rw [hr,List.length_append,List.length_cons,List.length_take,List.length_drop];omega
 have Ww:n≠0→FC 222 [SL [x::row],.vw 0 1 i1 ni xy true] [.row 1 es] (.ret (BL false)) [.row 1 es]:=fun h0=>
  iG Ql Tryz.func222 rfl rfl rfl rfl (tS:=51) (tR:=4) rfl rfl (by intro h;rw [h] at hn;exact h0 hn)
 refine jG ht (bz:=[.row 1 es]) Tryz.func198 rfl rfl (N:=95) rfl rfl (n:=1) rfl rfl ?_
 cbv
 refine bF (.vw 0 1 i ni ci true) [.row 1 es] ?_ ?_ rfl ?_
 ·simp [ht,dR,bN];omega
 ·simp [ht,aV,aP,hni,qg]
 cbv
 refine pX (by simp [ht]) ?_
 cbv
 apply ap<;>intro h
 ·have hin:i=n:=by simp [ht,ah] at h;omega
  clear h
  cbv
  refine bF (.ow 1 1 n1) [.dead,.row 1 r] ?_ ?_ ?_ ?_
  ·simp only [ht]
   refine ⟨⟨hn,by simp;omega,?_⟩,rfl,hn,fun h=>⟨hc0 (by rw [hn,h];rfl),rfl⟩⟩
   intro r hr
   rcases List.mem_append.1 hr with hr|hr
   ·exact aC r hr
   simp at hr;subst hr;exact hrow
  ·simp [ht,Cx,hn]
  ·simp only [ht];rw [hr]
   have:i=es.length:=by omega
   subst this;simp
  cbv
  refine lQ trv ?_ rfl rfl rfl rfl
  simp only [ht];exact hrl.symm
 have hin:i<n:=by simp [ht,ah] at h;omega
 clear h
 have BD:r=(r.drop 0).take n1:=by rw [List.drop_zero,List.take_of_length_le (by omega)]
 cbv
 apply ap<;>intro h2
 ·have Wx:c=n:=by
   refine hW _ fun e1 e2 e3=>?_
   simp [ht,ah,e1] at h2;omega
  clear h2
  obtain ⟨L,hL⟩:∃L:List (List D),L=es.take i++List.replicate (es.length+1-i) [D.str []]:=⟨_,rfl⟩
  have I1:L.length=n1:=by rw [hL];simp;omega
  obtain ⟨L1,uw⟩:∃L1,L1=wrote L i [x::row]:=⟨_,rfl⟩
  have mJ:L1.length=n1:=by rw [uw];simp [wrote,I1];omega
  have oN:r=wrote L1 i1 (es.drop i):=by rw [hi1,uw,hL,vV (by omega),hr]
  cbv
  refine bF (.vw 0 1 0 i c true) [.row 1 es] ?_ ?_ rfl ?_
  ·simp [ht,dR,bN];omega
  ·simp [ht,aV,aP]
  cbv
  refine bF (.vw 1 1 0 n1 n1 false) [.row 1 es,.row 1 L] ?_ ?_ ?_ ?_
  ·refine hW _ fun e1 e2 e3=>?_
   simp [ht,ah,e1,e2];omega
  ·refine hW _ fun e1 e2 e3=>?_
   simp [ht,ah,e1,e2];omega
  ·refine hW _ fun e1 e2 e3=>?_
   simp [ht,ah,e1,e2,hL];omega
  cbv
  refine bF (.vw 1 1 i pL pL false) [.row 1 es,.row 1 L] ?_ ?_ rfl ?_
  ·simp [ht,dR,bN];omega
  ·simp [ht,aV,aP,uv]
  cbv
  refine bF (bD 1) [.row 1 es,.row 1 L1] ?_ ?_ ?_ ?_
  ·simp only [ht,eR]
   refine ⟨⟨by omega,?_⟩,?_⟩
   ·intro h;rw [h] at I1;simp at I1;omega
   intro r hr;have:=List.mem_of_mem_take hr;simp at this;rw [this];exact hrow
  ·simp [ht,ah];omega
  ·simp [ht,uw,show min 1 pL=1 by omega]
  cbv
  refine bS [false,false,false,false,false,false,false,false,true] ?_
  cbv
  repeat (refine gI (by (simp;done)) ?_)
  refine iy (.vw 1 1 i1 ni ni false) (fun _=>⟨?_,?_⟩) ?_
  ·refine hW _ fun e1 e2 e3=>?_
   simp [ht,ah,e3,dR,bN];omega
  ·refine hW _ fun e1 e2 e3=>?_
   simp [ht,ah,e3,aV,aP];omega
  cbv
  repeat (refine gI (by (simp;done)) ?_)
  refine iy (.vw 0 1 i ni ci true) (fun _=>⟨?_,?_⟩) ?_
  ·simp [ht,dR,bN];omega
  ·simp [ht,aV,aP,hni,qg]
  cbv
  refine bF (bD (ni:Nat)) [.row 1 es,.row 1 r,.bq] ?_ ?_ ?_ ?_
  ·simp only [ht,eR]
   refine ⟨by omega,⟨by omega,?_⟩,?_⟩
   ·intro h;rw [h] at mJ;simp at mJ;omega
   intro r hr;exact aC r (List.mem_of_mem_drop (List.mem_of_mem_take hr))
  ·simp [ht,ah]
  ·simp only [ht,oN]
   rw [List.take_of_length_le (by simp;omega)]
  cbv
  refine zw [true] trv ?_ rfl rfl rfl ?_
  ·simp only [ht];omega
  simp only [ht];rw [←BD]
 have Wx:n<c:=by
  refine hW _ fun e1 e2 e3=>?_
  simp [ht,ah,e1] at h2;omega
 clear h2
 obtain ⟨L1,uw⟩:∃L1,L1=wrote es i1 (es.drop i):=⟨_,rfl⟩
 have oN:r=wrote L1 i [x::row]:=by rw [uw,hi1,E2 (by omega),hr]
 have mJ:L1.length=n1:=by rw [uw];simp [wrote];omega
 cbv
 refine bF (.vw 0 1 0 n1 c true) [.row 1 es] ?_ ?_ rfl ?_
 ·refine hW _ fun e1 e2 e3=>?_
  simp [ht,ah,e1,dR,bN];omega
 ·refine hW _ fun e1 e2 e3=>?_
  simp [ht,ah,e1,aV,aP]
 cbv
 refine bF (.vw 0 1 i1 ni xy true) [.row 1 es] ?_ ?_ rfl ?_
 ·refine hW _ fun e1 e2 e3=>?_
  simp [ht,ah,e3,dR,bN];omega
 ·refine hW _ fun e1 e2 e3=>?_
  simp [ht,ah,e3,aV,aP];omega
 cbv
 refine dx trv (Ww (by omega)) ?_
 cbv
 refine lA (by simp [ht]) ?_
 cbv
 refine bS [false,false,false,false,false,false,false,false,true] ?_
 cbv
 repeat (refine gI (by (simp;done)) ?_)
 refine iy (.vw 0 1 i1 ni xy true) (fun _=>⟨?_,?_⟩) ?_
 ·refine hW _ fun e1 e2 e3=>?_
  simp [ht,ah,e3,dR,bN];omega
 ·refine hW _ fun e1 e2 e3=>?_
  simp [ht,ah,e3,aV,aP];omega
 cbv
 repeat (refine gI (by (simp;done)) ?_)
 refine iy (.vw 0 1 i pL ci true) (fun _=>⟨?_,?_⟩) ?_
 ·simp [ht,dR,bN];omega
 ·simp [ht,aV,aP,uv,qg]
 cbv
 refine bF (bD (ni:Nat)) [.row 1 L1,.bq] ?_ ?_ ?_ ?_
 ·simp only [ht,eR]
  refine ⟨by omega,⟨by omega,?_⟩,?_⟩
  ·intro h;rw [h] at hn;simp at hn;omega
  intro r hr;exact aC r (List.mem_of_mem_drop (List.mem_of_mem_take hr))
 ·simp [ht,ah];omega
 ·simp only [ht,uw]
  rw [List.take_of_length_le (by simp;omega)]
 cbv
 refine bF (.vw 0 1 i pL ci true) [.row 1 L1,.bq] ?_ ?_ rfl ?_
 ·simp [ht,dR,bN];omega
 ·simp [ht,aV,aP,uv,qg]
 cbv
 refine bF (bD 1) [.row 1 r,.bq] ?_ ?_ ?_ ?_
 ·simp only [ht,eR]
  refine ⟨⟨by omega,?_⟩,?_⟩
  ·intro h;rw [h] at mJ;simp at mJ;omega
  intro r hr;have:=List.mem_of_mem_take hr;simp at this;rw [this];exact hrow
 ·simp [ht,ah];omega
 ·simp [ht,oN,show min 1 pL=1 by omega]
 cbv
 refine zw [true] trv ?_ rfl rfl rfl ?_
 ·simp only [ht];omega
 simp only [ht];rw [←BD]
theorem H7 (ht:TT t) {es:List (List D)} {x:D} {row:List D} {i n:Nat} (hn:n=es.length) (hi:i≤n) (aC:∀r∈es,r.length=1) (hrow:(x::row).length=1) (hs:n<1000000) {r:List (List D)} (hr:r=es.take i++(x::row)::es.drop i):
 FC 198 [.ow 0 1 n,bD (i:Int),SL [x::row]] [.row 1 es] (.ret (SL r)) [.dead]:=
 dX fun c hc hc0=>Fc ht hn hi hc hc0 aC hrow hs hr
theorem Fe (ht:TT t) {l:List aH} {x:aH} {k:Nat} {i:Int} (hi:i=k) (hk:k≤l.length) (hl:l.length<1000000):
 FC 198 [.ow 0 1 (t _ fun _=>(l.map bB).length),bD i,.cl [[.str x]]] [.row 1 (t _ fun _=>l.map bB)] (.ret (SL (t _ fun _=>(l.take k++x::l.drop k).map bB))) [.dead]:=by
 simp only [ht];subst hi
 refine pn (args':=[.ow 0 1 (l.map bB).length,bD k,SL [bB x]]) ?_ (H7 ht (by simp) (by simpa using hk) ?_ rfl (by simpa using hl) (by simp))
 ·intro β w ok vs h
  simp only [ak] at h ⊢
  obtain ⟨u1,us1,rfl,h1,u2,Pn,rfl,h2,u3,WC,rfl,h3,h4⟩:=h
  exact ⟨u1,_,rfl,h1,u2,_,rfl,h2,u3,WC,rfl,L5 h3,h4⟩
 intro r hr;obtain ⟨y,_,rfl⟩:=List.mem_map.1 hr;rfl
theorem H8 (ht:TT t) (s:aH) (hs:s.length<1000000000000):FC 155 [ST s] [] (.ret (Hs t (t _ fun _=>above s))) []:=by
 have hp:=kq s
 have hl:=iz s
 refine cr ht Tryz.func155 (N:=7) ?_
 cbv
 refine jY trv (Mk ht s ‹_›) trv rfl (.inr rfl) ?_
 cbv
 refine dJ [0] trv rfl rfl (Fe ht (l:=mF s) (x:=[]) (k:=0) rfl (by omega) (by omega)) (cA ?_)
 cbv
 refine an ?_
 (simp [ht,above];done)
theorem vZ (ht:TT t) (s:aH) (hs:s.length<1000000000000):FC 125 [ST s] [] (.ret (cU (t _ fun _=>named s))) []:=by
 refine cr ht Tryz.func125 (N:=10) ?_
 cbv
 iterate 2 refine gI (by simp [ht]) ?_
 refine cj (fun g0=>⟨by simp [ht] at g0 ⊢;exact g0,trv,BJ ht _ _ ‹_›⟩) rfl rfl (fun r1 cM=>?_)
 simp only [ht] at cM
 cbv
 refine pI (by simp [ht]) ?_
 refine an ?_
 (simp [named, *];done)
theorem sP (ht:TT t) (s:aH) (hs:s.length<1000000000000):FC 127 [ST s] [] (.ret (Ty (t _ fun _=>parent s))) []:=by
 have hp:=kq s
 have hl:=iz s
 obtain ⟨ps,hps⟩:∃p,p=parent s:=⟨_,rfl⟩
 refine cr ht Tryz.func127 (N:=13) ?_
 cbv
 refine aD (H8 ht _ ‹_›) trv (fun r0 cN=>?_)
 simp only [ht] at cN
 have hla:(r0).length=(parts s).length+1:=by rw [cN];simp [above,iz]
 have hpx:(r0)[(r0).length-2]?=some ps:=by rw [hps,cN,parent,List.getD_eq_getElem?_getD,List.getElem?_eq_getElem (by rw [cN] at hla;omega)];rfl
 cbv
 (refine zx ht (l:=r0) (cells:=bB) (cT:=gC t) (i:=r0.length-2) (x:=ps) (by simp only [ht];done) hpx (by simp only [ht,ah,lgM];rw [wrap64 (by omega) (by omega)];omega) (fun _=>rfl) (fun _=>rfl) ?_)
 cbv
 refine an ?_
 (simp [ht,hps];done)
def aR.aS (_:Th) (e:aR):List D:=[.str e.path,.int .u64 e.dD.a,.int .u64 e.dD.b,.int .u64 e.dD.c,.int .u64 e.dD.d,.int .u64 e.used.a,.int .u64 e.used.b,.int .u64 e.used.c,.int .u64 e.used.d]
def Zk (e:aR):AV:=.agg [ST e.path,az e.dD.a,az e.dD.b,az e.dD.c,az e.dD.d,az e.used.a,az e.used.b,az e.used.c,az e.used.d]
def Zl (r:aR×Bool):AV:=.ek [Zk r.1,BL r.2]
def VA (t:Th) (l:List aR):AV:=SL (t _ fun _=>l.map aR.cells)
def BK (t:Th) (r:List aR×Int):AV:=.ek [VA t r.1,bD r.2]
theorem NJ (ht:TT t) (q:aH) {l:List (aR)} {es:List (List D)} (aC:es=l.map aR.cells) (f:Nat) (p:aR→Bool) (hl:l.length<9223372036854775807)
 (hf:∀x∈l,FC f [.agg [ST x.path,az x.dD.a,az x.dD.b,az x.dD.c,az x.dD.d,az x.used.a,az x.used.b,az x.used.c,az x.used.d],.ptr 0 0] [.var [ST q]] (.ret (BL (p x))) [.var [ST q]]) {r:Int} (hr:r=idxOf p l):FC 174 [SL es,.fn f [.ptr 0 0]] [.var [ST q]] (.ret (bD r)) [.var [ST q]]:=by
 have hel:es.length=l.length:=by rw [aC,lgM]
 refine jG ht (bz:=[.var [ST q]]) Tryz.func174 rfl rfl (N:=19) rfl rfl (n:=1) rfl rfl ?_
 cbv
 refine bA ⟨[0,1,7,8],[],[]⟩ (σ:=Nat) (fun k=>[(8,bD (t _ fun _=>(k:Int)))]) (fun _=>[]) (tF p l) ?_
 cbv
 refine aE ⟨l.length,0,.nil,by simp only [ht];rfl,fun n k hj=>?_⟩
 cbv
 apply ap<;>intro h
 ·simp only [ht,ah,decide_eq_true_eq] at h
  have hk:k<es.length:=by omega
  obtain ⟨x,hx,mQ,px,hpx⟩:=hj.get (by omega)
  have gJ:=hf x mQ
  rw [←hpx] at gJ
  obtain ⟨nm,⟨a,b,c,d⟩,⟨e,g,u,v⟩⟩:=x
  cbv
  refine ix [.str nm,.int .u64 a,.int .u64 b,.int .u64 c,.int .u64 d,.int .u64 e,.int .u64 g,.int .u64 u,.int .u64 v] ?_ ?_ ?_
  ·simp only [ht,ah];exact pK aC hk fun _=>rfl
  ·simp [ht,ah,aC,hx]
  cbv
  refine dx trv gJ ?_
  cbv
  apply ap<;>intro hb
  ·cbv
   refine an ?_
   simp only [ht,ah,hr,hj.hit hx (hpx▸hb)]
  cbv
  refine aE ⟨n-1,k+1,⟨hj.lt hx,hj.next hx (hpx▸hb)⟩,?_⟩
  simp only [ht,ah,aB (show k<9223372036854775807 by omega)];rfl
 simp only [ht,ah,decide_eq_false_iff_not] at h
 have hk:l.length≤k:=by omega
 clear h
 cbv
 refine an ?_
 rw [hr,hj.none hk]
theorem NK (ht:TT t) (q:aH) (x:aR):FC 175 [.agg [ST x.path,az x.dD.a,az x.dD.b,az x.dD.c,az x.dD.d,az x.used.a,az x.used.b,az x.used.c,az x.used.d],.ptr 0 0] [.var [ST q]] (.ret (BL (decide (x.path=q)))) [.var [ST q]]:=by
 obtain ⟨nm,⟨a,b,c,d⟩,⟨e,g,u,v⟩⟩:=x
 refine jG ht (bz:=[.var [ST q]]) Tryz.func175 rfl rfl (N:=8) rfl rfl (n:=1) rfl rfl ?_
 cbv
 refine an ?_
 simp [ht]
theorem kD (ht:TT t) (q:aH) {l:List aR} {es:List (List D)} (aC:es=l.map aR.cells) (hl:l.length<1000000000):
 FC 126 [SL es,ST q] [] (.ret (kp (t _ fun _=>bP l q))) []:=by
 obtain ⟨r,hr⟩:∃r,r=bP l q:=⟨_,rfl⟩
 refine cr ht Tryz.func126 (N:=8) ?_
 cbv
 refine dx trv (NJ ht q aC 175 (fun x=>decide (x.path=q)) (by omega) (fun x _=>NK ht q x) (r:=r) hr) ?_
 cbv
 exact an (by simp [ht,hr])
theorem Ff {l:List aR} {q:aH} {r:Int} (h:r=bP l q):(r=-1∧ru l q=(aR.zero,false))∨∃(k:Nat) (x:aR),r=k∧k<l.length∧l[k]?=some x∧ru l q=(x,true):=by
 rcases cD (p:=fun e:aR=>decide (e.path=q)) (l:=l) (r:=r) h with ⟨e1,e2,e3⟩|⟨i,x,hi,hil,e1,e2,e3,e4⟩
 ·exact .inl ⟨e1,by simp [ru,e3]⟩
 exact .inr ⟨i,x,hi,hil,e1,by simp [ru,e4]⟩
theorem Q5 (ht:TT t) (q:aH) {l:List aR} {es:List (List D)} (aC:es=l.map aR.cells) (hl:l.length<1000000000):
 FC 180 [SL es,ST q] [] (.ret (Zl (t _ fun _=>ru l q))) []:=by
 refine cr ht Tryz.func180 (N:=17) ?_
 cbv
 have aF:es.length=l.length:=by rw [aC,lgM]
 refine aG (kD ht _ ‹_› ‹_›) trv (fun r0 cN=>?_)
 simp only [ht] at cN
 have ec:=Ff cN
 clear cN
 rcases ec with ⟨e1,e2⟩|⟨i,x,hi,hil,e1,e2⟩
 ·cbv
  apply ap<;>intro h1
  ·simp [ht] at h1
   cbv
   refine an ?_
   (simp [ht,e2,aR.zero,bE.zero];done)
  simp [ht] at h1
  omega
 cbv
 apply ap<;>intro h2
 ·simp [ht] at h2
  (simp only [ah] at*;omega)
 simp [ht] at h2
 cbv
 refine zx ht aC (cT:=aR.aS t) e1 ‹_› (fun _=>rfl) (fun _=>rfl) ?_
 cbv
 refine an ?_
 (simp [ht,e2];done)
theorem T9 (ht:TT t) (a b c d:Int):FC 90 [V4 a b c d] [] (.ret (VA t (t _ fun _=>[⟨[],⟨a,b,c,d⟩,bE.zero⟩]))) []:=by
 refine cr ht Tryz.func90 (N:=6) ?_
 cbv
 refine an ?_
 (simp [ht,bE.zero];done)
def Jb.aS (t:Th) (j:Jb):List D:=[.int .u64 j.id,.str j.x.path,.int .u64 j.x.gB.a,.int .u64 j.x.gB.b,.int .u64 j.x.gB.c,.int .u64 j.x.gB.d,.int .i64 j.x.count,.int .i64 j.x.prio,.int .i64 j.x.eZ,.sl (t _ fun _=>j.x.bY.map Term.cells),.bool j.runs,.int .i64 j.left]
def EJb (t:Th) (j:Jb):AV:=.agg [az j.id,ST j.x.path,az j.x.gB.a,az j.x.gB.b,az j.x.gB.c,az j.x.gB.d,bD j.x.count,bD j.x.prio,bD j.x.eZ,SL (t _ fun _=>j.x.bY.map Term.cells),BL j.runs,bD j.left]
def WI (t:Th) (r:Jb×Bool):AV:=.ek [EJb t r.1,BL r.2]
theorem H9 (ht:TT t) (id:Int) {l:List (Jb)} {es:List (List D)} (aC:es=l.map Jb.cells) (f:Nat) (p:Jb→Bool) (hl:l.length<9223372036854775807)
 (hf:∀x∈l,FC f [.agg [az x.id,ST x.x.path,az x.x.gB.a,az x.x.gB.b,az x.x.gB.c,az x.x.gB.d,bD x.x.count,bD x.x.prio,bD x.x.eZ,SL (x.x.bY.map Term.cells),BL x.runs,bD x.left],.ptr 0 0] [.var [az id]] (.ret (BL (p x))) [.var [az id]]) {r:Int} (hr:r=idxOf p l):FC 70 [SL es,.fn f [.ptr 0 0]] [.var [az id]] (.ret (bD r)) [.var [az id]]:=by
 have hel:es.length=l.length:=by rw [aC,lgM]
 refine jG ht (bz:=[.var [az id]]) Tryz.func70 rfl rfl (N:=19) rfl rfl (n:=1) rfl rfl ?_
 cbv
 refine bA ⟨[0,1,7,8],[],[]⟩ (σ:=Nat) (fun k=>[(8,bD (t _ fun _=>(k:Int)))]) (fun _=>[]) (tF p l) ?_
 cbv
 refine aE ⟨l.length,0,.nil,by simp only [ht];rfl,fun n k hj=>?_⟩
 cbv
 apply ap<;>intro h
 ·simp only [ht,ah,decide_eq_true_eq] at h
  have hk:k<es.length:=by omega
  obtain ⟨x,hx,mQ,px,hpx⟩:=hj.get (by omega)
  have gJ:=hf x mQ
  rw [←hpx] at gJ
  obtain ⟨id',⟨p',⟨a',b',c',d'⟩,n',XP,LJ,sW⟩,XQ,XR⟩:=x;obtain ⟨HS,mK⟩:∃lr:List (List D),lr=sW.map Term.cells:=⟨_,rfl⟩;simp only [←mK] at gJ
  cbv
  refine ix [.int .u64 id',.str p',.int .u64 a',.int .u64 b',.int .u64 c',.int .u64 d',.int .i64 n',.int .i64 XP,.int .i64 LJ,.sl HS,.bool XQ,.int .i64 XR] ?_ ?_ ?_
  ·simp only [ht,ah];exact pK aC hk fun _=>rfl
  ·simp [ht,ah,aC,hx,mK,Jb.cells]
  cbv
  refine dx trv gJ ?_
  cbv
  apply ap<;>intro hb
  ·cbv
   refine an ?_
   simp only [ht,ah,hr,hj.hit hx (hpx▸hb)]
  cbv
  refine aE ⟨n-1,k+1,⟨hj.lt hx,hj.next hx (hpx▸hb)⟩,?_⟩
  simp only [ht,ah,aB (show k<9223372036854775807 by omega)];rfl
 simp only [ht,ah,decide_eq_false_iff_not] at h
 have hk:l.length≤k:=by omega
 clear h
 cbv
 refine an ?_
 rw [hr,hj.none hk]
theorem NL (ht:TT t) (id i n k l a b c d:Int) (p:aH) (sr:List (List D)) (rn:Bool) (lf:Int):FC 99 [.agg [az i,ST p,az a,az b,az c,az d,bD n,bD k,bD l,SL sr,BL rn,bD lf],.ptr 0 0] [.var [az id]] (.ret (BL (decide (i=id)))) [.var [az id]]:=by
 refine jG ht (bz:=[.var [az id]]) Tryz.func99 rfl rfl (N:=8) rfl rfl (n:=1) rfl rfl ?_
 cbv
 refine an ?_
 simp [ht]
theorem sQ (ht:TT t) (id rd nx ef af:Int) (ns ps ts qs el al:List (List D)) {l:List Jb} {es:List (List D)} (aC:es=l.map Jb.cells) (hl:l.length<1000000000):
 FC 43 [.agg [az rd,az nx,SL ns,SL ps,SL ts,SL es,SL qs,az ef,SL el,az af,SL al],az id] [] (.ret (kp (t _ fun _=>EW l id))) []:=by
 obtain ⟨r,hr⟩:∃r,r=EW l id:=⟨_,rfl⟩
 refine cr ht Tryz.func43 (N:=9) ?_
 cbv
 refine dJ [1] trv rfl rfl (H9 ht id aC 99 (fun x=>decide (x.id=id)) (by omega) (fun x _=>NL ht id _ _ _ _ _ _ _ _ _ _ _ _) (r:=r) hr) (cA ?_)
 cbv
 exact an (by simp [ht,hr])
theorem mM (ht:TT t) (id rd nx ef af:Int) (ns ps ts qs el al:List (List D)) {l:List Jb} {es:List (List D)} (aC:es=l.map Jb.cells) (hl:l.length<1000000000):
 FC 17 [.agg [az rd,az nx,SL ns,SL ps,SL ts,SL es,SL qs,az ef,SL el,az af,SL al],az id] [] (.ret (WI t (t _ fun _=>bC l id))) []:=by
 refine cr ht Tryz.func17 (N:=18) ?_
 cbv
 have aF:es.length=l.length:=by rw [aC,lgM]
 refine aG (sQ ht _ _ _ _ _ _ _ _ _ _ _ ‹_› ‹_›) trv (fun r0 cN=>?_)
 simp only [ht] at cN
 have ec:=cD cN
 clear cN
 rcases ec with ⟨e1,e2,e3⟩|⟨i,x,hi,hil,e1,e2,e3,e4⟩
 ·cbv
  apply ap<;>intro h1
  ·simp [ht] at h1
   cbv
   refine an ?_
   (simp [ht,bC,e3,Jb.zero,Ask.zero,bE.zero];done)
  simp [ht] at h1
  omega
 cbv
 apply ap<;>intro h2
 ·simp [ht] at h2
  (simp only [ah] at*;omega)
 simp [ht] at h2
 cbv
 refine zx ht aC (cT:=Jb.aS t) e1 ‹_› (fun _=>rfl) (fun _=>(by (simp only [ht,Jb.aS];rfl))) ?_
 cbv
 refine an ?_
 (simp [ht,bC,e4];done)
theorem NM (ht:TT t) (ts:List (List D)) {l:List (aH)} {es:List (List D)} (aC:es=l.map bB) (f:Nat) (p:aH→Bool) (hl:l.length<9223372036854775807)
 (hf:∀x∈l,FC f [.d (.str x),.ptr 0 0] [.var [SL ts]] (.ret (BL (p x))) [.var [SL ts]]) {r:Int} (hr:r=idxOf p l):FC 199 [SL es,.fn f [.ptr 0 0]] [.var [SL ts]] (.ret (bD r)) [.var [SL ts]]:=by
 have hel:es.length=l.length:=by rw [aC,lgM]
 refine jG ht (bz:=[.var [SL ts]]) Tryz.func199 rfl rfl (N:=19) rfl rfl (n:=1) rfl rfl ?_
 cbv
 refine bA ⟨[0,1,7,8],[],[]⟩ (σ:=Nat) (fun k=>[(8,bD (t _ fun _=>(k:Int)))]) (fun _=>[]) (tF p l) ?_
 cbv
 refine aE ⟨l.length,0,.nil,by simp only [ht];rfl,fun n k hj=>?_⟩
 cbv
 apply ap<;>intro h
 ·simp only [ht,ah,decide_eq_true_eq] at h
  have hk:k<es.length:=by omega
  obtain ⟨x,hx,mQ,px,hpx⟩:=hj.get (by omega)
  have gJ:=hf x mQ
  rw [←hpx] at gJ
  skip
  cbv
  refine ix [.str x] ?_ ?_ ?_
  ·simp only [ht,ah];exact pK aC hk fun _=>rfl
  ·simp [ht,ah,aC,hx]
  cbv
  refine dx trv gJ ?_
  cbv
  apply ap<;>intro hb
  ·cbv
   refine an ?_
   simp only [ht,ah,hr,hj.hit hx (hpx▸hb)]
  cbv
  refine aE ⟨n-1,k+1,⟨hj.lt hx,hj.next hx (hpx▸hb)⟩,?_⟩
  simp only [ht,ah,aB (show k<9223372036854775807 by omega)];rfl
 simp only [ht,ah,decide_eq_false_iff_not] at h
 have hk:l.length≤k:=by omega
 clear h
 cbv
 refine an ?_
 rw [hr,hj.none hk]
theorem NN (ht:TT t) (ts:List (List D)) {l:List (aH)} {es:List (List D)} (aC:es=l.map bB) (f:Nat) (p:aH→Bool) (hl:l.length<9223372036854775807)
 (hf:∀x∈l,FC f [.d (.str x),.ptr 0 0] [.var [SL ts]] (.ret (BL (p x))) [.var [SL ts]]) {r:Bool} (hr:r=l.any p):FC 156 [SL es,.fn f [.ptr 0 0]] [.var [SL ts]] (.ret (BL r)) [.var [SL ts]]:=by
 obtain ⟨k,hk⟩:∃k,k=idxOf p l:=⟨_,rfl⟩
 refine jG ht (bz:=[.var [SL ts]]) Tryz.func156 rfl rfl (N:=9) rfl rfl (n:=1) rfl rfl ?_
 cbv
 refine dx trv (NM ht ts aC f p hl hf hk) ?_
 cbv
 refine an ?_
 simp only [ht,hr,fh,hk]
theorem Q6 (ht:TT t) (q:aH) {l:List aR} {es:List (List D)} (aC:es=l.map aR.cells) (hl:l.length<1000000000) {r:Bool} (hr:r=!(ru l q).2):
 FC 179 [ST q,.ptr 0 0] [.var [SL es]] (.ret (BL r)) [.var [SL es]]:=by
 refine jG ht (bz:=[.var [SL es]]) Tryz.func179 rfl rfl (N:=14) rfl rfl (n:=1) rfl rfl ?_
 cbv
 have aF:es.length=l.length:=by rw [aC,lgM]
 refine aG (Q5 ht _ ‹_› ‹_›) trv (fun r0 cN=>?_)
 simp only [ht] at cN
 cbv
 refine an ?_
 (simp [*];done)
theorem xD (ht:TT t) (p:aH) {l:List aR} {es:List (List D)} (aC:es=l.map aR.cells) (hl:l.length<1000000000) (hp:p.length<1000000000000):
 FC 133 [SL es,ST p] [] (.ret (cU (t _ fun _=>gV l p))) []:=by
 have h1:=kq p
 have h2:=iz p
 obtain ⟨ws,hws⟩:∃ws,ws=mF p++[[]]:=⟨_,rfl⟩
 obtain ⟨r9,gD⟩:∃r,r=ws.any (fun q=>!(ru l q).2):=⟨_,rfl⟩
 refine cr ht Tryz.func133 (N:=12) ?_
 cbv
 have aF:es.length=l.length:=by rw [aC,lgM]
 refine jY trv (Mk ht p ‹_›) trv rfl (.inr rfl) ?_
 cbv
 refine ⟨?_,?_⟩
 ·(simp only [ht];grind)
 cbv
 (refine Vs (v:=BL r9) trv rfl (by simp [ht]) (by exact cR [0] rfl rfl rfl rfl (NN ht es (l:=ws) (by simp only [ht,hws];simp) 179 (fun q=>!(ru l q).2) (by rw [hws];simp;omega) (fun x _=>Q6 ht x aC hl rfl) gD)) ?_)
 cbv
 refine an ?_
 (simp only [ht,gV,←hws,←gD];done)
end Dem
end
